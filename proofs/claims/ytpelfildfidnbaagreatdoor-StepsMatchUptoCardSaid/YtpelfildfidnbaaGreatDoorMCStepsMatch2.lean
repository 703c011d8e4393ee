/- Part 2 of a proof: V60, V80, V61, V62, V63, V64, V65, V66, V24, V25, V67, V81, V26, V27, V28, V29, V85, V40, V41, V89, V88, A61, V92, V68, V69, V86, V17, V87, V93, V97, A45, A46, A47, A48, A49, A50, A51, A52, A53, A54, A55, A56, A57, A58, A59, A60, A66, W110, W111, W112, V94, V98, W113, V99, W114, V100, V101, V102, V103, A67, A68, W115, A65, V104, V105, W116, ShelfK, L6. -/
import Derived.Lib.Bytealg
import Derived.Sort.Walk0
import Derived.Lib.Replace
import Derived.Lib.Join
import Derived.Shelf.SortM.Plain
import Derived.Shelf.SortM.SortNone
import Derived.Laws.LoneSync
import Derived.Defers
import Derived.Laws.CopyRow
import Derived.Shelf.SlIter.Nil
import Derived.Ground.GgzProg
import Derived.Ground.SlgmProg
import Derived.Test.YtpelfildfidnbaaGreatDoorProg
import Derived.Test.YtpelfildfidnbaaGreatDoorMCStepsMatch1
set_option linter.unusedVariables false
set_option linter.unusedSimpArgs false
set_option maxRecDepth 100000
set_option maxHeartbeats 4000000
namespace Go.Proofs.YtpelfildfidnbaaGreatDoor
section
open Go
abbrev L8 := List UInt8
abbrev Fm := L8 → Option L8
def lk : Tab → Fm
 | [], _ => none
 | x :: l, k => if k == x.1 then some x.2 else lk l k
theorem has_lk (t : Tab) (k : L8) : hasL beqS t k = (lk t k).isSome := by
 induction t with
 | nil => rfl
 | cons x l ih =>
  unfold lk hasL
  by_cases h : (k == x.1) = true
  ·skip
   rw [if_pos h]; simp [beqS, h]
  ·skip
   rw [if_neg h]
   simp only [List.any_cons, beqS, h, Bool.false_or]
   exact ih
theorem get_lk (t : Tab) (k : L8) : getL beqS [] t k = (lk t k).getD [] := by
 induction t with
 | nil => rfl
 | cons x l ih =>
  unfold lk getL
  by_cases h : (k == x.1) = true
  ·skip
   rw [if_pos h]; simp [beqS, h]
  ·skip
   rw [if_neg h]; simp [beqS, h, ih]
def setF (f : Fm) (k v : L8) : Fm := fun q => if q == k then some v else f q
theorem lk_set (t : Tab) (k v : L8) : lk (setL beqS t k v) = setF (lk t) k v := by
 funext q
 induction t with
 | nil => simp [setL, lk, setF]
 | cons x l ih =>
  unfold setL
  by_cases h : (k == x.1) = true
  ·skip
   simp only [beqS, h, cond_true]
   have hk := beq_iff_eq.1 h
   unfold lk setF
   simp only
   by_cases hq : (q == k) = true
   ·skip
    rw [if_pos hq, if_pos hq]
   ·skip
    rw [if_neg hq, if_neg hq]
    rw [hk] at hq
    conv => rhs; unfold lk
    rw [if_neg hq]
  ·skip
   simp only [beqS, h, cond_false]
   unfold lk
   by_cases hq : (q == x.1) = true
   ·skip
    rw [if_pos hq]
    unfold setF
    have : ¬ (q == k) = true := fun hqk => h (by rw [← beq_iff_eq.1 hqk]; exact hq)
    rw [if_neg this]
    conv => rhs; unfold lk
    rw [if_pos hq]
   ·skip
    rw [if_neg hq, ih]
    unfold setF
    by_cases hqk : (q == k) = true
    ·skip
     rw [if_pos hqk, if_pos hqk]
    ·skip
     rw [if_neg hqk, if_neg hqk]
     conv => rhs; unfold lk
     rw [if_neg hq]
theorem hasPrefix_iff {a b : L8} : Lib.hasPrefix a b = true ↔ ∃ s, a = b ++ s := by
 unfold Lib.hasPrefix
 constructor
 ·skip
  intro h
  have := List.isPrefixOf_iff_prefix.1 h
  obtain ⟨s, hs⟩ := this
  exact ⟨s, hs.symm⟩
 ·skip
  rintro ⟨s, rfl⟩
  exact List.isPrefixOf_iff_prefix.2 (List.prefix_append _ _)
end
end Go.Proofs.YtpelfildfidnbaaGreatDoor
namespace Go.Proofs.YtpelfildfidnbaaGreatDoor
section
open Go
theorem path_len {s : L8} (h : pathB s = true) : s.length ≤ 200 := by
 unfold pathB at h
 rw [Bool.and_eq_true] at h
 have := of_decide_eq_true h.2
 omega
end
end Go.Proofs.YtpelfildfidnbaaGreatDoor
namespace Go.Proofs.YtpelfildfidnbaaGreatDoor
section
open Go
theorem mem_getD {α : Type} {l : List α} {i : Nat} {d : α} (hi : i < l.length) : l.getD i d ∈ l := by
 rw [List.getD_eq_getElem?_getD, List.getElem?_eq_getElem hi]; exact List.getElem_mem hi
end
end Go.Proofs.YtpelfildfidnbaaGreatDoor
namespace Go.Proofs.YtpelfildfidnbaaGreatDoor
section
open Go
theorem value_len {v : L8} (h : valueB v = true) : v.length ≤ 1000 := by
 unfold valueB at h
 rw [Bool.or_eq_true] at h
 rcases h with h | h
 ·skip
  rw [beq_iff_eq.1 h]; simp
 ·skip
  unfold eachB at h; simp at h; omega
end
end Go.Proofs.YtpelfildfidnbaaGreatDoor
namespace Go.Proofs.YtpelfildfidnbaaGreatDoor
section
open Go
theorem LeV.tup3 {a a' b b' c c' : V} (h1 : LeV a a') (h2 : LeV b b') (h3 : LeV c c') : LeV (.tup [a, b, c]) (.tup [a', b', c']) := fun im w v h => by
  cases h with | tup _ vs hl hx =>
  refine .tup _ _ hl (fun i u v h4 h5 => ?_)
  match i with
  | 0 => obtain rfl : a' = u := by simpa using h4
         exact h1 _ _ _ (hx 0 a v rfl h5)
  | 1 => obtain rfl : b' = u := by simpa using h4
         exact h2 _ _ _ (hx 1 b v rfl h5)
  | 2 => obtain rfl : c' = u := by simpa using h4
         exact h3 _ _ _ (hx 2 c v rfl h5)
  | i + 3 => simp at h4
end
end Go.Proofs.YtpelfildfidnbaaGreatDoor
namespace Go.Proofs.YtpelfildfidnbaaGreatDoor
section
open Go
abbrev SetT := List (L8 × Bool)
def setD (s : SetT) : List (DV × DV) := mapOf D.str (fun v : Bool => DV.one (.bool v)) s
end
end Go.Proofs.YtpelfildfidnbaaGreatDoor
namespace Go.Proofs.YtpelfildfidnbaaGreatDoor
section
open Go Go.RowKit
theorem le_trS (a b c : L8) (h1 : leB a b = true) (h2 : leB b c = true) : leB a c = true := by simp only [leB, decide_eq_true_eq] at *; exact List.le_trans h1 h2
theorem le_toS (a b : L8) : (leB a b || leB b a) = true := by simp only [leB, Bool.or_eq_true, decide_eq_true_eq]; exact List.le_total a b
end
end Go.Proofs.YtpelfildfidnbaaGreatDoor
namespace Go.Proofs.YtpelfildfidnbaaGreatDoor
section
open Go
theorem tab_lk {l : List Stg} (hd : (l.map (·.k)).Nodup) : ∀ i, i ≤ l.length → ∀ q, lk (tabTo l i) q = ((l.take i).find? (fun s => s.k == q)).map (·.v)
  | 0, _, q => rfl
  | i + 1, hi, q => by
    have hi' : i < l.length := by omega
    show lk (setL beqS (tabTo l i) (l.getD i Stg.z).k (l.getD i Stg.z).v) q = _
    rw [lk_set, take_getD (d := Stg.z) hi', List.find?_append]
    unfold setF
    have ih := tab_lk hd i (by omega) q
    by_cases hq : (q == (l.getD i Stg.z).k) = true
    · rw [if_pos hq]
      have hq' := beq_iff_eq.1 hq
      have : (l.take i).find? (fun s => s.k == q) = none := by
        rw [List.find?_eq_none]
        intro s hs hsk
        have hsk := beq_iff_eq.1 hsk
        obtain ⟨j, hj, hje⟩ := List.getElem_of_mem hs
        have hj2 : j < i := by simp at hj; omega
        have e1 : (l.map (·.k))[j]? = some q := by
          rw [List.getElem?_map, List.getElem?_eq_getElem (by omega)]
          have : l[j] = s := by rw [← hje, List.getElem_take]
          rw [this, ← hsk]; rfl
        have e2 : (l.map (·.k))[i]? = some q := by
          rw [List.getElem?_map, List.getElem?_eq_getElem hi', hq', List.getD_eq_getElem?_getD, List.getElem?_eq_getElem hi']; rfl
        have := (List.getElem?_inj (List.getElem?_eq_some_iff.1 e1).1 hd).1 (e1.trans e2.symm)
        omega
      rw [this]
      simp [hq', List.find?]
    · rw [if_neg hq, ih]
      have h2 : ((l.getD i Stg.z).k == q) = false := by
        rw [beq_eq_false_iff_ne]; intro h; exact hq (by rw [h]; exact beq_self_eq_true _)
      cases (l.take i).find? (fun s => s.k == q) with
      | some s => rfl
      | none =>
        have e : [l.getD i Stg.z].find? (fun s => s.k == q) = none := by rw [List.find?_cons, h2]; rfl
        rw [e]; rfl
end
section
open Go Go.Sort
theorem cb_lt : ∀ (a b : L8), Lib.compareBytes a b < 0 ↔ a < b
  | [], [] => by simp [Lib.compareBytes]
  | [], _ :: _ => by simp [Lib.compareBytes]
  | _ :: _, [] => by simp [Lib.compareBytes]
  | a :: l, b :: m => by
    have ih := cb_lt l m
    rw [List.cons_lt_cons_iff]
    by_cases h1 : a < b
    · simp [Lib.compareBytes, h1]
    · by_cases h2 : b < a
      · have hne : a ≠ b := fun e => by rw [e] at h2; exact UInt8.lt_irrefl _ h2
        simp [Lib.compareBytes, h1, h2, hne]
      · have he : a = b := UInt8.le_antisymm (UInt8.not_lt.1 h2) (UInt8.not_lt.1 h1)
        simp only [Lib.compareBytes, h1, h2, if_false, false_or, he, true_and, UInt8.lt_irrefl]
        exact ih
end
end Go.Proofs.YtpelfildfidnbaaGreatDoor
namespace Go.Proofs.YtpelfildfidnbaaGreatDoor
section
open Go
def errsN (n : Nat) (f : Nat → Int) : Int := firstNe ((List.range n).map f)
def OkTo (f : Nat → Int) (i : Nat) : Prop := ∀ j, j < i → f j = 0
theorem ok_0 (f : Nat → Int) : OkTo f 0 := fun j h => absurd h (Nat.not_lt_zero _)
theorem ok_s {f : Nat → Int} {i : Nat} (h : OkTo f i) (hi : f i = 0) : OkTo f (i + 1) := fun j hj => by
  rcases Nat.lt_or_ge j i with h1 | h1
  · exact h j h1
  · obtain rfl : j = i := by omega
    exact hi
theorem ok_take {n : Nat} {f : Nat → Int} {i : Nat} (h : OkTo f i) : (((List.range n).map f).take i).all (· == 0) = true := by
 rw [List.all_eq_true]
 intro x hx
 obtain ⟨j, hj, he⟩ := List.getElem_of_mem hx
 simp only [List.length_take, List.length_map, List.length_range] at hj
 simp only [List.getElem_take, List.getElem_map, List.getElem_range] at he
 rw [← he, h j (by omega)]; rfl
theorem errs_hit {n : Nat} {f : Nat → Int} {i : Nat} {e : Int} (hi : i < n) (h : OkTo f i) (c : f i = e) (he : e ≠ 0) : errsN n f = e := by
 have hg : ((List.range n).map f).getD i 0 = e := by simp [List.getD_eq_getElem?_getD, hi, c]
 unfold errsN
 rw [firstNe_hit (by simpa using hi) (ok_take h) (by rw [hg]; exact he), hg]
theorem errs_none {n : Nat} {f : Nat → Int} {i : Nat} (hi : n ≤ i) (h : OkTo f i) : errsN n f = 0 := firstNe_none (by simpa using hi) (ok_take h)
theorem errs_ok {n : Nat} {f : Nat → Int} (h : errsN n f = 0) : OkTo f n := fun j hj => by
 have := firstNe_zero h
 exact this (f j) (List.mem_map.2 ⟨j, List.mem_range.2 hj, rfl⟩)
end
section
open Go
structure Fl where
 p : L8
 d : L8
 r : Bool
structure Svc where
 n : L8
 p : L8
 au : Bool
 on : Bool
def Fl.z : Fl := ⟨[], [], false⟩
def Svc.z : Svc := ⟨[], [], false, false⟩
def flD (f : Fl) : List D := [.str f.p, .str f.d, .bool f.r]
def svD (s : Svc) : List D := [.str s.n, .str s.p, .bool s.au, .bool s.on]
structure Mac where
 fa : List Stg
 fl : List Fl
 se : List Stg
 sv : List Svc
def dirTo (p : L8) : Nat → List L8
 | 0 => []
 | i + 1 => dirTo p i ++ (if p.getD i 0 == 47 then [p.take i] else [])
def dirs (p : L8) : List L8 := dirTo p p.length
theorem dirTo_s {p : L8} {i : Nat} (φ : L8 → Bool) : (dirTo p (i + 1)).all φ = ((dirTo p i).all φ && (if p.getD i 0 == 47 then φ (p.take i) else true)) := by
 show (dirTo p i ++ _).all φ = _
 rw [List.all_append]
 congr 1
 split <;> simp
theorem dirTo_in {p : L8} : ∀ {n i : Nat}, i < n → (p.getD i 0 == 47) = true → p.take i ∈ dirTo p n
  | 0, i, h, _ => absurd h (Nat.not_lt_zero _)
  | n + 1, i, h, hc => by
    show _ ∈ dirTo p n ++ _
    rcases Nat.lt_or_ge i n with h1 | h1
    · exact List.mem_append_left _ (dirTo_in h1 hc)
    · obtain rfl : i = n := by omega
      rw [if_pos hc]; exact List.mem_append_right _ (List.mem_singleton.2 rfl)
theorem dirs_all_no {p : L8} {φ : L8 → Bool} {i : Nat} (hi : i < p.length) (hc : (p.getD i 0 == 47) = true) (h : φ (p.take i) = false) : (dirs p).all φ = false := by
 rw [Bool.eq_false_iff]
 intro h1
 rw [List.all_eq_true] at h1
 rw [h1 _ (dirTo_in hi hc)] at h; cases h
def stgO (φ : Bool) (s : Stg) : Int := if !φ then 5 else if !valueB s.v then 2 else 0
def svO (s : Svc) : Int := if !nameB s.n || !pathB s.p then 5 else 0
def svAt (l : List Svc) (i : Nat) : Int := if !nameB (l.getD i Svc.z).n || !pathB (l.getD i Svc.z).p then 5 else if decide ((i : Int) > 0) && leS (l.getD i Svc.z).n (l.getD (i - 1) Svc.z).n then 7 else 0
def svE (l : List Svc) : Int := errsN l.length (svAt l)
def flO (f : Fl) : Int := if !pathB f.p then 5 else if decide ((f.d.length : Int) > 65536) then 4 else 0
def clear (l : List Fl) (i : Nat) : Bool := (dirs (l.getD i Fl.z).p).all fun d => !(l.take i).any fun f => d == f.p
def flAt (l : List Fl) (i : Nat) : Int :=
 if flO (l.getD i Fl.z) != 0 then flO (l.getD i Fl.z) else if decide ((i : Int) > 0) && leS (l.getD i Fl.z).p (l.getD (i - 1) Fl.z).p then 7 else if !clear l i then 11 else 0
def flE (l : List Fl) : Int := errsN l.length (flAt l)
def chkM (m : Mac) : Int :=
 if ((decide ((m.fa.length : Int) > 100) || decide ((m.fl.length : Int) > 2000)) || decide ((m.se.length : Int) > 2000)) || decide ((m.sv.length : Int) > 100) then 4
 else if listE nameB m.fa != 0 then listE nameB m.fa else if flE m.fl != 0 then flE m.fl else if listE pathB m.se != 0 then listE pathB m.se else svE m.sv
structure StgA (l : List Stg) : Prop where
 n : l.length ≤ 2000000
 s : ∀ s ∈ l, s.k.length ≤ 2000000 ∧ s.v.length ≤ 2000000
structure SvcA (l : List Svc) : Prop where
 n : l.length ≤ 2000000
 s : ∀ s ∈ l, s.n.length ≤ 2000000 ∧ s.p.length ≤ 2000000
structure FlA (l : List Fl) : Prop where
 n : l.length ≤ 2000000
 s : ∀ f ∈ l, f.p.length ≤ 2000000 ∧ f.d.length ≤ 2000000
structure MacA (m : Mac) : Prop where
 fa : StgA m.fa
 fl : FlA m.fl
 se : StgA m.se
 sv : SvcA m.sv
end
end Go.Proofs.YtpelfildfidnbaaGreatDoor
namespace Go.Proofs.YtpelfildfidnbaaGreatDoor
section
open Go Go.RowKit
section
variable {J : Inv} {k0 : Lens} {E : Env J k0} {P : Program} {T : TypeId → Option TI} {n : Nat} {t : Nat → V} {b : List (List C)} {r : List (Option RowO)} {m : List (List (DV × DV))} {ops : Array Oper} {l : List Oper}
  {K : St → Prop} {i : Nat} {ty : TypeId} {pos : String} {after : Array Edge}
theorem run_eqNil0 {w : World} {t0 e : TypeId} (d : Nat) (a : Option Addr) (j c : Nat) (h : P.underlying t0 = some (.slice e)) : (Op.equalIn (d + 1) t0 (.slice a j c) (.slice none 0 0)).run P w = .ok a.isNone w := by
 cases a <;> simp [Op.equalIn, run_underlying h]
theorem run_eqNil {w : World} {t0 e : TypeId} {x y : Operand} (a : Option Addr) (j c : Nat) (h : P.underlying t0 = some (.slice e)) :
  ((do eqGuard .eql t0 x y (.slice a j c) (.slice none 0 0); Go.binOp .eql t0 (.slice a j c) (.slice none 0 0)) : Sem Value).run P w = .ok (.bool a.isNone) w := by
 have h1 : (eqGuard .eql t0 x y (.slice a j c) (.slice none 0 0)).run P w = .ok () w := rfl
 have h2 : (Op.equal t0 (.slice a j c) (.slice none 0 0)).run P w = .ok a.isNone w := run_eqNil0 9999 a j c h
 simp only [Sem.run_bind, h1, Result.andThen_ok]
 unfold Go.binOp
 simp only [Sem.run_bind, h2, Result.andThen_ok, Sem.run_pure]
theorem S.eqNil (hT : TabOk P T) {t0 t1 e : TypeId} {ti : TI} {x y : Operand} {sz : Nat} {xs : List (List D)} (hti : T t0 = some ti) (hd : ti.desc = .slice e) (hx : opd n ⟨t, b, r, m⟩ x = (true, .one (.d (.vec sz xs)))) (hy : y = .const (.slice none 0 0))
    (k : ∀ q : Bool, (q = true → xs = []) → WL E P n ops l K ⟨upd t i (.one (.d (.bool q))), b, r, m⟩) : WL E P n ops (⟨some i, .binOp .eql t0 x y t1, ty, pos, after, none⟩ :: l) K ⟨t, b, r, m⟩ := by
  subst hy
  intro g a w rel next Q hn
  have hw : Region.wanted (⟨some i, .binOp .eql t0 x (.const (.slice none 0 0)) t1, ty, pos, after, none⟩ : Oper) (yielded ops a.tmps) = true := by simp [Region.wanted]
  rw [if_pos hw]
  have hv := opd_ok rel hx rfl
  have h1 := (hT t0 ti hti).1
  rw [hd] at h1
  have hsl : ∃ A j c, a.eval x = .slice A j c ∧ (A.isNone = true → xs = []) := by
    generalize a.eval x = xv at hv
    cases hv with | one _ _ hv => cases hv with | d _ _ hv => cases hv with
      | empty A c => exact ⟨_, _, _, rfl, fun _ => rfl⟩
      | vec b' o c u hne hc hb hsz hcell hrd => exact ⟨_, _, _, rfl, fun h => by cases h⟩
  obtain ⟨A, j, c, he, hn0⟩ := hsl
  have hex : (execOp a.eval (⟨some i, .binOp .eql t0 x (.const (.slice none 0 0)) t1, ty, pos, after, none⟩ : Oper)).run P w = .ok (.value (.bool A.isNone)) w := by
    show ((do let v ← ((do eqGuard .eql t0 x (.const (.slice none 0 0)) (a.eval x) (.slice none 0 0); Go.binOp .eql t0 (a.eval x) (.slice none 0 0)) : Sem Value); Pure.pure (Next.value v)) : Sem Next).run P w = _
    rw [he, Sem.run_bind, run_eqNil A j c h1]
    simp only [Result.andThen_ok, Sem.run_pure]
  unfold Oper.wp
  rw [hex]
  exact hn _ g _ _ (k A.isNone hn0) (rel.put_same (some i) (.one _ _ (.d _ _ (.bool _))))
end
end
end Go.Proofs.YtpelfildfidnbaaGreatDoor
namespace Go.Proofs.YtpelfildfidnbaaGreatDoor
section
open Go Go.RowKit
section
variable {J : Inv} {k0 : Lens} {E : Env J k0} {P : Program} {T : TypeId → Option TI} {n : Nat} {t : Nat → V} {b : List (List C)} {r : List (Option RowO)} {m : List (List (DV × DV))} {ops : Array Oper} {l : List Oper}
  {K : St → Prop} {i : Nat} {ty : TypeId} {pos : String} {after : Array Edge}
theorem forceL_self {α : Type} : ∀ l : List α, forceL l = some l
 | [] => rfl
 | c :: l => by unfold forceL; rw [forceL_self l]
theorem Rel.freezeRow {g : Gh} {a : Act} {w : World} (rel : Rel E n g ⟨t, b, r, m⟩ a w) {ri : Nat} {q : RowO} (ks : List Nat) (hq : r[ri]? = some (some q)) (hk : ∀ k ∈ ks, t k = .one (.row ri q.ver 0 q.xs.length)) :
    ∃ g', Rel E n g' ⟨updL t ks (.one (.d (.vec q.sz q.xs))), b, r.set ri none, m⟩ a w := by
  have hr : ri < r.length := (List.getElem?_eq_some_iff.1 hq).1
  have hlive : ∀ x, (⟨updL t ks (.one (.d (.vec q.sz q.xs))), b, r.set ri none, m⟩ : St).live x → (⟨t, b, r, m⟩ : St).live x ∧ x ≠ .r ri := fun x hx => by
    cases x with
    | b l => exact ⟨hx, by simp⟩
    | m l => exact ⟨hx, by simp⟩
    | r l =>
      obtain ⟨o, ho, hal⟩ := hx
      have ho : (r.set ri none)[l]? = some (some o) := ho
      by_cases e : ri = l
      · subst e; simp [List.getElem?_set, hr] at ho
      · exact ⟨⟨o, by simpa [List.getElem?_set, e] using ho, hal⟩, fun h => e (by injection h with h; exact h.symm)⟩
  have ho : (⟨t, b, r, m⟩ : St).r[ri]? = some (some q) := hq
  have hrl : q.al = true → (⟨t, b, r, m⟩ : St).live (.r ri) := fun h => ⟨q, hq, h⟩
  have ext : Ext g (⟨t, b, r, m⟩ : St).sh w ⟨fun x => g.im x ∨ (q.al = true ∧ x = g.at_ (.r ri)), g.at_, g.off, g.cap⟩ (⟨updL t ks (.one (.d (.vec q.sz q.xs))), b, r.set ri none, m⟩ : St).sh w := by
    refine ⟨fun _ h => .inl h, fun _ _ => rfl, Nat.le_refl _, Nat.le_refl _, by simp [St.sh], fun _ _ => rfl, fun _ _ => rfl, fun k al ver sz' len hk' hh => ?_⟩
    by_cases e : ri = k
    · subst e; simp [St.sh, List.getElem?_set, hr] at hh
    · exact ⟨al, ver, sz', len, by simpa [St.sh, List.getElem?_set, e] using hh, Nat.le_refl _, fun _ => ⟨rfl, rfl, Nat.le_refl _, rfl, rfl, rfl⟩⟩
  refine ⟨⟨fun x => g.im x ∨ (q.al = true ∧ x = g.at_ (.r ri)), g.at_, g.off, g.cap⟩, rel.below, rel.ext.trans ext, fun x hx => ?_, fun x hx => ?_, fun x hx => rel.own x (hlive x hx).1, ⟨fun x hx => rel.heap.lt x (hlive x hx).1, fun x hx => ?_, fun x y hx hy => rel.heap.inj x y (hlive x hx).1 (hlive y hy).1, fun k cs hk' => ?_, fun k o hk' => ?_, fun k es hk' => ?_⟩, rel.size, rel.defers, fun j hj => ?_⟩
  · rcases hx with h | ⟨h1, h2⟩
    · exact rel.imlt x h
    · rw [h2]; exact rel.heap.lt _ (hrl h1)
  · rcases hx with h | ⟨h1, h2⟩
    · exact rel.imold x h
    · rw [h2]; exact .inr (rel.own _ (hrl h1))
  · rintro (h | ⟨h1, h2⟩)
    · exact rel.heap.new x (hlive x hx).1 h
    · exact (hlive x hx).2 (rel.heap.inj x _ (hlive x hx).1 (hrl h1) h2)
  · obtain ⟨vs, ty, h1, h2, h3⟩ := rel.heap.box k cs hk'
    exact ⟨vs, ty, h1, h2, fun j c v hc hv => (h3 j c v hc hv).mono ext⟩
  · have hk' : (r.set ri none)[k]? = some (some o) := hk'
    by_cases e : ri = k
    · subst e; simp [List.getElem?_set, hr] at hk'
    · have h1 := rel.heap.row k o (by simpa [List.getElem?_set, e] using hk')
      by_cases hal : o.al = true
      · rw [if_pos hal] at h1 ⊢
        obtain ⟨vs, t', q1, q2, q3, q4, q5, q6⟩ := h1
        exact ⟨vs, t', q1, q2, q3, q4, q5, fun i j x d v p1 p2 p3 => (q6 i j x d v p1 p2 p3).mono ext.im ext.same⟩
      · rw [if_neg hal] at h1 ⊢; exact h1
  · obtain ⟨arr, clock, h1, h2, h3⟩ := rel.heap.map k es hk'
    exact ⟨arr, clock, h1, h2, fun i x e hx he => ⟨(h3 i x e hx he).1.mono ext, (h3 i x e hx he).2.mono ext⟩⟩
  · rcases updL_or t (.one (.d (.vec q.sz q.xs))) ks j with ⟨h1, h2⟩ | h1
    · have hup : (⟨updL t ks (.one (.d (.vec q.sz q.xs))), b, r.set ri none, m⟩ : St).t j = .one (.d (.vec q.sz q.xs)) := h1
      rw [hup]
      have hv := rel.tmps j hj
      have e1 : (⟨t, b, r, m⟩ : St).t j = .one (.row ri q.ver 0 q.xs.length) := hk j h2
      rw [e1] at hv
      obtain ⟨flat, hown, hnil, hblk, hcells, hrows⟩ := row_form rel ho hv
      refine .one _ _ (.d _ _ ?_)
      rcases hown.2 with ⟨hv2, h0⟩ | ⟨bb, cap, cur, hv2, hb2, hc2, hn2, hm2, hs2, ht2⟩
      · rw [hv2, List.length_eq_zero_iff.1 h0]; exact .empty _ _ _
      · have hal : q.al = true := by
          cases hh : q.al with
          | true => rfl
          | false => have := hnil.2 hh; rw [this] at hv2; cases hv2
        have hbb : bb = g.at_ (.r ri) := by have := hblk hal; rw [hv2] at this; exact Option.some.inj this
        by_cases hne : q.xs = []
        · rw [hv2, hne]; exact .empty _ _ _
        · rw [hv2]
          have hat : ∀ (i j : Nat) (x : List D) (d : D), q.xs[i]? = some x → x[j]? = some d → ∃ v, w.cell? ⟨bb, 0 + i * q.sz + j, none⟩ = some v ∧ RD (fun x => g.im x ∨ (q.al = true ∧ x = g.at_ (.r ri))) w d v := fun i j x d p1 p2 => by
            have hj' : j < q.sz := by
              have h3 := (List.getElem?_eq_some_iff.1 p2).1
              rw [hrows x (List.mem_of_getElem? p1)] at h3; exact h3
            have hi := (List.getElem?_eq_some_iff.1 p1).1
            have hk2 : i * q.sz + j < q.xs.length * q.sz := by
              have := Nat.mul_le_mul_right q.sz (show i + 1 ≤ q.xs.length from hi)
              rw [Nat.add_mul, Nat.one_mul] at this; omega
            have hf : flat[i * q.sz + j]? = some (flat[i * q.sz + j]'(by rw [hown.1]; exact hk2)) := List.getElem?_eq_getElem _
            refine ⟨_, ?_, (hcells i j x d _ p1 p2 hf).mono (fun _ h => .inl h) (fun _ _ => rfl)⟩
            have hf2 : (cur.toList.take (q.xs.length * q.sz))[i * q.sz + j]? = some (flat[i * q.sz + j]'(by rw [hown.1]; exact hk2)) := by rw [ht2]; exact hf
            rw [List.getElem?_take, if_pos hk2] at hf2
            simp only [Nat.zero_add, World.cell?, hc2, Option.isSome_none, Bool.false_eq_true, if_false]
            simpa using hf2
          exact RD.vec q.sz q.xs bb 0 cap (fun i j => (w.cell? ⟨bb, 0 + i * q.sz + j, none⟩).getD undef) hne hn2 (.inr ⟨hal, hbb⟩) hrows
            (fun i j x d p1 p2 => by obtain ⟨v, h3, _⟩ := hat i j x d p1 p2; rw [h3]; rfl)
            (fun i j x d p1 p2 => by obtain ⟨v, h3, h4⟩ := hat i j x d p1 p2; simp only [h3, Option.getD_some]; exact h4)
    · have hup : (⟨updL t ks (.one (.d (.vec q.sz q.xs))), b, r.set ri none, m⟩ : St).t j = t j := h1
      rw [hup]
      exact (rel.tmps j hj).mono ext
theorem Step.weak {o : Oper} {K K' : St → Prop} {s : St} (h : Step E P n ops o K s) (hk : ∀ s g a w, K s → Rel E n g s a w → ∃ g' s', K' s' ∧ Rel E n g' s' a w) : Step E P n ops o K' s :=
 fun g a w rel next Q hn => h g a w rel next Q (fun s' g' a' w' h1 h2 => by
  obtain ⟨g2, s2, h3, h4⟩ := hk s' g' a' w' h1 h2
  exact hn s2 g2 a' w' h3 h4)
end
end
section
open Go Go.RowKit
section
variable {J : Inv} {k0 : Lens} {E : Env J k0} {P : Program} {T : TypeId → Option TI} {n : Nat} {t : Nat → V} {b : List (List C)} {r : List (Option RowO)} {m : List (List (DV × DV))} {ops : Array Oper} {l : List Oper}
  {K : St → Prop} {i : Nat} {ty : TypeId} {pos : String} {after : Array Edge}
variable {α β : Type} {enc : α → DV} {val : α → Value} {same : α → α → Bool}
theorem Rel.whenT {g : Gh} {a : Act} {w : World} {v : V} (rel : Rel E n g ⟨upd t i v, b, r, m⟩ a w) : Rel E n g ⟨upd t i (.when true v), b, r, m⟩ a w := by
 refine ⟨rel.below, rel.ext, rel.imlt, rel.imold, rel.own, ⟨rel.heap.lt, rel.heap.new, rel.heap.inj, rel.heap.box, rel.heap.row, rel.heap.map⟩, rel.size, rel.defers, fun j hj => ?_⟩
 have h := rel.tmps j hj
 have e1 : (⟨upd t i v, b, r, m⟩ : St).t j = upd t i v j := rfl
 have e2 : (⟨upd t i (.when true v), b, r, m⟩ : St).t j = upd t i (.when true v) j := rfl
 rw [e1] at h
 rw [e2]
 by_cases hij : i = j
 ·skip
  subst hij
  rw [upd_same] at h ⊢
  exact .whenT _ _ h
 ·skip
  rw [upd_ne _ _ hij] at h ⊢
  exact h
end
end
end Go.Proofs.YtpelfildfidnbaaGreatDoor
namespace Go.Proofs.YtpelfildfidnbaaGreatDoor
section
open Go Go.RowKit
theorem OpZ.alloc {J : Inv} {k0 : Lens} {E : Env J k0} {P : Program} {T : TypeId → Option TI} {n : Nat} {t : Nat → V} {b : List (List C)} {r : List (Option RowO)} {m : List (List (DV × DV))} {ops : Array Oper} {K : St → Prop} {i : Nat} {ty : TypeId} {pos : String} {after : Array Edge}
  (hT : TabOk P T) {te : TypeId} {ti : TI} {cs cs' : List C} {b' : List (List C)} (hi : T te = some ti) (hz : zeroC ti = some cs) (hf : forceL cs = some cs') (hb : forceL (appL b [cs']) = some b')
  (k : K ⟨upd t i (.one (.ptr b.length 0)), b', r, m⟩) : OpZ E P n ops ⟨some i, .alloc te, ty, pos, after, none⟩ K ⟨t, b, r, m⟩ :=
 ⟨fun v1 b1 r1 m1 => v1 = .one (.ptr b.length 0) ∧ b1 = b' ∧ r1 = r ∧ m1 = m, fun t' ht => S.alloc (t := t') (l := []) (K := fun s1 => ∃ v b2 r2 m2, s1 = ⟨updO t' (some i) v, b2, r2, m2⟩ ∧ (v = .one (.ptr b.length 0) ∧ b2 = b' ∧ r2 = r ∧ m2 = m)) hT hi hz hf hb ⟨_, _, _, _, rfl, rfl, rfl, rfl, rfl⟩,
  fun v1 b1 r1 m1 ⟨e0, e1, e2, e3⟩ => by subst e0; subst e1; subst e2; subst e3; exact k⟩
end
end Go.Proofs.YtpelfildfidnbaaGreatDoor
namespace Go.Proofs.YtpelfildfidnbaaGreatDoor
section
open Go Go.RowKit
variable {J : Inv} {k0 : Lens} {E : Env J k0} {P : Program} {T : TypeId → Option TI} {n : Nat} {t : Nat → V} {b : List (List C)} {r : List (Option RowO)} {m : List (List (DV × DV))} {ops : Array Oper} {l : List Oper} {K : St → Prop}
  {i : Nat} {ty : TypeId} {pos : String} {after : Array Edge}
theorem S.pureEGc (hT : TabOk P T) (hZ : ZeroOk T) {op : Op} {ok c : Bool} {v0 v1 v : V} {j : Nat} {want : Bool} (hg : guardV n ops t j want = some c)
  (he : evP T n ⟨bare t, b, r, m⟩ op = some (ok, v0)) (ht : allT c (tagsO t op.operands.toList)) (hok : c = true → ok = true) (hv : c = true → v0 = v1) (hf : forceV v1 = some v)
  (k : WL E P n ops l K ⟨upd t i (.when c v), b, r, m⟩) : WL E P n ops (⟨some i, op, ty, pos, after, some (j, want)⟩ :: l) K ⟨t, b, r, m⟩ := by
 cases c with
 | true => exact S.pureG hT hZ hg he ht hok (hv rfl ▸ hf) k
 | false => exact Step.skip (o := ⟨some i, op, ty, pos, after, some (j, want)⟩) rfl (guardV_B hg) v k
end
section
open Go Go.RowKit
variable {J : Inv} {k0 : Lens} {E : Env J k0} {P : Program} {T : TypeId → Option TI} {n : Nat} {t : Nat → V} {b : List (List C)} {r : List (Option RowO)} {m : List (List (DV × DV))} {ops : Array Oper} {l : List Oper} {K : St → Prop}
  {i : Nat} {ty : TypeId} {pos : String} {after : Array Edge}
theorem D.pureEGc (hT : TabOk P T) (hZ : ZeroOk T) {op : Op} {ok c : Bool} {v0 v1 v : V} {j : Nat} {want : Bool} (hcl : Nat.blt (cls op) 2 = true) (hg : guardV n ops t j want = some c)
  (he : evP T n ⟨bare t, b, r, m⟩ op = some (ok, v0)) (htg : allT c (tagsO t op.operands.toList)) (hok : c = true → ok = true) (hv : c = true → v0 = v1) (hf : forceV v1 = some v)
  (k : WD E P n ops l K ⟨upd t i (.when c v), b, r, m⟩) : WD E P n ops (⟨some i, op, ty, pos, after, some (j, want)⟩ :: l) K ⟨t, b, r, m⟩ := by
 cases c with
 | true => exact D.pureG hT hZ hcl hg he htg hok (hv rfl ▸ hf) k
 | false =>
  obtain rfl := forceV_eq hf
  have hlt : cls op < 2 := by simpa [Nat.blt_eq] using hcl
  exact ⟨.when false v1, b, .of (show cls op = 0 ∨ cls op = 1 by omega) (fun t' b1 ht hb => .of_runG (o := ⟨some i, op, ty, pos, after, some (j, want)⟩) rfl ((looks_guard (o := ⟨some i, op, ty, pos, after, some (j, want)⟩) rfl ht).trans hg) (fun hc => absurd hc (by decide))), k⟩
theorem S.hcallUG {fo : Operand} {args : Array Operand} {ats : Array TypeId} {u : V} {f : FuncId} {caps : List C} {us : List V} {rv : V} {j : Nat} {want c : Bool} (hg : guardV n ops t j want = some c)
  (hu : opd n ⟨bare t, b, r, m⟩ fo = (true, u)) (hc : calleeV u = some (f, caps)) (ha : allOpdL n ⟨bare t, b, r, m⟩ args.toList = (true, us)) (ht : allT c (tagsO t (fo :: args.toList)))
  (pc : c = true → HCall P J f (us ++ caps.map V.one) b r m (isH rv b r m))
  (k : WL E P n ops l K ⟨upd t i (.when c rv), b, r, m⟩) : WL E P n ops (⟨some i, .call ⟨.value fo, args, ats⟩, ty, pos, after, some (j, want)⟩ :: l) K ⟨t, b, r, m⟩ := by
 intro g a w rel next Qx hn
 rw [guardB_ok rel rfl (guardV_B hg)]
 cases c with
 | true =>
  rw [if_pos rfl]
  have h1 := allT_mem ht rfl
  have hu' : opd n ⟨t, b, r, m⟩ fo = (true, u) := (opds_bare h1 (List.mem_cons_self ..)).trans hu
  have ha' : allOpdL n ⟨t, b, r, m⟩ args.toList = (true, us) := by rw [← ha]; exact allOpdL_congr _ (fun p hp => opds_bare h1 (List.mem_cons_of_mem _ hp))
  exact hcall_wp rel rfl hu' hc ha' (pc rfl) (fun v g' w' rv' b' r' m' rel' hv ⟨q1, q2, q3, q4⟩ => by
   subst q1; subst q2; subst q3; subst q4
   exact hn _ g' _ _ k (rel'.put_same (some i) (.whenT _ _ hv)))
 | false =>
  rw [if_neg (by simp)]
  exact hn _ g _ _ k (rel.put_same (some i) (.whenF _))
end
section
open Go
open Go.RowKit
attribute [local irreducible] thenK blockK W
attribute [local irreducible] pathB nameB valueB listE svAt svE
theorem pc_setF (s : Stg) (g : Nat) (φ : Bool) (hg : PureCall Tryz.prog J g [.one (.d (.str s.k))] (.one (.d (.bool φ)))) (hv : s.v.length ≤ 2000000) :
  PureCall Tryz.prog J 37 [.agg [.d (.str s.k), .d (.str s.v)], .one (.d (.fn g))] (.one (.d (.int .i64 (stgO φ s)))) := by
 refine PureCall.of_body tOk (fn := Tryz.f37) Tryz.func37 (by kernel_rfl) rfl (Nat.le_of_ble_eq_true rfl) (fun E => ?_)
 iterate 9 first|refine Yp rfl ?_|refine S.box rfl rfl rfl rfl ?_|apply Y1|apply Ys|apply Yn
 refine S.call rfl rfl rfl rfl rfl (hg) ?_
 refine Yp rfl ?_
 apply Yn
 refine W.cond rfl (fun c1=>?_) fun c1=>?_
 ·skip
  apply Y1
  refine Yp rfl ?_
  apply Yn
  apply Yt
  apply Yu
  exact ⟨_, rfl, rfl, LeV.of_eq (congrArg (fun x => V.one (C.d (D.int .i64 x))) ((if_pos c1 : stgO φ s = 5).symm))⟩
 apply Yk
 apply Yn
 apply Ys
 apply Y1
 iterate 2 refine Yp rfl ?_
 refine S.call rfl rfl rfl rfl rfl (pc_ver_IsValue s.v (by omega)) ?_
 refine Yp rfl ?_
 apply Yn
 refine W.cond rfl (fun c2=>?_) fun c2=>?_
 ·skip
  apply Y1
  refine Yp rfl ?_
  apply Yn
  apply Yt
  apply Yu
  exact ⟨_, rfl, rfl, LeV.of_eq (congrArg (fun x => V.one (C.d (D.int .i64 x))) (by unfold stgO; rw [if_neg (Bool.eq_false_iff.1 c1), if_pos c2]))⟩
 apply Yk
 apply Y3
 refine Yp rfl ?_
 apply Yn
 apply Yt
 exact ⟨_, rfl, rfl, LeV.of_eq (congrArg (fun x => V.one (C.d (D.int .i64 x))) (by unfold stgO; rw [if_neg (Bool.eq_false_iff.1 c1), if_neg (Bool.eq_false_iff.1 c2)]))⟩
theorem pc_chk1 (s : Stg) (hk : s.k.length ≤ 2000000) (hv : s.v.length ≤ 2000000) :
  PureCall Tryz.prog J 36 [.agg [.d (.str s.k), .d (.str s.v)]] (.one (.d (.int .i64 (stgO (nameB s.k) s)))) := by
 refine PureCall.of_body tOk (fn := Tryz.f36) Tryz.func36 (by kernel_rfl) rfl (Nat.le_of_ble_eq_true rfl) (fun E => ?_)
 iterate 5 first|refine Yp rfl ?_|refine S.box rfl rfl rfl rfl ?_|apply Y3|apply Y1
 refine S.call rfl rfl rfl rfl rfl (pc_setF s 38 (nameB s.k) (pc_ver_IsName s.k (by omega)) hv) ?_
 refine Yp rfl ?_
 apply Yn
 apply Yt
 exact ⟨_, rfl, rfl, LeV.refl _⟩
theorem pc_chk3 (s : Stg) (hk : s.k.length ≤ 2000000) (hv : s.v.length ≤ 2000000) :
  PureCall Tryz.prog J 43 [.agg [.d (.str s.k), .d (.str s.v)]] (.one (.d (.int .i64 (stgO (pathB s.k) s)))) := by
 refine PureCall.of_body tOk (fn := Tryz.f43) Tryz.func43 (by kernel_rfl) rfl (Nat.le_of_ble_eq_true rfl) (fun E => ?_)
 iterate 5 first|refine Yp rfl ?_|refine S.box rfl rfl rfl rfl ?_|apply Y3|apply Y1
 refine S.call rfl rfl rfl rfl rfl (pc_setF s 44 (pathB s.k) (pc_ver_IsPath s.k (by omega)) hv) ?_
 refine Yp rfl ?_
 apply Yn
 apply Yt
 exact ⟨_, rfl, rfl, LeV.refl _⟩
theorem pc_keyOf (s : Stg) :
  PureCall Tryz.prog J 39 [.agg [.d (.str s.k), .d (.str s.v)]] (.one (.d (.str s.k))) := by
 refine PureCall.of_body tOk (fn := Tryz.f39) Tryz.func39 (by kernel_rfl) rfl (Nat.le_of_ble_eq_true rfl) (fun E => ?_)
 iterate 9 first|refine Yp rfl ?_|apply Yt|refine S.box rfl rfl rfl rfl ?_|apply Y3|apply Y1|apply Yn
 exact ⟨_, rfl, rfl, LeV.refl _⟩
theorem pc_nameOf (s : Svc) :
  PureCall Tryz.prog J 47 [.agg [.d (.str s.n), .d (.str s.p), .d (.bool s.au), .d (.bool s.on)]] (.one (.d (.str s.n))) := by
 refine PureCall.of_body tOk (fn := Tryz.f47) Tryz.func47 (by kernel_rfl) rfl (Nat.le_of_ble_eq_true rfl) (fun E => ?_)
 iterate 9 first|refine Yp rfl ?_|apply Yt|refine S.box rfl rfl rfl rfl ?_|apply Y3|apply Y1|apply Yn
 exact ⟨_, rfl, rfl, LeV.refl _⟩
theorem pc_pathOf (f : Fl) :
  PureCall Tryz.prog J 169 [.agg [.d (.str f.p), .d (.str f.d), .d (.bool f.r)]] (.one (.d (.str f.p))) := by
 refine PureCall.of_body tOk (fn := Tryz.f169) Tryz.func169 (by kernel_rfl) rfl (Nat.le_of_ble_eq_true rfl) (fun E => ?_)
 iterate 9 first|refine Yp rfl ?_|apply Yt|refine S.box rfl rfl rfl rfl ?_|apply Y3|apply Y1|apply Yn
 exact ⟨_, rfl, rfl, LeV.refl _⟩
theorem pc_fileF (f : Fl) (hp : f.p.length ≤ 2000000) :
  PureCall Tryz.prog J 40 [.agg [.d (.str f.p), .d (.str f.d), .d (.bool f.r)]] (.one (.d (.int .i64 (flO f)))) := by
 refine PureCall.of_body tOk (fn := Tryz.f40) Tryz.func40 (by kernel_rfl) rfl (Nat.le_of_ble_eq_true rfl) (fun E => ?_)
 iterate 8 first|refine Yp rfl ?_|refine S.box rfl rfl rfl rfl ?_|apply Y1|apply Ys|apply Yn
 refine S.call rfl rfl rfl rfl rfl (pc_ver_IsPath f.p (by omega)) ?_
 refine Yp rfl ?_
 apply Yn
 refine W.cond rfl (fun c1=>?_) fun c1=>?_
 ·skip
  apply Y1
  refine Yp rfl ?_
  apply Yn
  apply Yt
  apply Yu
  exact ⟨_, rfl, rfl, LeV.of_eq (congrArg (fun x => V.one (C.d (D.int .i64 x))) ((if_pos c1 : flO f = 5).symm))⟩
 iterate 9 first|refine Yp rfl ?_|apply Yk|apply Y1|apply Yn|apply Ys
 refine W.cond rfl (fun c2=>?_) fun c2=>?_
 ·skip
  apply Y1
  refine Yp rfl ?_
  apply Yn
  apply Yt
  apply Yu
  exact ⟨_, rfl, rfl, LeV.of_eq (congrArg (fun x => V.one (C.d (D.int .i64 x))) (by unfold flO; rw [if_neg (Bool.eq_false_iff.1 c1), if_pos c2]))⟩
 apply Yk
 apply Y3
 refine Yp rfl ?_
 apply Yn
 apply Yt
 exact ⟨_, rfl, rfl, LeV.of_eq (congrArg (fun x => V.one (C.d (D.int .i64 x))) (by unfold flO; rw [if_neg (Bool.eq_false_iff.1 c1), if_neg (Bool.eq_false_iff.1 c2)]))⟩
theorem pc_svcF (s : Svc) (hn : s.n.length ≤ 2000000) (hp : s.p.length ≤ 2000000) :
  PureCall Tryz.prog J 46 [.agg [.d (.str s.n), .d (.str s.p), .d (.bool s.au), .d (.bool s.on)]] (.one (.d (.int .i64 (svO s)))) := by
 refine PureCall.of_body tOk (fn := Tryz.f46) Tryz.func46 (by kernel_rfl) rfl (Nat.le_of_ble_eq_true rfl) (fun E => ?_)
 iterate 8 first|refine Yp rfl ?_|refine S.box rfl rfl rfl rfl ?_|apply Y1|apply Ys|apply Yn
 refine S.call rfl rfl rfl rfl rfl (pc_ver_IsName s.n (by omega)) ?_
 iterate 4 first|refine Yg rfl rfl tg ?_|refine Yp rfl ?_
 refine S.callG rfl rfl rfl rfl tg rfl rfl (fun _ => pc_ver_IsPath s.p (by omega)) ?_
 refine Yg rfl rfl tg ?_
 refine S.pickOr tOk zOk rfl rfl tg ?_
 apply Yn
 refine W.cond rfl (fun c1=>?_) fun c1=>?_
 ·skip
  apply Y1
  refine Yp rfl ?_
  apply Yn
  apply Yt
  apply Yu
  exact ⟨_, rfl, rfl, LeV.of_eq (congrArg (fun x => V.one (C.d (D.int .i64 x))) ((if_pos c1 : svO s = 5).symm))⟩
 apply Yk
 apply Y3
 refine Yp rfl ?_
 apply Yn
 apply Yt
 exact ⟨_, rfl, rfl, LeV.of_eq (congrArg (fun x => V.one (C.d (D.int .i64 x))) (by unfold svO; rw [if_neg (Bool.eq_false_iff.1 c1)]))⟩
end
section
open Go
open Go.RowKit
attribute [local irreducible] thenK blockK W
attribute [local irreducible] pathB nameB valueB listE svAt svE flE flO stgO svO dirs dirTo stgAt
theorem dec_row {i : Nat} (h : decide ((i : Int) > 0) = true) (hi : i ≤ 2000000) : V.one (.d (.int .i64 (IntKind.i64.wrap ((i : Int) - 1)))) = V.one (.d (.int .i64 ((i - 1 : Nat) : Int))) := by
 have h1 : 0 < i := by simpa using h
 rw [wrap_i64 (by omega) (by omega), show ((i : Int) - 1) = ((i - 1 : Nat) : Int) by omega]
theorem stq_o {φ : L8 → Bool} {l : List Stg} {i : Nat} (h : (stgO (φ (l.getD i Stg.z).k) (l.getD i Stg.z) != 0) = true) : stgAt φ l i = stgO (φ (l.getD i Stg.z).k) (l.getD i Stg.z) := by
 unfold stgO at h ⊢; unfold stgAt
 split
 ·skip
  rfl
 ·skip
  split
  ·skip
   rfl
  ·skip
   rename_i h1 h2; rw [if_neg h1, if_neg h2] at h; cases h
theorem stq_7 {φ : L8 → Bool} {l : List Stg} {i : Nat} (h : (stgO (φ (l.getD i Stg.z).k) (l.getD i Stg.z) != 0) = false) (h2 : (decide ((i : Int) > 0) && leS (l.getD i Stg.z).k (l.getD (i - 1) Stg.z).k) = true) : stgAt φ l i = 7 := by
 unfold stgO at h; unfold stgAt
 split
 ·skip
  rename_i h1; rw [if_pos h1] at h; cases h
 ·skip
  rename_i h1
  split
  ·skip
   rename_i h3; rw [if_neg h1, if_pos h3] at h; cases h
  ·skip
   first | rfl | rw [if_pos h2]
theorem stq_0 {φ : L8 → Bool} {l : List Stg} {i : Nat} (h : (stgO (φ (l.getD i Stg.z).k) (l.getD i Stg.z) != 0) = false) (h2 : (decide ((i : Int) > 0) && leS (l.getD i Stg.z).k (l.getD (i - 1) Stg.z).k) = false) : stgAt φ l i = 0 := by
 unfold stgO at h; unfold stgAt
 split
 ·skip
  rename_i h1; rw [if_pos h1] at h; cases h
 ·skip
  rename_i h1
  split
  ·skip
   rename_i h3; rw [if_neg h1, if_pos h3] at h; cases h
  ·skip
   rw [if_neg (Bool.eq_false_iff.1 h2)]
theorem sv_o {l : List Svc} {i : Nat} (h : (svO (l.getD i Svc.z) != 0) = true) : svAt l i = svO (l.getD i Svc.z) := by
 unfold svO at h ⊢; unfold svAt
 split
 ·skip
  rfl
 ·skip
  rename_i h1; rw [if_neg h1] at h; cases h
theorem sv_7 {l : List Svc} {i : Nat} (h : (svO (l.getD i Svc.z) != 0) = false) (h2 : (decide ((i : Int) > 0) && leS (l.getD i Svc.z).n (l.getD (i - 1) Svc.z).n) = true) : svAt l i = 7 := by
 unfold svO at h; unfold svAt
 split
 ·skip
  rename_i h1; rw [if_pos h1] at h; cases h
 ·skip
  first | rfl | rw [if_pos h2]
theorem sv_0 {l : List Svc} {i : Nat} (h : (svO (l.getD i Svc.z) != 0) = false) (h2 : (decide ((i : Int) > 0) && leS (l.getD i Svc.z).n (l.getD (i - 1) Svc.z).n) = false) : svAt l i = 0 := by
 unfold svO at h; unfold svAt
 split
 ·skip
  rename_i h1; rw [if_pos h1] at h; cases h
 ·skip
  rw [if_neg (Bool.eq_false_iff.1 h2)]
theorem svE_hit {l : List Svc} {i : Nat} {e : Int} (hi : i < l.length) (h : OkTo (svAt l) i) (c : svAt l i = e) (he : e ≠ 0) : svE l = e := by unfold svE; exact errs_hit hi h c he
theorem svE_none {l : List Svc} {i : Nat} (hi : l.length ≤ i) (h : OkTo (svAt l) i) : svE l = 0 := by unfold svE; exact errs_none hi h
theorem pc_eachS (φ : L8 → Bool) (g q : Nat) (l : List Stg) (hl : StgA l) (hg : ∀ s ∈ l, PureCall Tryz.prog J g [.agg [.d (.str s.k), .d (.str s.v)]] (.one (.d (.int .i64 (stgO (φ s.k) s))))) (hq : ∀ s ∈ l, PureCall Tryz.prog J q [.agg [.d (.str s.k), .d (.str s.v)]] (.one (.d (.str s.k)))) :
  PureCall Tryz.prog J 35 [.one (.d (.vec 2 (l.map stgD))), .one (.d (.fn g)), .one (.d (.fn q))] (.one (.d (.int .i64 (listE φ l)))) := by
 have hn := hl.n
 refine PureCall.of_body tOk (fn := Tryz.f35) Tryz.func35 (by kernel_rfl) rfl (Nat.le_of_ble_eq_true rfl) (fun E => ?_)
 iterate 9 first|refine Yp rfl ?_|apply Y1|apply Yn|apply Ys
 apply Yb
 refine W.loop (fun k st => ∃ i : Nat, i ≤ l.length ∧ (((List.range l.length).map (stgAt φ l)).take i).all (· == 0) = true ∧ k = l.length - i ∧ ∃ t b2 r2 m2, st = ⟨t, [] ++ b2, [] ++ r2, [] ++ m2⟩ ∧ holdsL t [(0, .one (.d (.vec 2 (l.map stgD)))), (1, .one (.d (.fn g))), (2, .one (.d (.fn q))), (10, .one (.d (.vec 2 (l.map stgD)))), (11, .one (.d (.int .i64 ((l.map stgD).length : Int)))), (12, .one (.d (.int .i64 (i : Int))))]) (l.length) ⟨0, Nat.zero_le _, by simp, rfl, _, _, _, _, rfl, rfl, rfl, rfl, rfl, rfl, rfl, trivial⟩ ?_
 rintro k0 _ ⟨i, f0_0, f0_1, rfl, t0, bb0, rr0, mm0, rfl, hh0⟩
 refine W.keepR _ _ _ _ _ _ _ hh0 rfl ?_
 apply Y1
 refine Yp rfl ?_
 apply Yn
 apply Ys
 refine W.cond rfl (fun c1=>?_) fun c1=>?_
 ·skip
  have hi := row_lt (by assumption)
  have hm := mem_getD (d := Stg.z) hi
  have hlen := hl.s _ hm
  apply Yk
  apply Yn
  apply Ys
  apply Yb
  apply Y1
  refine Yp rfl ?_
  refine YE rfl (row_ok hi) (row_at Stg.z hi) rfl ?_
  iterate 9 first|refine Yp rfl ?_|refine S.store tOk rfl rfl rfl rfl rfl rfl rfl rfl ?_|refine S.alloc tOk rfl rfl rfl rfl ?_|apply Y1|apply Ys|apply Yn
  refine S.call rfl rfl rfl rfl rfl (hg _ hm) ?_
  iterate 5 first|refine Yp rfl ?_|apply Y3|apply Yn
  refine W.cond rfl (fun c2=>?_) fun c2=>?_
  ·skip
   have he : ((stgO (φ (l.getD i Stg.z).k) (l.getD i Stg.z)) != 0) = true := (by assumption)
   have hres := listE_hit hi f0_1 (stq_o he) (by simpa using he)
   iterate 11 first|apply Yu|apply Yv|refine Yp rfl ?_|apply Yt|apply Y1|apply Yn
   exact ⟨_, rfl, rfl, LeV.of_eq (congrArg (fun x => V.one (C.d (D.int .i64 x))) (hres.symm))⟩
  have he : ((stgO (φ (l.getD i Stg.z).k) (l.getD i Stg.z)) != 0) = false := (by assumption)
  apply Yk
  apply Yn
  apply Ys
  refine W.regionD mixed (by kernel_rfl) ?_
  iterate 5 first|refine Ym rfl rfl ?_|refine Yy rfl rfl rfl tg ?_
  refine D.callG rfl rfl rfl rfl tg rfl rfl (fun _ => hq _ hm) ?_
  iterate 3 refine Yy rfl rfl rfl tg ?_
  refine D.pureEGc tOk zOk rfl rfl rfl tg (fun _ => rfl) (fun h => dec_row h (by omega)) rfl ?_
  refine D.pureEGc tOk zOk rfl rfl rfl tg (fun _ => row_ok (show i - 1 < l.length by omega)) (fun _ => row_at Stg.z (show i - 1 < l.length by omega)) rfl ?_
  refine Yy rfl rfl rfl tg ?_
  refine D.callG rfl rfl rfl rfl tg rfl rfl (fun _ => hq _ (mem_getD (d := Stg.z) (show i - 1 < l.length by omega))) ?_
  refine Yy rfl rfl rfl tg ?_
  refine D.pickAnd tOk zOk rfl rfl tg ?_
  apply Yn
  refine W.cond rfl (fun c3=>?_) fun c3=>?_
  ·skip
   have ho : (decide ((i : Int) > 0) && leS (l.getD i Stg.z).k (l.getD (i - 1) Stg.z).k) = true := (by assumption)
   have hres := listE_hit hi f0_1 (stq_7 he ho) (by decide)
   iterate 9 first|apply Yu|apply Yv|apply Yt|refine Yp rfl ?_|apply Y1|apply Yn
   exact ⟨_, rfl, rfl, LeV.of_eq (congrArg (fun x => V.one (C.d (D.int .i64 x))) (hres.symm))⟩
  have ho : (decide ((i : Int) > 0) && leS (l.getD i Stg.z).k (l.getD (i - 1) Stg.z).k) = false := (by assumption)
  apply Yk
  apply Yw
  apply Y4
  iterate 2 refine Yp rfl ?_
  refine loop_n (l.length - (i + 1)) (by omega) ⟨i + 1, hi, range_take hi f0_1 (stq_0 he ho), rfl, _, _, _, _, rfl, rfl, rfl, rfl, rfl, rfl, inc_i64 (by omega), trivial⟩
 have hi := row_ge (by assumption)
 apply Yq
 apply Ye
 apply Ye
 apply Yx
 apply Y3
 refine Yp rfl ?_
 apply Yn
 apply Yt
 exact ⟨_, rfl, rfl, LeV.of_eq (congrArg (fun x => V.one (C.d (D.int .i64 x))) ((listE_none hi f0_1).symm))⟩
theorem pc_eachV (g q : Nat) (l : List Svc) (hl : SvcA l) (hg : ∀ s ∈ l, PureCall Tryz.prog J g [.agg [.d (.str s.n), .d (.str s.p), .d (.bool s.au), .d (.bool s.on)]] (.one (.d (.int .i64 (svO s))))) (hq : ∀ s ∈ l, PureCall Tryz.prog J q [.agg [.d (.str s.n), .d (.str s.p), .d (.bool s.au), .d (.bool s.on)]] (.one (.d (.str s.n)))) :
  PureCall Tryz.prog J 45 [.one (.d (.vec 4 (l.map svD))), .one (.d (.fn g)), .one (.d (.fn q))] (.one (.d (.int .i64 (svE l)))) := by
 have hn := hl.n
 refine PureCall.of_body tOk (fn := Tryz.f45) Tryz.func45 (by kernel_rfl) rfl (Nat.le_of_ble_eq_true rfl) (fun E => ?_)
 iterate 9 first|refine Yp rfl ?_|apply Y1|apply Yn|apply Ys
 apply Yb
 refine W.loop (fun k st => ∃ i : Nat, i ≤ l.length ∧ OkTo (svAt l) i ∧ k = l.length - i ∧ ∃ t b2 r2 m2, st = ⟨t, [] ++ b2, [] ++ r2, [] ++ m2⟩ ∧ holdsL t [(0, .one (.d (.vec 4 (l.map svD)))), (1, .one (.d (.fn g))), (2, .one (.d (.fn q))), (10, .one (.d (.vec 4 (l.map svD)))), (11, .one (.d (.int .i64 ((l.map svD).length : Int)))), (12, .one (.d (.int .i64 (i : Int))))]) (l.length) ⟨0, Nat.zero_le _, ok_0 _, rfl, _, _, _, _, rfl, rfl, rfl, rfl, rfl, rfl, rfl, trivial⟩ ?_
 rintro k0 _ ⟨i, f0_0, f0_1, rfl, t0, bb0, rr0, mm0, rfl, hh0⟩
 refine W.keepR _ _ _ _ _ _ _ hh0 rfl ?_
 apply Y1
 refine Yp rfl ?_
 apply Yn
 apply Ys
 refine W.cond rfl (fun c1=>?_) fun c1=>?_
 ·skip
  have hi := row_lt (by assumption)
  have hm := mem_getD (d := Svc.z) hi
  have hlen := hl.s _ hm
  apply Yk
  apply Yn
  apply Ys
  apply Yb
  apply Y1
  refine Yp rfl ?_
  refine YE rfl (row_ok hi) (row_at Svc.z hi) rfl ?_
  iterate 9 first|refine Yp rfl ?_|refine S.store tOk rfl rfl rfl rfl rfl rfl rfl rfl ?_|refine S.alloc tOk rfl rfl rfl rfl ?_|apply Y1|apply Ys|apply Yn
  refine S.call rfl rfl rfl rfl rfl (hg _ hm) ?_
  iterate 5 first|refine Yp rfl ?_|apply Y3|apply Yn
  refine W.cond rfl (fun c2=>?_) fun c2=>?_
  ·skip
   have he : ((svO (l.getD i Svc.z)) != 0) = true := (by assumption)
   have hres := svE_hit hi f0_1 (sv_o he) (by simpa using he)
   iterate 11 first|apply Yu|apply Yv|refine Yp rfl ?_|apply Yt|apply Y1|apply Yn
   exact ⟨_, rfl, rfl, LeV.of_eq (congrArg (fun x => V.one (C.d (D.int .i64 x))) (hres.symm))⟩
  have he : ((svO (l.getD i Svc.z)) != 0) = false := (by assumption)
  apply Yk
  apply Yn
  apply Ys
  refine W.regionD mixed (by kernel_rfl) ?_
  iterate 5 first|refine Ym rfl rfl ?_|refine Yy rfl rfl rfl tg ?_
  refine D.callG rfl rfl rfl rfl tg rfl rfl (fun _ => hq _ hm) ?_
  iterate 3 refine Yy rfl rfl rfl tg ?_
  refine D.pureEGc tOk zOk rfl rfl rfl tg (fun _ => rfl) (fun h => dec_row h (by omega)) rfl ?_
  refine D.pureEGc tOk zOk rfl rfl rfl tg (fun _ => row_ok (show i - 1 < l.length by omega)) (fun _ => row_at Svc.z (show i - 1 < l.length by omega)) rfl ?_
  refine Yy rfl rfl rfl tg ?_
  refine D.callG rfl rfl rfl rfl tg rfl rfl (fun _ => hq _ (mem_getD (d := Svc.z) (show i - 1 < l.length by omega))) ?_
  refine Yy rfl rfl rfl tg ?_
  refine D.pickAnd tOk zOk rfl rfl tg ?_
  apply Yn
  refine W.cond rfl (fun c3=>?_) fun c3=>?_
  ·skip
   have ho : (decide ((i : Int) > 0) && leS (l.getD i Svc.z).n (l.getD (i - 1) Svc.z).n) = true := (by assumption)
   have hres := svE_hit hi f0_1 (sv_7 he ho) (by decide)
   iterate 9 first|apply Yu|apply Yv|apply Yt|refine Yp rfl ?_|apply Y1|apply Yn
   exact ⟨_, rfl, rfl, LeV.of_eq (congrArg (fun x => V.one (C.d (D.int .i64 x))) (hres.symm))⟩
  have ho : (decide ((i : Int) > 0) && leS (l.getD i Svc.z).n (l.getD (i - 1) Svc.z).n) = false := (by assumption)
  apply Yk
  apply Yw
  apply Y4
  iterate 2 refine Yp rfl ?_
  refine loop_n (l.length - (i + 1)) (by omega) ⟨i + 1, hi, ok_s f0_1 (sv_0 he ho), rfl, _, _, _, _, rfl, rfl, rfl, rfl, rfl, rfl, inc_i64 (by omega), trivial⟩
 have hi := row_ge (by assumption)
 apply Yq
 apply Ye
 apply Ye
 apply Yx
 apply Y3
 refine Yp rfl ?_
 apply Yn
 apply Yt
 exact ⟨_, rfl, rfl, LeV.of_eq (congrArg (fun x => V.one (C.d (D.int .i64 x))) ((svE_none hi f0_1).symm))⟩
end
section
open Go
open Go.RowKit
attribute [local irreducible] thenK blockK W
attribute [local irreducible] pathB nameB valueB listE svAt svE flE flO stgO svO dirs dirTo stgAt clear
theorem sl_str {p : L8} {i : Nat} : V.one (.d (.str ((p.take ((i : Int)).toNat).drop ((0 : Int)).toNat))) = V.one (.d (.str (p.take i))) := by rw [Int.toNat_natCast]; rfl
theorem dir_yes {p : L8} {i : Nat} {b : Bool} (h : (((p.getD i 0).toNat : Int) == 47) = b) : (p.getD i 0 == 47) = b := u8i (k := 47) h
theorem dir_no {p : L8} {φ : L8 → Bool} {i : Nat} (hi : i < p.length) (h : ((((p.getD i 0).toNat : Int) == 47) && !φ (p.take i)) = true) : (dirs p).all φ = false := by
 rw [Bool.and_eq_true] at h
 exact dirs_all_no hi (dir_yes h.1) (by simpa using h.2)
theorem dir_go {p : L8} {φ : L8 → Bool} {i : Nat} (h0 : (dirTo p i).all φ = true) (h : ((((p.getD i 0).toNat : Int) == 47) && !φ (p.take i)) = false) : (dirTo p (i + 1)).all φ = true := by
 rw [dirTo_s, h0, Bool.true_and]
 split
 ·skip
  rename_i h1
  have h2 : (((p.getD i 0).toNat : Int) == 47) = true := by
   have h3 : p.getD i 0 = 47 := by simpa using h1
   rw [h3]; rfl
  rw [h2, Bool.true_and] at h
  simpa using h
 ·skip
  rfl
theorem dir_end {p : L8} {φ : L8 → Bool} {i : Nat} (hi : p.length ≤ i) (hle : i ≤ p.length) (h0 : (dirTo p i).all φ = true) : (dirs p).all φ = true := by
 obtain rfl : i = p.length := by omega
 unfold dirs; exact h0
theorem pc_above (f : Nat) (caps : List C) (b : List (List C)) (r : List (Option RowO)) (m : List (List (DV × DV))) (φ : L8 → Bool) (p : L8) (hp : p.length ≤ 2000000) (hc : ∀ d ∈ dirs p, HCall Tryz.prog J f (.one (.d (.str d)) :: caps.map V.one) b r m (isH (.one (.d (.bool (φ d)))) b r m)) :
  HCall Tryz.prog J 41 ([.one (.d (.str p)), .one (.clo f caps)]) (b) (r) (m) (isH (.one (.d (.bool ((dirs p).all φ)))) (b) (r) (m)) := by
 refine HCall.ofN tOk (fn := Tryz.f41) Tryz.func41 (by kernel_rfl) rfl (Nat.le_of_ble_eq_true rfl) (fun E => ?_)
 iterate 8 first|refine Yp rfl ?_|apply Yb|apply Y1|apply Yn|apply Ys
 refine W.loop (fun k st => ∃ i : Nat, i ≤ p.length ∧ (dirTo p i).all φ = true ∧ k = p.length - i ∧ ∃ t, st = ⟨t, b, r, m⟩ ∧ holdsL t [(0, .one (.d (.str p))), (1, .one (.clo f caps)), (5, .one (.d (.int .i64 (i : Int))))]) (p.length) ⟨0, Nat.zero_le _, by simp [dirTo], rfl, _, rfl, rfl, rfl, rfl, trivial⟩ ?_
 rintro k0 _ ⟨i, f0_0, f0_1, rfl, t0, rfl, hh0⟩
 refine W.keep _ hh0 ?_
 apply Ys
 apply Y1
 iterate 4 refine Yp rfl ?_
 apply Yn
 refine W.cond rfl (fun c1=>?_) fun c1=>?_
 ·skip
  have hi : i < p.length := by have h1 : decide ((i : Int) < (p.length : Int)) = true := (by assumption); simpa using h1
  iterate 7 first|refine Yp rfl ?_|apply Yb|apply Yk|apply Y1|apply Ys|apply Yn
  refine YP rfl (str_ok hi) rfl ?_
  iterate 5 first|refine Yg rfl rfl tg ?_|refine Yp rfl ?_
  refine S.pureEGc tOk zOk rfl rfl tg (fun _ => sl_okT rfl rfl (by omega) (by omega) (by omega)) (fun _ => sl_str) rfl ?_
  refine S.hcallUG rfl rfl rfl rfl tg (fun hgd => hc (p.take i) (by unfold dirs; exact dirTo_in hi (dir_yes hgd))) ?_
  refine Yg rfl rfl tg ?_
  refine S.pickAnd tOk zOk rfl rfl tg ?_
  apply Yn
  refine W.cond rfl (fun c2=>?_) fun c2=>?_
  ·skip
   have hres := dir_no (φ := φ) hi (by assumption)
   iterate 9 first|apply Yu|apply Yv|apply Yt|refine Yp rfl ?_|apply Y1|apply Yn
   exact ⟨_, rfl, LeG.of_eq (congrArg (fun x => V.one (C.d (D.bool x))) hres.symm), rfl, rfl, rfl⟩
  apply Yk
  apply Yw
  apply Y4
  iterate 3 refine Yp rfl ?_
  refine loop_n (p.length - (i + 1)) (by omega) ⟨i + 1, hi, dir_go f0_1 (by assumption), rfl, _, rfl, rfl, rfl, inc_i64 (by omega), trivial⟩
 have hi : p.length ≤ i := by have h1 : decide ((i : Int) < (p.length : Int)) = false := (by assumption); simpa using h1
 apply Yq
 apply Ye
 apply Ye
 apply Yx
 apply Y3
 refine Yp rfl ?_
 apply Yn
 apply Yt
 exact ⟨_, rfl, LeG.of_eq (congrArg (fun x => V.one (C.d (D.bool x))) (dir_end hi f0_0 f0_1).symm), rfl, rfl, rfl⟩
end
section
open Go
theorem getB_set (s : SetT) (k q : L8) : getL beqS false (setL beqS s k true) q = (q == k || getL beqS false s q) := by
  induction s with
  | nil =>
    show (bif beqS q k then true else false) = (q == k || false)
    unfold beqS
    cases (q == k) <;> rfl
  | cons x l ih =>
    unfold setL
    by_cases h : (k == x.1) = true
    · have hk : k = x.1 := by simpa using h
      simp only [beqS, h, cond_true]
      show (bif beqS q k then true else getL beqS false l q) = (q == k || (bif beqS q x.1 then x.2 else getL beqS false l q))
      unfold beqS
      rw [← hk]
      cases (q == k) <;> rfl
    · simp only [beqS, h, cond_false]
      show (bif beqS q x.1 then x.2 else getL beqS false (setL beqS l k true) q) = (q == k || (bif beqS q x.1 then x.2 else getL beqS false l q))
      rw [ih]
      unfold beqS
      by_cases h2 : (q == x.1) = true
      · have : (q == k) = false := by
          cases hq : (q == k) with
          | false => rfl
          | true =>
            have e1 : q = k := by simpa using hq
            have e2 : q = x.1 := by simpa using h2
            exact absurd (by rw [← e1, e2]; simp) h
        rw [h2, this]; rfl
      · rw [Bool.eq_false_iff.2 h2]; rfl
end
section
open Go
def paT (l : List Fl) (i : Nat) : SetT := (l.take i).foldl (fun s f => setL beqS s f.p true) []
theorem paT_0 (l : List Fl) : paT l 0 = [] := rfl
theorem paT_s {l : List Fl} {i : Nat} (hi : i < l.length) : setL beqS (paT l i) (l.getD i Fl.z).p true = paT l (i + 1) := by
 unfold paT; rw [take_getD (d := Fl.z) hi, List.foldl_append]; rfl
theorem paT_get (l : List Fl) (q : L8) : ∀ i, i ≤ l.length → getL beqS false (paT l i) q = (l.take i).any fun f => q == f.p
  | 0, _ => rfl
  | i + 1, hi => by
    have ih := paT_get l q i (by omega)
    rw [← paT_s (by omega), getB_set, ih, take_getD (d := Fl.z) (by omega), List.any_append]
    simp only [List.any_cons, List.any_nil, Bool.or_false]
    rw [Bool.or_comm]
theorem pa_clear {l : List Fl} {i : Nat} (hi : i ≤ l.length) : ((dirs (l.getD i Fl.z).p).all fun d => !getL beqS false (paT l i) d) = clear l i := by
 unfold clear
 exact congrArg (fun f => (dirs (l.getD i Fl.z).p).all f) (funext fun d => by rw [paT_get l d i hi])
def prevP (l : List Fl) (i : Nat) : L8 := if i = 0 then [] else (l.getD (i - 1) Fl.z).p
theorem prev_s (l : List Fl) (i : Nat) : (l.getD i Fl.z).p = prevP l (i + 1) := by unfold prevP; rw [if_neg (by omega)]; rfl
theorem prev_le {l : List Fl} {i : Nat} {a : L8} : (decide ((i : Int) > 0) && leS a (prevP l i)) = (decide ((i : Int) > 0) && leS a (l.getD (i - 1) Fl.z).p) := by
 unfold prevP
 by_cases h : i = 0
 ·skip
  subst h; rfl
 ·skip
  rw [if_neg h]
section
variable {l : List Fl} {i : Nat}
theorem fl_o (h : (flO (l.getD i Fl.z) != 0) = true) : flAt l i = flO (l.getD i Fl.z) := if_pos h
variable (h : (flO (l.getD i Fl.z) != 0) = false)
include h
theorem fl_7 (h2 : (decide ((i : Int) > 0) && leS (l.getD i Fl.z).p (l.getD (i - 1) Fl.z).p) = true) : flAt l i = 7 := by unfold flAt; rw [if_neg (Bool.eq_false_iff.1 h), if_pos h2]
variable (h2 : (decide ((i : Int) > 0) && leS (l.getD i Fl.z).p (l.getD (i - 1) Fl.z).p) = false)
include h2
theorem fl_11 (h3 : (!clear l i) = true) : flAt l i = 11 := by unfold flAt; rw [if_neg (Bool.eq_false_iff.1 h), if_neg (Bool.eq_false_iff.1 h2), if_pos h3]
theorem fl_0 (h3 : (!clear l i) = false) : flAt l i = 0 := by unfold flAt; rw [if_neg (Bool.eq_false_iff.1 h), if_neg (Bool.eq_false_iff.1 h2), if_neg (Bool.eq_false_iff.1 h3)]
end
theorem flE_hit {l : List Fl} {i : Nat} {e : Int} (hi : i < l.length) (h : OkTo (flAt l) i) (c : flAt l i = e) (he : e ≠ 0) : flE l = e := by unfold flE; exact errs_hit hi h c he
theorem flE_none {l : List Fl} {i : Nat} (hi : l.length ≤ i) (h : OkTo (flAt l) i) : flE l = 0 := by unfold flE; exact errs_none hi h
def bigM (m : Mac) : Bool := ((decide ((m.fa.length : Int) > 100) || decide ((m.fl.length : Int) > 2000)) || decide ((m.se.length : Int) > 2000)) || decide ((m.sv.length : Int) > 100)
section
variable {m : Mac}
theorem ck_4 (h : bigM m = true) : chkM m = 4 := if_pos h
variable (h : bigM m = false)
include h
theorem ck_n : chkM m = if listE nameB m.fa != 0 then listE nameB m.fa else if flE m.fl != 0 then flE m.fl else if listE pathB m.se != 0 then listE pathB m.se else svE m.sv := if_neg (Bool.eq_false_iff.1 h)
theorem ck_a (h2 : (listE nameB m.fa != 0) = true) : chkM m = listE nameB m.fa := by rw [ck_n h, if_pos h2]
variable (h2 : (listE nameB m.fa != 0) = false)
include h2
theorem ck_f {e : Int} (he : flE m.fl = e) (hne : e ≠ 0) : chkM m = e := by rw [ck_n h, if_neg (Bool.eq_false_iff.1 h2), he, if_pos (by simpa using hne)]
variable (h3 : flE m.fl = 0)
include h3
theorem ck_s (h4 : (listE pathB m.se != 0) = true) : chkM m = listE pathB m.se := by rw [ck_n h, if_neg (Bool.eq_false_iff.1 h2), h3, if_neg (by decide), if_pos h4]
theorem ck_v (h4 : (listE pathB m.se != 0) = false) : chkM m = svE m.sv := by rw [ck_n h, if_neg (Bool.eq_false_iff.1 h2), h3, if_neg (by decide), if_neg (Bool.eq_false_iff.1 h4)]
end
end
section
open Go
open Go.RowKit
attribute [local irreducible] thenK blockK W
attribute [local irreducible] pathB nameB valueB listE svAt svE flE flO flAt stgO svO dirs dirTo stgAt clear paT prevP chkM bigM
theorem prev_0 (l : List Fl) : V.one (.d (.str [])) = V.one (.d (.str (prevP l 0))) := by unfold prevP; rfl
theorem big_of {m : Mac} {b : Bool} (h : (((decide (((m.fa.map stgD).length : Int) > 100) || decide (((m.fl.map flD).length : Int) > 2000)) || decide (((m.se.map stgD).length : Int) > 2000)) || decide (((m.sv.map svD).length : Int) > 100)) = b) : bigM m = b := by
 simp only [List.length_map] at h; unfold bigM; exact h
theorem pc_chk2 (U : SetT) (d : L8) :
  HCall Tryz.prog J 42 ([.one (.d (.str d)), .one (.ptr 0 0)]) ([[.map 0]]) ([]) ([setD U]) (isH (.one (.d (.bool (!getL beqS false U d)))) ([[.map 0]]) ([]) ([setD U])) := by
 refine HCall.ofD tOk ⟨1, 0, 1⟩ (fn := Tryz.f42) Tryz.func42 (by kernel_rfl) rfl (Nat.le_of_ble_eq_true rfl) (fun E => ?_)
 iterate 5 first|refine Yp rfl ?_|apply Y3|apply Y1
 refine S.lookup tOk keyS (fD := fun v : Bool => DV.one (.bool v)) false (U) rfl rfl rfl rfl rfl rfl rfl rfl rfl rfl (show mapV false _ _ = _ from rfl) ?_
 iterate 2 refine Yp rfl ?_
 apply Yn
 apply Yt
 exact ⟨_, rfl, rfl, LeG.refl _, rfl, rfl, rfl⟩
theorem pc_Check (m : Mac) (hm : MacA m) :
  PureCall Tryz.prog J 7 [.agg [.d (.vec 2 (m.fa.map stgD)), .d (.vec 3 (m.fl.map flD)), .d (.vec 2 (m.se.map stgD)), .d (.vec 4 (m.sv.map svD))]] (.one (.d (.int .i64 (chkM m)))) := by
 have hfl := hm.fl.n
 refine PureCall.of_body tOk (fn := Tryz.f7) Tryz.func7 (by kernel_rfl) rfl (Nat.le_of_ble_eq_true rfl) (fun E => ?_)
 iterate 29 first|refine S.pickOr tOk zOk rfl rfl tg ?_|refine Yg rfl rfl tg ?_|refine Yp rfl ?_|refine S.box rfl rfl rfl rfl ?_|apply Y1|apply Yn|apply Ys
 refine W.cond rfl (fun c1=>?_) fun c1=>?_
 ·skip
  have hb := big_of (m := m) (by assumption)
  apply Y1
  refine Yp rfl ?_
  apply Yn
  apply Yt
  apply Yu
  exact ⟨_, rfl, rfl, LeV.of_eq (congrArg (fun x => V.one (C.d (D.int .i64 x))) ((ck_4 hb).symm))⟩
 have hb := big_of (m := m) (by assumption)
 apply Yk
 apply Yn
 apply Ys
 apply Y1
 iterate 2 refine Yp rfl ?_
 refine S.call rfl rfl rfl rfl rfl (pc_eachS nameB 36 39 m.fa hm.fa (fun s hs => pc_chk1 s (hm.fa.s s hs).1 (hm.fa.s s hs).2) (fun s hs => pc_keyOf s)) ?_
 iterate 5 first|refine Yp rfl ?_|apply Y3|apply Yn
 refine W.cond rfl (fun c2=>?_) fun c2=>?_
 ·skip
  have h2 : (listE nameB m.fa != 0) = true := (by assumption)
  iterate 6 first|refine Yp rfl ?_|apply Yu|apply Yt|apply Y1|apply Yn
  exact ⟨_, rfl, rfl, LeV.of_eq (congrArg (fun x => V.one (C.d (D.int .i64 x))) ((ck_a hb h2).symm))⟩
 have h2 : (listE nameB m.fa != 0) = false := (by assumption)
 apply Yk
 apply Y3
 refine Yp rfl ?_
 apply Y3
 refine S.makeMap rfl ?_
 refine S.alloc tOk rfl rfl rfl rfl ?_
 iterate 9 first|refine Yp rfl ?_|refine S.store tOk rfl rfl rfl rfl rfl rfl rfl rfl ?_|apply Y1|apply Yn|apply Ys
 rw [show ([] : List (DV × DV)) = setD (paT m.fl 0) from by rw [paT_0]; rfl]
 apply Yb
 refine W.loop (fun k st => ∃ i : Nat, i ≤ m.fl.length ∧ OkTo (flAt m.fl) i ∧ k = m.fl.length - i ∧ ∃ t b2 r2 m2, st = ⟨t, [[.d (.vec 2 (m.fa.map stgD)), .d (.vec 3 (m.fl.map flD)), .d (.vec 2 (m.se.map stgD)), .d (.vec 4 (m.sv.map svD))], [.map 0]] ++ b2, [] ++ r2, [setD (paT m.fl i)] ++ m2⟩ ∧ holdsL t [(1, .one (.ptr 0 0)), (4, .one (.d (.str (prevP m.fl i)))), (5, .one (.ptr 1 0)), (40, .one (.d (.vec 3 (m.fl.map flD)))), (41, .one (.d (.int .i64 ((m.fl.map flD).length : Int)))), (42, .one (.d (.int .i64 (i : Int))))]) (m.fl.length) ⟨0, Nat.zero_le _, ok_0 _, rfl, _, _, _, _, rfl, rfl, prev_0 _, rfl, rfl, rfl, rfl, trivial⟩ ?_
 rintro k0 _ ⟨i, f0_0, f0_1, rfl, t0, bb0, rr0, mm0, rfl, hh0⟩
 refine W.keepR _ _ _ _ _ _ _ hh0 rfl ?_
 apply Y1
 refine Yp rfl ?_
 apply Yn
 apply Ys
 refine W.cond rfl (fun c3=>?_) fun c3=>?_
 ·skip
  have hi := row_lt (by assumption)
  have hlen := hm.fl.s _ (mem_getD (d := Fl.z) hi)
  apply Yk
  apply Yn
  apply Ys
  apply Yb
  apply Y1
  refine Yp rfl ?_
  refine YE rfl (row_ok hi) (row_at Fl.z hi) rfl ?_
  iterate 8 first|refine Yp rfl ?_|refine S.store tOk rfl rfl rfl rfl rfl rfl rfl rfl ?_|refine S.alloc tOk rfl rfl rfl rfl ?_|apply Y1|apply Ys|apply Yn
  refine S.call rfl rfl rfl rfl rfl (pc_fileF (m.fl.getD i Fl.z) hlen.1) ?_
  iterate 5 first|refine Yp rfl ?_|apply Y3|apply Yn
  refine W.cond rfl (fun c4=>?_) fun c4=>?_
  ·skip
   have he : (flO (m.fl.getD i Fl.z) != 0) = true := (by assumption)
   have hres := ck_f hb h2 (flE_hit hi f0_1 (fl_o he) (by simpa using he)) (by simpa using he)
   iterate 11 first|apply Yu|apply Yv|refine Yp rfl ?_|apply Yt|apply Y1|apply Yn
   exact ⟨_, rfl, rfl, LeV.of_eq (congrArg (fun x => V.one (C.d (D.int .i64 x))) (hres.symm))⟩
  have he : (flO (m.fl.getD i Fl.z) != 0) = false := (by assumption)
  iterate 13 first|refine S.pickAnd tOk zOk rfl rfl tg ?_|refine Yg rfl rfl tg ?_|refine Yp rfl ?_|apply Yk|apply Y1|apply Yn|apply Ys
  refine W.cond rfl (fun c5=>?_) fun c5=>?_
  ·skip
   have ho : (decide ((i : Int) > 0) && leS (m.fl.getD i Fl.z).p (m.fl.getD (i - 1) Fl.z).p) = true := prev_le.symm.trans (by assumption)
   have hres := ck_f hb h2 (flE_hit hi f0_1 (fl_7 he ho) (by decide)) (by decide)
   iterate 10 first|apply Yu|apply Yv|apply Yt|refine Yp rfl ?_|apply Y1|apply Yn
   exact ⟨_, rfl, rfl, LeV.of_eq (congrArg (fun x => V.one (C.d (D.int .i64 x))) (hres.symm))⟩
  have ho : (decide ((i : Int) > 0) && leS (m.fl.getD i Fl.z).p (m.fl.getD (i - 1) Fl.z).p) = false := prev_le.symm.trans (by assumption)
  iterate 6 first|refine Yp rfl ?_|apply Yk|apply Y1|apply Ys|apply Yn
  refine S.makeFunc rfl rfl rfl ?_
  refine S.hcallD rfl rfl rfl rfl ((pc_above 42 [.ptr 1 0] _ _ _ (fun d => !getL beqS false (paT m.fl i) d) (m.fl.getD i Fl.z).p hlen.1 (fun d hd => (pc_chk2 (paT m.fl i) d).fd [1] [] [0] rfl))) ?_
  refine Yp rfl ?_
  apply Yn
  refine W.cond rfl (fun c6=>?_) fun c6=>?_
  ·skip
   have hcl : (!clear m.fl i) = true := by rw [← pa_clear (by omega)]; assumption
   have hres := ck_f hb h2 (flE_hit hi f0_1 (fl_11 he ho hcl) (by decide)) (by decide)
   iterate 10 first|apply Yu|apply Yv|apply Yt|refine Yp rfl ?_|apply Y1|apply Yn
   exact ⟨_, rfl, rfl, LeV.of_eq (congrArg (fun x => V.one (C.d (D.int .i64 x))) (hres.symm))⟩
  have hcl : (!clear m.fl i) = false := by rw [← pa_clear (by omega)]; assumption
  apply Yk
  apply Yn
  refine W.regionC 6 mixed rfl (by kernel_rfl) ?_
  iterate 6 refine Ym rfl rfl ?_
  refine WD.nil ?_
  refine S.mapUpdate tOk keyS (fD := fun v : Bool => DV.one (.bool v)) true (paT m.fl i) rfl rfl rfl rfl rfl rfl rfl rfl (show _ = [setD (paT m.fl (i + 1))] from congrArg (fun x => [setD x]) (paT_s hi)) ?_
  apply Yw
  apply Y4
  iterate 2 refine Yp rfl ?_
  refine loop_n (m.fl.length - (i + 1)) (by omega) ⟨i + 1, hi, ok_s f0_1 (fl_0 he ho hcl), rfl, _, _, _, _, rfl, rfl, congrArg (fun x => V.one (C.d (D.str x))) (prev_s m.fl i), rfl, rfl, rfl, inc_i64 (by omega), trivial⟩
 have hi := row_ge (by assumption)
 have h3 := flE_none hi f0_1
 iterate 9 first|refine Yp rfl ?_|apply Ye|apply Yx|apply Yq|apply Y1|apply Ys|apply Yn
 refine S.call rfl rfl rfl rfl rfl (pc_eachS pathB 43 39 m.se hm.se (fun s hs => pc_chk3 s (hm.se.s s hs).1 (hm.se.s s hs).2) (fun s hs => pc_keyOf s)) ?_
 iterate 5 first|refine Yp rfl ?_|apply Y3|apply Yn
 refine W.cond rfl (fun c7=>?_) fun c7=>?_
 ·skip
  have h4 : (listE pathB m.se != 0) = true := (by assumption)
  iterate 6 first|refine Yp rfl ?_|apply Yu|apply Yt|apply Y1|apply Yn
  exact ⟨_, rfl, rfl, LeV.of_eq (congrArg (fun x => V.one (C.d (D.int .i64 x))) ((ck_s hb h2 h3 h4).symm))⟩
 have h4 : (listE pathB m.se != 0) = false := (by assumption)
 apply Yk
 apply Y3
 iterate 2 refine Yp rfl ?_
 refine S.call rfl rfl rfl rfl rfl (pc_eachV 46 47 m.sv hm.sv (fun s hs => pc_svcF s (hm.sv.s s hs).1 (hm.sv.s s hs).2) (fun s hs => pc_nameOf s)) ?_
 refine Yp rfl ?_
 apply Yn
 apply Yt
 exact ⟨_, rfl, rfl, LeV.of_eq (congrArg (fun x => V.one (C.d (D.int .i64 x))) ((ck_v hb h2 h3 h4).symm))⟩
end
section
open Go
structure Stq where
 k : Int
 n : L8
 v : L8
def stqD (s : Stq) : List D := [.int .i64 s.k, .str s.n, .str s.v]
def wStage : L8 := [115, 116, 97, 103, 101]
def wOutfit : L8 := [111, 117, 116, 102, 105, 116]
theorem cutS (s : L8) : ((47 : UInt8) ∉ s ∧ Lib.cut s [47] = (s, [], false)) ∨ ∃ w t, (47 : UInt8) ∉ w ∧ s = w ++ 47 :: t ∧ Lib.cut s [47] = (w, t, true) := by
  induction s with
  | nil => exact .inl ⟨by simp, cut_none (by simp)⟩
  | cons c s ih =>
    by_cases hc : c = 47
    · subst hc
      exact .inr ⟨[], s, by simp, rfl, cut_at (x := []) (by simp)⟩
    · rcases ih with ⟨h1, _⟩ | ⟨w, t, h1, h2, _⟩
      · have : (47 : UInt8) ∉ c :: s := by simp [h1]; exact fun e => hc e.symm
        exact .inl ⟨this, cut_none this⟩
      · have : (47 : UInt8) ∉ c :: w := by simp [h1]; exact fun e => hc e.symm
        exact .inr ⟨c :: w, t, this, by rw [h2]; rfl, by rw [h2]; exact cut_at this⟩
theorem split_first {a b x y : L8} (ha : (47 : UInt8) ∉ a) (hb : (47 : UInt8) ∉ b) (h : a ++ 47 :: x = b ++ 47 :: y) : a = b := by
 induction a generalizing b with
 | nil =>
  cases b with
  | nil => rfl
  | cons c b => simp at h; exact absurd (by rw [h.1]; simp) hb
 | cons d a ih =>
  cases b with
  | nil => simp at h; exact absurd (by rw [h.1]; simp) ha
  | cons c b =>
   simp at h ha hb
   rw [h.1, ih (by simpa using ha.2) (by simpa using hb.2) h.2]
theorem top_own {p w : L8} (hw : (47 : UInt8) ∉ w) : ((Lib.cut p [47]).1 == w) = (p == w || Lib.hasPrefix p (w ++ [47])) := by
 rcases cutS p with ⟨h1, h2⟩ | ⟨a, t, h1, h2, h3⟩
 ·skip
  rw [h2]
  have : Lib.hasPrefix p (w ++ [47]) = false := by
   rw [Bool.eq_false_iff]
   intro h
   obtain ⟨z, hz⟩ := hasPrefix_iff.1 h
   exact h1 (by rw [hz]; simp)
  rw [this, Bool.or_false]
 ·skip
  rw [h3]
  have hne : (p == w) = false := by
   rw [beq_eq_false_iff_ne]
   intro e
   exact hw (by rw [← e, h2]; simp)
  rw [hne, Bool.false_or, Bool.eq_iff_iff, beq_iff_eq]
  show a = w ↔ _
  constructor
  ·skip
   rintro rfl
   exact hasPrefix_iff.2 ⟨t, by rw [h2]; simp⟩
  ·skip
   intro h
   obtain ⟨z, hz⟩ := hasPrefix_iff.1 h
   rw [h2] at hz
   exact split_first h1 hw (by simpa using hz)
def ownP (p : L8) : Bool := (p == wStage || Lib.hasPrefix p (wStage ++ [47])) || (p == wOutfit || Lib.hasPrefix p (wOutfit ++ [47]))
theorem own_top (p : L8) : ((Lib.cut p [47]).1 == wStage || (Lib.cut p [47]).1 == wOutfit) = ownP p := by
 rw [top_own (by decide), top_own (by decide)]; rfl
def stpE (s : Stq) : Int :=
 if decide (s.k < 1) || decide (s.k > 6) then 1 else if !(if decide (s.k ≥ 5) then nameB s.n else pathB s.n) then 5 else if (s.k == 3 || s.k == 4) && ownP s.n then 17
 else if !valueB s.v || ((!(s.v == []) && !(s.k == 1)) && !(s.k == 3)) then 2 else 0
section
variable {s : Stq}
theorem st_1 (h : (decide (s.k < 1) || decide (s.k > 6)) = true) : stpE s = 1 := if_pos h
variable (h : (decide (s.k < 1) || decide (s.k > 6)) = false)
include h
theorem st_5 (h2 : (!(if decide (s.k ≥ 5) then nameB s.n else pathB s.n)) = true) : stpE s = 5 := by unfold stpE; rw [if_neg (Bool.eq_false_iff.1 h), if_pos h2]
variable (h2 : (!(if decide (s.k ≥ 5) then nameB s.n else pathB s.n)) = false)
include h2
theorem st_17 (h3 : ((s.k == 3 || s.k == 4) && ownP s.n) = true) : stpE s = 17 := by unfold stpE; rw [if_neg (Bool.eq_false_iff.1 h), if_neg (Bool.eq_false_iff.1 h2), if_pos h3]
variable (h3 : ((s.k == 3 || s.k == 4) && ownP s.n) = false)
include h3
theorem st_w {b : Bool} (h4 : (!valueB s.v || ((!(s.v == []) && !(s.k == 1)) && !(s.k == 3))) = b) : stpE s = if b then 2 else 0 := by unfold stpE; rw [if_neg (Bool.eq_false_iff.1 h), if_neg (Bool.eq_false_iff.1 h2), if_neg (Bool.eq_false_iff.1 h3), h4]
end
theorem st_rng (k : Int) : (!inB k 1 6) = (decide (k < 1) || decide (k > 6)) := by
 unfold inB
 rw [Bool.eq_iff_iff]; simp <;> omega
theorem st_nam {k : Int} (h : (decide (k < 1) || decide (k > 6)) = false) (a b : Bool) : (((k == 5 || k == 6) && !a) || (!(k == 5 || k == 6) && !b)) = !(if decide (k ≥ 5) then a else b) := by
 simp only [Bool.or_eq_false_iff, decide_eq_false_iff_not] at h
 have hk : k = 1 ∨ k = 2 ∨ k = 3 ∨ k = 4 ∨ k = 5 ∨ k = 6 := by omega
 rcases hk with rfl | rfl | rfl | rfl | rfl | rfl <;> cases a <;> cases b <;> rfl
theorem st_val (k : Int) (a b : Bool) : (!a || (!(k == 1 || k == 3) && !b)) = (!a || ((!b && !(k == 1)) && !(k == 3))) := by
 cases a <;> cases b <;> cases (k == 1) <;> cases (k == 3) <;> rfl
end
section
open Go
open Go.RowKit
attribute [local irreducible] thenK blockK W
attribute [local irreducible] pathB nameB valueB ownP stpE inB
structure StqA (s : Stq) : Prop where
 n : s.n.length ≤ 2000000
 v : s.v.length ≤ 2000000
theorem pc_IsBelow (p w : L8) (hw : w.length ≤ 1000000) :
  PureCall Tryz.prog J 156 [.one (.d (.str p)), .one (.d (.str w))] (.one (.d (.bool (Lib.hasPrefix p (w ++ [47]))))) := by
 refine PureCall.of_body tOk (fn := Tryz.f156) Tryz.func156 (by kernel_rfl) rfl (Nat.le_of_ble_eq_true rfl) (fun E => ?_)
 iterate 5 first|refine Yp rfl ?_|apply Y3|apply Y1
 refine YP rfl (cat_ok (by simp; omega)) rfl ?_
 refine S.call rfl rfl rfl rfl rfl (pc_HasPrefix p (w ++ [47])) ?_
 refine Yp rfl ?_
 apply Yn
 apply Yt
 exact ⟨_, rfl, rfl, LeV.refl _⟩
theorem pc_Own (p : L8) :
  PureCall Tryz.prog J 105 [.one (.d (.str p))] (.one (.d (.bool (ownP p)))) := by
 refine PureCall.of_body tOk (fn := Tryz.f105) Tryz.func105 (by kernel_rfl) rfl (Nat.le_of_ble_eq_true rfl) (fun E => ?_)
 iterate 9 first|refine Yp rfl ?_|apply Yb|apply Y1|apply Yn|apply Ys
 refine W.rounds 3 ?_
 refine WR.succ ?_
 apply Y1
 refine Yp rfl ?_
 apply Yn
 apply Ys
 refine W.condT rfl rfl ?_
 apply Yk
 apply Yn
 apply Ys
 apply Yb
 apply Y1
 refine YP rfl (by first | rfl | exact idx_ok (by omega) (by omega)) rfl ?_
 iterate 8 first|refine Yp rfl ?_|refine Yg rfl rfl tg ?_|apply Y3
 refine S.callG rfl rfl rfl rfl tg rfl rfl (fun _ => pc_IsBelow p wStage (by decide)) ?_
 refine S.pickOr tOk zOk rfl rfl tg ?_
 apply Yn
 refine W.cond rfl (fun c2=>?_) fun c2=>?_
 ·skip
  iterate 9 first|apply Yu|apply Yv|apply Yt|refine Yp rfl ?_|apply Y1|apply Yn
  exact ⟨_, rfl, rfl, LeV.of_eq (congrArg (fun x => V.one (C.d (D.bool x))) (by unfold ownP; exact (by rw [show (p == wStage || Lib.hasPrefix p (wStage ++ [47])) = true by assumption]; rfl)))⟩
 apply Yk
 apply Yw
 apply Y4
 iterate 2 refine Yp rfl ?_
 apply Yn
 refine WR.succ ?_
 apply Y1
 refine Yp rfl ?_
 apply Yn
 apply Ys
 refine W.condT rfl rfl ?_
 apply Yk
 apply Yn
 apply Ys
 apply Yb
 apply Y1
 refine YP rfl (by first | rfl | exact idx_ok (by omega) (by omega)) rfl ?_
 iterate 8 first|refine Yp rfl ?_|refine Yg rfl rfl tg ?_|apply Y3
 refine S.callG rfl rfl rfl rfl tg rfl rfl (fun _ => pc_IsBelow p wOutfit (by decide)) ?_
 refine S.pickOr tOk zOk rfl rfl tg ?_
 apply Yn
 refine W.cond rfl (fun c4=>?_) fun c4=>?_
 ·skip
  iterate 9 first|apply Yu|apply Yv|apply Yt|refine Yp rfl ?_|apply Y1|apply Yn
  exact ⟨_, rfl, rfl, LeV.of_eq (congrArg (fun x => V.one (C.d (D.bool x))) (by unfold ownP; rw [show (p == wStage || Lib.hasPrefix p (wStage ++ [47])) = false by assumption]; first | rw [show (p == wOutfit || Lib.hasPrefix p (wOutfit ++ [47])) = true by assumption]; rfl | rw [show (p == wOutfit || Lib.hasPrefix p (wOutfit ++ [47])) = false by assumption]; rfl))⟩
 apply Yk
 apply Yw
 apply Y4
 iterate 2 refine Yp rfl ?_
 apply Yn
 refine WR.succ ?_
 apply Y1
 refine Yp rfl ?_
 apply Yn
 apply Ys
 refine W.condF rfl rfl ?_
 apply Yq
 apply Ye
 apply Ye
 apply Yx
 apply Y3
 refine Yp rfl ?_
 apply Yn
 apply Yt
 exact ⟨_, rfl, rfl, LeV.of_eq (congrArg (fun x => V.one (C.d (D.bool x))) (by unfold ownP; rw [show (p == wStage || Lib.hasPrefix p (wStage ++ [47])) = false by assumption]; first | rw [show (p == wOutfit || Lib.hasPrefix p (wOutfit ++ [47])) = true by assumption]; rfl | rw [show (p == wOutfit || Lib.hasPrefix p (wOutfit ++ [47])) = false by assumption]; rfl))⟩
theorem pc_StepFault (s : Stq) (hs : StqA s) :
  PureCall Tryz.prog J 49 [.agg [.d (.int .i64 s.k), .d (.str s.n), .d (.str s.v)]] (.one (.d (.int .i64 (stpE s)))) := by
 have hn := hs.n
 have hv := hs.v
 refine PureCall.of_body tOk (fn := Tryz.f49) Tryz.func49 (by kernel_rfl) rfl (Nat.le_of_ble_eq_true rfl) (fun E => ?_)
 iterate 15 first|refine S.pickOr tOk zOk rfl rfl tg ?_|refine Yp rfl ?_|refine Yg rfl rfl tg ?_|refine S.box rfl rfl rfl rfl ?_|apply Y1|apply Yn|apply Ys
 refine W.cond rfl (fun c1=>?_) fun c1=>?_
 ·skip
  have h : (decide (s.k < 1) || decide (s.k > 6)) = true := (by assumption)
  apply Y1
  refine Yp rfl ?_
  apply Yn
  apply Yt
  apply Yu
  exact ⟨_, rfl, rfl, LeV.of_eq (congrArg (fun x => V.one (C.d (D.int .i64 x))) ((st_1 h).symm))⟩
 have h : (decide (s.k < 1) || decide (s.k > 6)) = false := (by assumption)
 apply Yk
 iterate 9 first|refine Yp rfl ?_|apply Y1|apply Y3|apply Yn|apply Ys
 refine W.cond rfl (fun c2=>?_) fun c2=>?_
 ·skip
  have hk : decide (s.k ≥ 5) = true := (by assumption)
  iterate 9 first|refine Yp rfl ?_|apply Yb|apply Y1|apply Ys|apply Yn|apply Yr
  refine S.call rfl rfl rfl rfl rfl (pc_ver_IsName s.n (by omega)) ?_
  iterate 2 refine Yp rfl ?_
  apply Yn
  refine W.cond rfl (fun c3=>?_) fun c3=>?_
  ·skip
   have h2 : (!(if decide (s.k ≥ 5) then nameB s.n else pathB s.n)) = true := by first | (rw [if_pos hk]; assumption) | (rw [if_neg (Bool.eq_false_iff.1 hk)]; assumption)
   apply Y1
   refine Yp rfl ?_
   apply Yn
   apply Yt
   apply Yv
   apply Yu
   exact ⟨_, rfl, rfl, LeV.of_eq (congrArg (fun x => V.one (C.d (D.int .i64 x))) ((st_5 h h2).symm))⟩
  have h2 : (!(if decide (s.k ≥ 5) then nameB s.n else pathB s.n)) = false := by first | (rw [if_pos hk]; assumption) | (rw [if_neg (Bool.eq_false_iff.1 hk)]; assumption)
  iterate 12 first|refine S.pickOr tOk zOk rfl rfl tg ?_|refine Yg rfl rfl tg ?_|refine Yp rfl ?_|apply Y1
  refine S.callG rfl rfl rfl rfl tg rfl rfl (fun _ => pc_Own s.n) ?_
  refine S.pickAnd tOk zOk rfl rfl tg ?_
  refine Yp rfl ?_
  apply Yn
  refine W.cond rfl (fun c4=>?_) fun c4=>?_
  ·skip
   have h3 : ((s.k == 3 || s.k == 4) && ownP s.n) = true := (by assumption)
   apply Y1
   refine Yp rfl ?_
   apply Yn
   apply Yt
   apply Yv
   apply Yu
   exact ⟨_, rfl, rfl, LeV.of_eq (congrArg (fun x => V.one (C.d (D.int .i64 x))) ((st_17 h h2 h3).symm))⟩
  have h3 : ((s.k == 3 || s.k == 4) && ownP s.n) = false := (by assumption)
  apply Y1
  iterate 2 refine Yp rfl ?_
  refine S.call rfl rfl rfl rfl rfl (pc_ver_IsValue s.v (by omega)) ?_
  iterate 18 first|refine S.pickAndG tOk zOk rfl rfl rfl tg tg ?_|refine S.pickOr tOk zOk rfl rfl tg ?_|refine Yg rfl rfl tg ?_|refine Yp rfl ?_|apply Yn
  refine W.cond rfl (fun c5=>?_) fun c5=>?_
  ·skip
   have h4 : (!valueB s.v || ((!(s.v == []) && !(s.k == 1)) && !(s.k == 3))) = true := (by assumption)
   apply Y1
   refine Yp rfl ?_
   apply Yn
   apply Yt
   apply Yv
   apply Yu
   exact ⟨_, rfl, rfl, LeV.of_eq (congrArg (fun x => V.one (C.d (D.int .i64 x))) ((st_w h h2 h3 h4).symm))⟩
  have h4 : (!valueB s.v || ((!(s.v == []) && !(s.k == 1)) && !(s.k == 3))) = false := (by assumption)
  apply Yk
  apply Yw
  apply Y3
  refine Yp rfl ?_
  apply Yn
  apply Yt
  exact ⟨_, rfl, rfl, LeV.of_eq (congrArg (fun x => V.one (C.d (D.int .i64 x))) ((st_w h h2 h3 h4).symm))⟩
 have hk : decide (s.k ≥ 5) = false := (by assumption)
 apply Yk
 apply Yn
 apply Ys
 apply Yb
 apply Y1
 iterate 3 refine Yp rfl ?_
 refine S.call rfl rfl rfl rfl rfl (pc_ver_IsPath s.n (by omega)) ?_
 iterate 2 refine Yp rfl ?_
 apply Yn
 refine W.cond rfl (fun c6=>?_) fun c6=>?_
 ·skip
  have h2 : (!(if decide (s.k ≥ 5) then nameB s.n else pathB s.n)) = true := by first | (rw [if_pos hk]; assumption) | (rw [if_neg (Bool.eq_false_iff.1 hk)]; assumption)
  apply Y1
  refine Yp rfl ?_
  apply Yn
  apply Yt
  apply Yv
  apply Yu
  exact ⟨_, rfl, rfl, LeV.of_eq (congrArg (fun x => V.one (C.d (D.int .i64 x))) ((st_5 h h2).symm))⟩
 have h2 : (!(if decide (s.k ≥ 5) then nameB s.n else pathB s.n)) = false := by first | (rw [if_pos hk]; assumption) | (rw [if_neg (Bool.eq_false_iff.1 hk)]; assumption)
 iterate 12 first|refine S.pickOr tOk zOk rfl rfl tg ?_|refine Yg rfl rfl tg ?_|refine Yp rfl ?_|apply Y1
 refine S.callG rfl rfl rfl rfl tg rfl rfl (fun _ => pc_Own s.n) ?_
 refine S.pickAnd tOk zOk rfl rfl tg ?_
 refine Yp rfl ?_
 apply Yn
 refine W.cond rfl (fun c7=>?_) fun c7=>?_
 ·skip
  have h3 : ((s.k == 3 || s.k == 4) && ownP s.n) = true := (by assumption)
  apply Y1
  refine Yp rfl ?_
  apply Yn
  apply Yt
  apply Yv
  apply Yu
  exact ⟨_, rfl, rfl, LeV.of_eq (congrArg (fun x => V.one (C.d (D.int .i64 x))) ((st_17 h h2 h3).symm))⟩
 have h3 : ((s.k == 3 || s.k == 4) && ownP s.n) = false := (by assumption)
 apply Y1
 iterate 2 refine Yp rfl ?_
 refine S.call rfl rfl rfl rfl rfl (pc_ver_IsValue s.v (by omega)) ?_
 iterate 18 first|refine S.pickAndG tOk zOk rfl rfl rfl tg tg ?_|refine S.pickOr tOk zOk rfl rfl tg ?_|refine Yg rfl rfl tg ?_|refine Yp rfl ?_|apply Yn
 refine W.cond rfl (fun c8=>?_) fun c8=>?_
 ·skip
  have h4 : (!valueB s.v || ((!(s.v == []) && !(s.k == 1)) && !(s.k == 3))) = true := (by assumption)
  apply Y1
  refine Yp rfl ?_
  apply Yn
  apply Yt
  apply Yv
  apply Yu
  exact ⟨_, rfl, rfl, LeV.of_eq (congrArg (fun x => V.one (C.d (D.int .i64 x))) ((st_w h h2 h3 h4).symm))⟩
 have h4 : (!valueB s.v || ((!(s.v == []) && !(s.k == 1)) && !(s.k == 3))) = false := (by assumption)
 apply Yk
 apply Yw
 apply Y3
 refine Yp rfl ?_
 apply Yn
 apply Yt
 exact ⟨_, rfl, rfl, LeV.of_eq (congrArg (fun x => V.one (C.d (D.int .i64 x))) ((st_w h h2 h3 h4).symm))⟩
theorem pc_CheckStep (s : Stq) (hs : StqA s) :
  PureCall Tryz.prog J 9 [.agg [.d (.int .i64 s.k), .d (.str s.n), .d (.str s.v)]] (.one (.d (.int .i64 (stpE s)))) := by
 refine PureCall.of_body tOk (fn := Tryz.f9) Tryz.func9 (by kernel_rfl) rfl (Nat.le_of_ble_eq_true rfl) (fun E => ?_)
 iterate 5 first|refine Yp rfl ?_|refine S.box rfl rfl rfl rfl ?_|apply Y3|apply Y1
 refine S.call rfl rfl rfl rfl rfl (pc_StepFault s hs) ?_
 refine Yp rfl ?_
 apply Yn
 apply Yt
 exact ⟨_, rfl, rfl, LeV.refl _⟩
theorem pc_StepError (s : Stq) (hs : StqA s) :
  PureCall Tryz.prog J 10 [.agg [.d (.int .i64 s.k), .d (.str s.n), .d (.str s.v)]] (.one (.d (.int .i64 (stpE s)))) := by
 have hn := hs.n
 have hv := hs.v
 refine PureCall.of_body tOk (fn := Tryz.f10) Tryz.func10 (by kernel_rfl) rfl (Nat.le_of_ble_eq_true rfl) (fun E => ?_)
 iterate 8 first|refine Yp rfl ?_|refine S.box rfl rfl rfl rfl ?_|apply Y1|apply Ys|apply Yn
 refine S.call rfl rfl rfl rfl rfl (pc_outref2_In _ _ _) ?_
 refine Yp rfl ?_
 apply Yn
 refine W.cond rfl (fun c1=>?_) fun c1=>?_
 ·skip
  have h : (decide (s.k < 1) || decide (s.k > 6)) = true := (st_rng s.k).symm.trans (by assumption)
  apply Y1
  refine Yp rfl ?_
  apply Yn
  apply Yt
  apply Yu
  exact ⟨_, rfl, rfl, LeV.of_eq (congrArg (fun x => V.one (C.d (D.int .i64 x))) ((st_1 h).symm))⟩
 have h : (decide (s.k < 1) || decide (s.k > 6)) = false := (st_rng s.k).symm.trans (by assumption)
 iterate 18 first|refine S.pickOr tOk zOk rfl rfl tg ?_|refine Yp rfl ?_|refine Yg rfl rfl tg ?_|apply Yk|apply Y1|apply Y3|apply Ys|apply Yn
 refine S.callG rfl rfl rfl rfl tg rfl rfl (fun _ => pc_outref2_NameOf s.n (by omega)) ?_
 iterate 8 first|refine S.pickAnd tOk zOk rfl rfl tg ?_|refine Yg rfl rfl tg ?_|refine Yp rfl ?_
 refine S.callG rfl rfl rfl rfl tg rfl rfl (fun _ => pc_outref2_PathOf s.n (by omega)) ?_
 refine Yg rfl rfl tg ?_
 refine S.pickAndG tOk zOk rfl rfl rfl tg tg ?_
 refine S.pickOr tOk zOk rfl rfl tg ?_
 apply Yn
 refine W.cond rfl (fun c2=>?_) fun c2=>?_
 ·skip
  have h2 : (!(if decide (s.k ≥ 5) then nameB s.n else pathB s.n)) = true := (st_nam h _ _).symm.trans (by assumption)
  apply Y1
  refine Yp rfl ?_
  apply Yn
  apply Yt
  apply Yu
  exact ⟨_, rfl, rfl, LeV.of_eq (congrArg (fun x => V.one (C.d (D.int .i64 x))) ((st_5 h h2).symm))⟩
 have h2 : (!(if decide (s.k ≥ 5) then nameB s.n else pathB s.n)) = false := (st_nam h _ _).symm.trans (by assumption)
 apply Yk
 apply Y3
 iterate 2 refine Yp rfl ?_
 refine S.call rfl rfl rfl rfl rfl (pc_Cut s.n [47] (by omega)) ?_
 iterate 24 first|refine S.pickOr tOk zOk rfl rfl tg ?_|refine Yp rfl ?_|refine Yg rfl rfl tg ?_|apply Y1|apply Ys|apply Yn
 refine S.pickOrG tOk zOk rfl rfl rfl tg tg ?_
 refine S.pickAnd tOk zOk rfl rfl tg ?_
 apply Yn
 refine W.cond rfl (fun c3=>?_) fun c3=>?_
 ·skip
  have h3 : ((s.k == 3 || s.k == 4) && ownP s.n) = true := by rw [← own_top]; assumption
  apply Y1
  refine Yp rfl ?_
  apply Yn
  apply Yt
  apply Yu
  exact ⟨_, rfl, rfl, LeV.of_eq (congrArg (fun x => V.one (C.d (D.int .i64 x))) ((st_17 h h2 h3).symm))⟩
 have h3 : ((s.k == 3 || s.k == 4) && ownP s.n) = false := by rw [← own_top]; assumption
 iterate 14 first|refine S.pickOr tOk zOk rfl rfl tg ?_|refine Yp rfl ?_|refine Yg rfl rfl tg ?_|apply Yk|apply Y3
 refine S.call rfl rfl rfl rfl rfl (pc_outref2_ValueOf s.v (by omega)) ?_
 iterate 9 first|refine S.pickAndG tOk zOk rfl rfl rfl tg tg ?_|refine Yg rfl rfl tg ?_|refine Yp rfl ?_
 refine S.pickOr tOk zOk rfl rfl tg ?_
 refine S.call rfl rfl rfl rfl rfl (pc_outref2_When _ 2) ?_
 refine Yp rfl ?_
 apply Yn
 apply Yt
 exact ⟨_, rfl, rfl, LeV.of_eq (congrArg (fun x => V.one (C.d (D.int .i64 x))) ((st_w h h2 h3 (st_val s.k (valueB s.v) (s.v == [])).symm).symm))⟩
end
section
open Go Go.Sort
section
variable {β : Type}
abbrev TabG (β : Type) := List (L8 × β)
def lkG : TabG β → L8 → Option β
 | [], _ => none
 | x :: l, k => if k == x.1 then some x.2 else lkG l k
def ndG (t : TabG β) : Prop := (t.map (·.1)).Nodup
theorem ndG_nil : ndG ([] : TabG β) := List.nodup_nil
theorem ndG_cons {x : L8 × β} {l : TabG β} : ndG (x :: l) ↔ x.1 ∉ l.map (·.1) ∧ ndG l := by unfold ndG; rw [List.map_cons, List.nodup_cons]
theorem lkG_none {t : TabG β} {k : L8} : lkG t k = none ↔ k ∉ t.map (·.1) := by
 induction t with
 | nil => simp [lkG]
 | cons x l ih =>
  unfold lkG
  by_cases h : (k == x.1) = true
  ·skip
   rw [if_pos h]; simp [beq_iff_eq.1 h]
  ·skip
   rw [if_neg h, ih]
   simp at h
   simp [h]
theorem hasG_lk (t : TabG β) (k : L8) : hasL beqS t k = (lkG t k).isSome := by
 induction t with
 | nil => rfl
 | cons x l ih =>
  unfold lkG hasL
  by_cases h : (k == x.1) = true
  ·skip
   rw [if_pos h]; simp [beqS, h]
  ·skip
   rw [if_neg h]
   simp only [List.any_cons, beqS, h, Bool.false_or]
   exact ih
theorem getG_lk (z : β) (t : TabG β) (k : L8) : getL beqS z t k = (lkG t k).getD z := by
 induction t with
 | nil => rfl
 | cons x l ih =>
  unfold lkG getL
  by_cases h : (k == x.1) = true
  ·skip
   rw [if_pos h]; simp [beqS, h]
  ·skip
   rw [if_neg h]; simp [beqS, h, ih]
theorem lkG_set (t : TabG β) (k : L8) (v : β) (q : L8) : lkG (setL beqS t k v) q = if q == k then some v else lkG t q := by
  induction t with
  | nil => simp [setL, lkG]
  | cons x l ih =>
    unfold setL
    by_cases h : (k == x.1) = true
    · simp only [beqS, h, cond_true]
      have hk := beq_iff_eq.1 h
      by_cases hq : (q == k) = true
      · rw [if_pos hq]; unfold lkG; rw [if_pos hq]
      · rw [if_neg hq]
        conv => lhs; unfold lkG
        rw [if_neg hq]
        rw [hk] at hq
        conv => rhs; unfold lkG
        rw [if_neg hq]
    · simp only [beqS, h, cond_false]
      by_cases hq : (q == x.1) = true
      · have : ¬ (q == k) = true := fun hqk => h (by rw [← beq_iff_eq.1 hqk]; exact hq)
        rw [if_neg this]
        conv => lhs; unfold lkG
        conv => rhs; unfold lkG
        rw [if_pos hq, if_pos hq]
      · conv => lhs; unfold lkG
        rw [if_neg hq, ih]
        by_cases hqk : (q == k) = true
        · rw [if_pos hqk, if_pos hqk]
        · rw [if_neg hqk, if_neg hqk]
          conv => rhs; unfold lkG
          rw [if_neg hq]
theorem keysG_set (t : TabG β) (k : L8) (v : β) (q : L8) : q ∈ (setL beqS t k v).map (·.1) ↔ q = k ∨ q ∈ t.map (·.1) := by
 have h1 := lkG_none (t := setL beqS t k v) (k := q)
 have h2 := lkG_none (t := t) (k := q)
 rw [lkG_set] at h1
 by_cases hq : (q == k) = true
 ·skip
  rw [if_pos hq] at h1
  simp at h1
  have := beq_iff_eq.1 hq
  exact ⟨fun _ => .inl this, fun _ => by simpa using h1⟩
 ·skip
  rw [if_neg hq] at h1
  have hne : q ≠ k := fun h => hq (by simp [h])
  have h3 := not_congr (h1.symm.trans h2)
  simp only [Classical.not_not] at h3
  exact h3.trans ⟨.inr, fun h => h.resolve_left hne⟩
theorem ndG_set {t : TabG β} (h : ndG t) (k : L8) (v : β) : ndG (setL beqS t k v) := by
 induction t with
 | nil => simp [setL, ndG]
 | cons x l ih =>
  unfold setL
  obtain ⟨h1, h2⟩ := ndG_cons.1 h
  by_cases hk : (k == x.1) = true
  ·skip
   simp only [beqS, hk, cond_true]
   exact ndG_cons.2 ⟨by rw [beq_iff_eq.1 hk]; exact h1, h2⟩
  ·skip
   simp only [beqS, hk, cond_false]
   refine ndG_cons.2 ⟨fun hm => ?_, ih h2⟩
   rcases (keysG_set l k v x.1).1 hm with h3 | h3
   ·skip
    exact hk (by simp [h3])
   ·skip
    exact h1 h3
theorem delG_sub (t : TabG β) (k : L8) : (delL beqS t k).Sublist t := by
 induction t with
 | nil => exact List.Sublist.refl _
 | cons x l ih =>
  unfold delL
  by_cases h : (k == x.1) = true
  ·skip
   simp only [beqS, h, cond_true]; exact List.sublist_cons_self _ _
  ·skip
   simp only [beqS, h, cond_false]; exact ih.cons_cons _
theorem ndG_sub {t t' : TabG β} (h : ndG t) (hs : t'.Sublist t) : ndG t' := (hs.map _).nodup h
theorem ndG_del {t : TabG β} (h : ndG t) (k : L8) : ndG (delL beqS t k) := ndG_sub h (delG_sub t k)
theorem lkG_mem {t : TabG β} (h : ndG t) {k : L8} {v : β} : lkG t k = some v ↔ (k, v) ∈ t := by
 induction t with
 | nil => simp [lkG]
 | cons x l ih =>
  obtain ⟨h1, h2⟩ := ndG_cons.1 h
  unfold lkG
  by_cases hk : (k == x.1) = true
  ·skip
   rw [if_pos hk]
   have hk := beq_iff_eq.1 hk
   constructor
   ·skip
    intro e
    have : x.2 = v := by simpa using e
    rw [hk, ← this]; exact List.mem_cons_self
   ·skip
    intro e
    rcases List.mem_cons.1 e with e | e
    ·skip
     rw [← e]
    ·skip
     exact absurd (List.mem_map.2 ⟨_, e, rfl⟩) (by rw [hk]; exact h1)
  ·skip
   rw [if_neg hk, ih h2]
   constructor
   ·skip
    exact List.mem_cons_of_mem _
   ·skip
    intro e
    rcases List.mem_cons.1 e with e | e
    ·skip
     exact absurd (by rw [← e]; simp) hk
    ·skip
     exact e
theorem setG_len (t : TabG β) (k : L8) (v : β) : (setL beqS t k v).length = if hasL beqS t k then t.length else t.length + 1 := by
 induction t with
 | nil => rfl
 | cons x l ih =>
  unfold setL hasL
  by_cases h : (k == x.1) = true
  ·skip
   simp [beqS, h]
  ·skip
   simp only [beqS, h, cond_false, List.any_cons, Bool.false_or, List.length_cons, ih]
   unfold hasL beqS
   split <;> rfl
theorem setG_le (t : TabG β) (k : L8) (v : β) : (setL beqS t k v).length ≤ t.length + 1 := by rw [setG_len]; split <;> omega
theorem delG_le (t : TabG β) (k : L8) : (delL beqS t k).length ≤ t.length := (delG_sub t k).length_le
def kyG (t : TabG β) : List L8 := sortS (t.map (·.1))
def ordG (z : β) (t : TabG β) : List β := (kyG t).map fun k => getL beqS z t k
theorem kyG_len (t : TabG β) : (kyG t).length = t.length := by unfold kyG sortS; rw [List.length_mergeSort, List.length_map]
theorem ordG_len (z : β) (t : TabG β) : (ordG z t).length = t.length := by unfold ordG; rw [List.length_map, kyG_len]
theorem kyG_mem {t : TabG β} {k : L8} : k ∈ kyG t ↔ k ∈ t.map (·.1) := by unfold kyG sortS; exact (List.mergeSort_perm _ _).mem_iff
theorem kyG_up {t : TabG β} (h : ndG t) : (kyG t).Pairwise (· < ·) := by
 have h1 := List.pairwise_mergeSort le_trS le_toS (t.map (·.1))
 have h2 : ((t.map (·.1)).mergeSort leB).Nodup := (List.mergeSort_perm _ _).nodup_iff.2 h
 rw [List.nodup_iff_pairwise_ne] at h2
 unfold kyG sortS
 refine (h1.and h2).imp fun ⟨ha, hb⟩ => ?_
 simp only [leB, decide_eq_true_eq] at ha
 rcases List.le_iff_lt_or_eq.1 ha with h | h
 ·skip
  exact h
 ·skip
  exact absurd h hb
def KeyedG (key : β → L8) (t : TabG β) : Prop := ∀ x ∈ t, key x.2 = x.1
theorem keyed_set {key : β → L8} {t : TabG β} (h : KeyedG key t) (v : β) : KeyedG key (setL beqS t (key v) v) := by
 induction t with
 | nil => intro x hx; simp [setL] at hx; subst hx; rfl
 | cons y l ih =>
  intro x hx
  unfold setL at hx
  have h1 : KeyedG key l := fun x hx => h x (List.mem_cons_of_mem _ hx)
  by_cases hk : (key v == y.1) = true
  ·skip
   simp only [beqS, hk, cond_true] at hx
   rcases List.mem_cons.1 hx with rfl | hx
   ·skip
    rfl
   ·skip
    exact h1 x hx
  ·skip
   simp only [beqS, hk, cond_false] at hx
   rcases List.mem_cons.1 hx with rfl | hx
   ·skip
    exact h _ List.mem_cons_self
   ·skip
    exact ih h1 x hx
theorem keyed_del {key : β → L8} {t : TabG β} (h : KeyedG key t) (k : L8) : KeyedG key (delL beqS t k) := fun x hx => h x ((delG_sub t k).subset hx)
theorem ordG_mem {z : β} {t : TabG β} (h : ndG t) {v : β} : v ∈ ordG z t ↔ ∃ k, (k, v) ∈ t := by
 unfold ordG
 rw [List.mem_map]
 constructor
 ·skip
  rintro ⟨k, hk, rfl⟩
  rw [kyG_mem] at hk
  cases hl : lkG t k with
  | none => exact absurd hk (lkG_none.1 hl)
  | some v => exact ⟨k, by rw [getG_lk, hl]; exact (lkG_mem h).1 hl⟩
 ·skip
  rintro ⟨k, hk⟩
  exact ⟨k, kyG_mem.2 (List.mem_map.2 ⟨_, hk, rfl⟩), by rw [getG_lk, (lkG_mem h).2 hk]; rfl⟩
theorem ordG_keys {key : β → L8} {z : β} {t : TabG β} (h : ndG t) (hk : KeyedG key t) : (ordG z t).map key = kyG t := by
 unfold ordG
 rw [List.map_map]
 conv => rhs; rw [← List.map_id (kyG t)]
 refine List.map_congr_left fun k hk' => ?_
 rw [kyG_mem] at hk'
 cases hl : lkG t k with
 | none => exact absurd hk' (lkG_none.1 hl)
 | some v =>
  show key (getL beqS z t k) = k
  rw [getG_lk, hl]
  exact hk _ ((lkG_mem h).1 hl)
theorem ordG_up {key : β → L8} {z : β} {t : TabG β} (h : ndG t) (hk : KeyedG key t) : (ordG z t).Pairwise fun a b => key a < key b := by
 have := kyG_up h
 rw [← ordG_keys (z := z) h hk] at this
 exact List.pairwise_map.1 this
def tabG (key : β → L8) (l : List β) : TabG β := l.foldl (fun t x => setL beqS t (key x) x) []
def tabToG (key : β → L8) (l : List β) (i : Nat) : TabG β := tabG key (l.take i)
theorem tabG_s {key : β → L8} {z : β} {l : List β} {i : Nat} (hi : i < l.length) : setL beqS (tabToG key l i) (key (l.getD i z)) (l.getD i z) = tabToG key l (i + 1) := by
 unfold tabToG tabG; rw [take_getD (d := z) hi, List.foldl_append]; rfl
theorem setG_new : ∀ {t : TabG β} {k : L8} {v : β}, k ∉ t.map (·.1) → setL beqS t k v = t ++ [(k, v)]
  | [], k, v, _ => rfl
  | x :: l, k, v, h => by
    have h1 : k ≠ x.1 := fun e => h (by rw [e]; simp)
    have h2 : k ∉ l.map (·.1) := fun e => h (by simp only [List.map_cons]; exact List.mem_cons_of_mem _ e)
    unfold setL
    simp only [beqS, beq_eq_false_iff_ne.2 h1, cond_false, setG_new h2, List.cons_append]
theorem tabG_app (key : β → L8) : ∀ (l : List β) (t : TabG β), (t.map (·.1) ++ l.map key).Nodup → l.foldl (fun t x => setL beqS t (key x) x) t = t ++ l.map fun x => (key x, x)
  | [], t, _ => by simp
  | x :: l, t, h => by
    rw [List.foldl_cons]
    have h1 : key x ∉ t.map (·.1) := by
      intro hm
      rw [List.nodup_append] at h
      exact h.2.2 _ hm _ (by simp) rfl
    rw [setG_new h1, tabG_app key l]
    · simp
    · simpa using h
theorem tabG_eq {key : β → L8} {l : List β} (h : (l.map key).Nodup) : tabG key l = l.map fun x => (key x, x) := by
 have := tabG_app key l [] (by simpa using h)
 simpa [tabG] using this
theorem up_nd {key : β → L8} {l : List β} (h : l.Pairwise fun a b => key a < key b) : (l.map key).Nodup := by
 rw [List.nodup_iff_pairwise_ne]
 exact List.pairwise_map.2 (h.imp fun hlt he => by rw [he] at hlt; exact List.lt_irrefl _ hlt)
theorem tabG_nd {key : β → L8} {l : List β} (h : (l.map key).Nodup) : ndG (tabG key l) := by
 rw [tabG_eq h]; unfold ndG; rw [List.map_map]; exact h
theorem tabG_keyed {key : β → L8} {l : List β} (h : (l.map key).Nodup) : KeyedG key (tabG key l) := by
 rw [tabG_eq h]
 intro x hx
 obtain ⟨y, _, rfl⟩ := List.mem_map.1 hx
 rfl
theorem tabG_mem {key : β → L8} {l : List β} (h : (l.map key).Nodup) {k : L8} {v : β} : (k, v) ∈ tabG key l ↔ v ∈ l ∧ key v = k := by
 rw [tabG_eq h, List.mem_map]
 constructor
 ·skip
  rintro ⟨x, hx, e⟩
  simp only [Prod.mk.injEq] at e
  rw [← e.2]; exact ⟨hx, e.1⟩
 ·skip
  rintro ⟨h1, rfl⟩
  exact ⟨v, h1, rfl⟩
theorem tabG_le (key : β → L8) (l : List β) : (tabG key l).length ≤ l.length := by
 have go : ∀ (l : List β) (t : TabG β), (l.foldl (fun t x => setL beqS t (key x) x) t).length ≤ t.length + l.length := fun l => by
  induction l with
  | nil => intro t; simp
  | cons x l ih => intro t; rw [List.foldl_cons]; have := ih (setL beqS t (key x) x); have := setG_le t (key x) x; simp only [List.length_cons]; omega
 have := go l []
 simpa [tabG] using this
theorem tabG_ndT (key : β → L8) (l : List β) : ndG (tabG key l) := by
 have go : ∀ (l : List β) (t : TabG β), ndG t → ndG (l.foldl (fun t x => setL beqS t (key x) x) t) := fun l => by
  induction l with
  | nil => intro t h; exact h
  | cons x l ih => intro t h; exact ih _ (ndG_set h _ _)
 exact go l [] ndG_nil
theorem ordG_tab {key : β → L8} {z : β} {l : List β} (h : l.Pairwise fun a b => key a < key b) : ordG z (tabG key l) = l := by
 have hnd := up_nd h
 have hk : kyG (tabG key l) = l.map key := by
  unfold kyG sortS
  have : (tabG key l).map (·.1) = l.map key := by rw [tabG_eq hnd, List.map_map]; rfl
  rw [this]
  refine List.mergeSort_of_pairwise (List.pairwise_map.2 (h.imp fun hlt => ?_))
  simp only [leB, decide_eq_true_eq]; exact List.le_of_lt hlt
 unfold ordG
 rw [hk, List.map_map]
 conv => rhs; rw [← List.map_id l]
 refine List.map_congr_left fun x hx => ?_
 show getL beqS z (tabG key l) (key x) = x
 rw [getG_lk, (lkG_mem (tabG_nd hnd)).2 ((tabG_mem hnd).2 ⟨hx, rfl⟩)]
 rfl
def ordToG (z : β) (t : TabG β) (i : Nat) : List β := ((kyG t).take i).map fun k => getL beqS z t k
theorem ordToG_len (z : β) (t : TabG β) {i : Nat} (hi : i ≤ (kyG t).length) : (ordToG z t i).length = i := by unfold ordToG; rw [List.length_map, List.length_take]; omega
theorem ordToG_end (z : β) (t : TabG β) : ordToG z t (kyG t).length = ordG z t := by unfold ordToG ordG; rw [List.take_length]
theorem ordToG_succ {z : β} {t : TabG β} {i : Nat} {f : β → List D} (hi : i < (kyG t).length) : (ordToG z t i).map f ++ [f (getL beqS z t ((kyG t).getD i []))] = (ordToG z t (i + 1)).map f := by
 unfold ordToG; rw [take_getD (d := []) hi]; simp
end
end
section
open Go Go.Sort
structure Chm where
 k : Int
 f : Fl
 s : Stg
 v : Svc
def Chm.z : Chm := ⟨0, Fl.z, Stg.z, Svc.z⟩
def chmD (c : Chm) : List D := [.int .i64 c.k, .str c.f.p, .str c.f.d, .bool c.f.r, .str c.s.k, .str c.s.v, .str c.v.n, .str c.v.p, .bool c.v.au, .bool c.v.on]
def Mac.z : Mac := ⟨[], [], [], []⟩
def keptC (c : Chm) : Chm :=
 if c.k == 1 then ⟨c.k, c.f, Stg.z, Svc.z⟩ else if c.k == 2 then ⟨c.k, ⟨c.f.p, [], false⟩, Stg.z, Svc.z⟩ else if c.k == 3 then ⟨c.k, Fl.z, c.s, Svc.z⟩ else if c.k == 4 then ⟨c.k, Fl.z, ⟨c.s.k, []⟩, Svc.z⟩
 else if c.k == 5 then ⟨c.k, Fl.z, Stg.z, c.v⟩ else ⟨c.k, Fl.z, Stg.z, ⟨c.v.n, [], false, false⟩⟩
def errC (c : Chm) : Int :=
 if c.k == 1 then flO c.f else if c.k == 2 then flO ⟨c.f.p, [], false⟩ else if c.k == 3 then stgO (pathB c.s.k) c.s else if c.k == 4 then stgO (pathB c.s.k) ⟨c.s.k, []⟩
 else if c.k == 5 then svO c.v else if !nameB c.v.n then 5 else 0
def chmB (a b : Chm) : Bool := (a.k == b.k) && (((a.f.p == b.f.p) && ((a.f.d == b.f.d) && ((a.f.r == b.f.r) && true))) && (((a.s.k == b.s.k) && ((a.s.v == b.s.v) && true)) && (((a.v.n == b.v.n) && ((a.v.p == b.v.p) && ((a.v.au == b.v.au) && ((a.v.on == b.v.on) && true)))) && true)))
def chgE (c : Chm) : Int := if decide (c.k < 1) || decide (c.k > 6) then 1 else if (errC c == 0) && !chmB c (keptC c) then 2 else errC c
structure Bn where
 fa : List Stg
 T : TabG Fl
 U : TabG Int
 S : TabG Stg
 V : TabG Svc
def cntU (U : TabG Int) (p : L8) (n : Int) : TabG Int := (dirs p).foldl (fun u d => setL beqS u d (IntKind.i64.wrap (getL beqS 0 u d + n))) U
def putQ (q : TabG Fl × TabG Int) (f : Fl) : TabG Fl × TabG Int := (setL beqS q.1 f.p f, if hasL beqS q.1 f.p then q.2 else cntU q.2 f.p 1)
def filB (l : List Fl) : TabG Fl × TabG Int := l.foldl putQ ([], [])
def bnOf (m : Mac) : Bn := ⟨m.fa, (filB m.fl).1, (filB m.fl).2, tabG (·.k) m.se, tabG (·.n) m.sv⟩
def macB (b : Bn) : Mac := ⟨b.fa, ordG Fl.z b.T, ordG Stg.z b.S, ordG Svc.z b.V⟩
def confB (b : Bn) (p : L8) : Bool := !((dirs p).all fun d => !hasL beqS b.T d) || decide (getL beqS 0 b.U p > 0)
def gnB (b : Bn) (c : Chm) : Bool := if c.k == 2 then !hasL beqS b.T c.f.p else if c.k == 4 then !hasL beqS b.S c.s.k else if c.k == 6 then !hasL beqS b.V c.v.n else false
def manyB (b : Bn) (c : Chm) : Bool :=
 if c.k == 1 then !hasL beqS b.T c.f.p && decide ((b.T.length : Int) + 1 > 2000) else if c.k == 3 then !hasL beqS b.S c.s.k && decide ((b.S.length : Int) + 1 > 2000) else if c.k == 5 then !hasL beqS b.V c.v.n && decide ((b.V.length : Int) + 1 > 100) else false
def fltB (b : Bn) (c : Chm) : Int := if c.k == 1 && confB b c.f.p then 11 else if gnB b c then 10 else if manyB b c then 4 else 0
def actB (b : Bn) (c : Chm) : Bn :=
 if c.k == 1 then ⟨b.fa, (putQ (b.T, b.U) c.f).1, (putQ (b.T, b.U) c.f).2, b.S, b.V⟩ else if c.k == 2 then ⟨b.fa, delL beqS b.T c.f.p, cntU b.U c.f.p (-1), b.S, b.V⟩
 else if c.k == 3 then ⟨b.fa, b.T, b.U, setL beqS b.S c.s.k c.s, b.V⟩ else if c.k == 4 then ⟨b.fa, b.T, b.U, delL beqS b.S c.s.k, b.V⟩
 else if c.k == 5 then ⟨b.fa, b.T, b.U, b.S, setL beqS b.V c.v.n c.v⟩ else if c.k == 6 then ⟨b.fa, b.T, b.U, b.S, delL beqS b.V c.v.n⟩ else b
def doB (b : Bn) (c : Chm) : Bn × Int := if chgE c != 0 then (b, chgE c) else if fltB b c != 0 then (b, fltB b c) else (actB b c, 0)
def runB : Bn → List Chm → Bn × Int
 | b, [] => (b, 0)
 | b, c :: l => if (doB b c).2 != 0 then (b, (doB b c).2) else runB (doB b c).1 l
def appM (m : Mac) (l : List Chm) : Mac × Int := if (runB (bnOf m) l).2 != 0 then (Mac.z, (runB (bnOf m) l).2) else (macB (runB (bnOf m) l).1, 0)
def appP (m : Mac) (l : List Chm) : Mac × Int := if chkM m != 0 then (Mac.z, chkM m) else appM m l
theorem ne0 {x : Int} : (x != 0) = true ↔ x ≠ 0 := by simp
theorem errs_iff {n : Nat} {f : Nat → Int} : errsN n f = 0 ↔ ∀ j, j < n → f j = 0 := ⟨errs_ok, fun h => errs_none (Nat.le_refl n) h⟩
theorem leS_lt {a b : L8} : leS a b = false ↔ b < a := by
 unfold leS
 rw [bytesLess_eq, Bool.or_eq_false_iff]
 constructor
 ·skip
  rintro ⟨h1, h2⟩
  have h3 : ¬ a < b := of_decide_eq_false h1
  have h4 : a ≠ b := by simpa using h2
  by_cases h : b < a
  ·skip
   exact h
  ·skip
   exact absurd (List.le_antisymm (List.not_lt.1 h) (List.not_lt.1 h3)) h4
 ·skip
  intro h
  refine ⟨decide_eq_false fun h2 => List.lt_irrefl _ (List.lt_trans h h2), ?_⟩
  rw [beq_eq_false_iff_ne]
  rintro rfl; exact List.lt_irrefl _ h
theorem up_of {β : Type} {z : β} {key : β → L8} {l : List β} (h : ∀ i, i < l.length → (decide ((i : Int) > 0) && leS (key (l.getD i z)) (key (l.getD (i - 1) z))) = false) : l.Pairwise fun a b => key a < key b := by
 have step : ∀ i, i + 1 < l.length → key (l.getD i z) < key (l.getD (i + 1) z) := fun i hi => by
  have := h (i + 1) hi
  rw [Bool.and_eq_false_iff] at this
  rcases this with h1 | h1
  ·skip
   have := of_decide_eq_false h1; omega
  ·skip
   rw [leS_lt, Nat.add_sub_cancel] at h1; exact h1
 refine List.pairwise_iff_getElem.2 fun i j hi hj hij => ?_
 have go : ∀ d i, i + d + 1 < l.length → key (l.getD i z) < key (l.getD (i + d + 1) z) := fun d => by
  induction d with
  | zero => intro i h; exact step i h
  | succ d ih => intro i h; exact List.lt_trans (ih i (by omega)) (step (i + d + 1) h)
 have := go (j - i - 1) i (by omega)
 rw [show i + (j - i - 1) + 1 = j by omega] at this
 simpa [List.getD_eq_getElem?_getD, hi, hj] using this
theorem up_at {β : Type} {z : β} {key : β → L8} {l : List β} (h : l.Pairwise fun a b => key a < key b) {i j : Nat} (hij : i < j) (hj : j < l.length) : key (l.getD i z) < key (l.getD j z) := by
 have := List.pairwise_iff_getElem.1 h i j (by omega) hj hij
 simpa [List.getD_eq_getElem?_getD, hj, show i < l.length by omega] using this
theorem of_up {β : Type} {z : β} {key : β → L8} {l : List β} (h : l.Pairwise fun a b => key a < key b) {i : Nat} (hi : i < l.length) : (decide ((i : Int) > 0) && leS (key (l.getD i z)) (key (l.getD (i - 1) z))) = false := by
 by_cases h0 : i = 0
 ·skip
  subst h0; rfl
 ·skip
  rw [leS_lt.2 (up_at h (by omega) hi), Bool.and_false]
theorem getD_all {β : Type} {z : β} {l : List β} {P : β → Prop} : (∀ i, i < l.length → P (l.getD i z)) ↔ ∀ x ∈ l, P x := by
 constructor
 ·skip
  intro h x hx
  obtain ⟨i, hi, rfl⟩ := List.getElem_of_mem hx
  have := h i hi
  simpa [List.getD_eq_getElem?_getD, hi] using this
 ·skip
  intro h i hi
  exact h _ (mem_getD hi)
structure OkS (φ : L8 → Bool) (l : List Stg) : Prop where
 ok : ∀ s ∈ l, stgO (φ s.k) s = 0
 up : l.Pairwise fun a b => a.k < b.k
structure OkV (l : List Svc) : Prop where
 ok : ∀ s ∈ l, svO s = 0
 up : l.Pairwise fun a b => a.n < b.n
def NoDir (l : List Fl) : Prop := ∀ f ∈ l, ∀ g ∈ l, f.p ∉ dirs g.p
structure OkF (l : List Fl) : Prop where
 ok : ∀ f ∈ l, flO f = 0
 up : l.Pairwise fun a b => a.p < b.p
 nd : NoDir l
theorem listE_iff {φ : L8 → Bool} {l : List Stg} : listE φ l = 0 ↔ OkS φ l := by
 have e : listE φ l = 0 ↔ ∀ i, i < l.length → stgO (φ (l.getD i Stg.z).k) (l.getD i Stg.z) = 0 ∧ (decide ((i : Int) > 0) && leS (l.getD i Stg.z).k (l.getD (i - 1) Stg.z).k) = false := by
  refine (show listE φ l = 0 ↔ _ from errs_iff (f := stgAt φ l)).trans ?_
  have : ∀ i, stgAt φ l i = 0 ↔ stgO (φ (l.getD i Stg.z).k) (l.getD i Stg.z) = 0 ∧ (decide ((i : Int) > 0) && leS (l.getD i Stg.z).k (l.getD (i - 1) Stg.z).k) = false := fun i => by
   unfold stgAt stgO
   cases φ (l.getD i Stg.z).k <;> cases valueB (l.getD i Stg.z).v <;> cases (decide ((i : Int) > 0) && leS (l.getD i Stg.z).k (l.getD (i - 1) Stg.z).k) <;> simp
  exact ⟨fun h i hi => (this i).1 (h i hi), fun h i hi => (this i).2 (h i hi)⟩
 rw [e]
 exact ⟨fun h => ⟨getD_all.1 fun i hi => (h i hi).1, up_of (z := Stg.z) fun i hi => (h i hi).2⟩, fun h i hi => ⟨h.ok _ (mem_getD hi), of_up h.up hi⟩⟩
theorem svE_iff {l : List Svc} : svE l = 0 ↔ OkV l := by
 have e : svE l = 0 ↔ ∀ i, i < l.length → svO (l.getD i Svc.z) = 0 ∧ (decide ((i : Int) > 0) && leS (l.getD i Svc.z).n (l.getD (i - 1) Svc.z).n) = false := by
  refine (show svE l = 0 ↔ _ from errs_iff (f := svAt l)).trans ?_
  have : ∀ i, svAt l i = 0 ↔ svO (l.getD i Svc.z) = 0 ∧ (decide ((i : Int) > 0) && leS (l.getD i Svc.z).n (l.getD (i - 1) Svc.z).n) = false := fun i => by
   unfold svAt svO
   cases (!nameB (l.getD i Svc.z).n || !pathB (l.getD i Svc.z).p) <;> cases (decide ((i : Int) > 0) && leS (l.getD i Svc.z).n (l.getD (i - 1) Svc.z).n) <;> simp
  exact ⟨fun h i hi => (this i).1 (h i hi), fun h i hi => (this i).2 (h i hi)⟩
 rw [e]
 exact ⟨fun h => ⟨getD_all.1 fun i hi => (h i hi).1, up_of (z := Svc.z) fun i hi => (h i hi).2⟩, fun h i hi => ⟨h.ok _ (mem_getD hi), of_up h.up hi⟩⟩
theorem dirTo_mem {p d : L8} : ∀ {n : Nat}, d ∈ dirTo p n → ∃ i, i < n ∧ d = p.take i ∧ (p.getD i 0 == 47) = true
  | 0, h => absurd h (by simp [dirTo])
  | n + 1, h => by
    rcases List.mem_append.1 (show d ∈ dirTo p n ++ _ from h) with h | h
    · obtain ⟨i, hi, h1⟩ := dirTo_mem h
      exact ⟨i, by omega, h1⟩
    · split at h
      · rename_i hc
        exact ⟨n, by omega, by simpa using h, hc⟩
      · cases h
theorem take_lt {p : L8} {i : Nat} (hi : i < p.length) : p.take i < p := by
 have : p.take i ++ (p.drop i) = p := List.take_append_drop i p
 conv => rhs; rw [← this]
 rw [List.drop_eq_getElem_cons hi]
 generalize p.take i = a
 induction a with
 | nil => exact List.nil_lt_cons ..
 | cons x a ih => rw [List.cons_append, List.cons_lt_cons_iff]; exact .inr ⟨rfl, ih⟩
theorem dirs_lt {p d : L8} (h : d ∈ dirs p) : d < p := by
 obtain ⟨i, hi, rfl, _⟩ := dirTo_mem h
 exact take_lt hi
theorem flE_iff {l : List Fl} : flE l = 0 ↔ OkF l := by
  have e : flE l = 0 ↔ ∀ i, i < l.length → flO (l.getD i Fl.z) = 0 ∧ (decide ((i : Int) > 0) && leS (l.getD i Fl.z).p (l.getD (i - 1) Fl.z).p) = false ∧ clear l i = true := by
    refine (show flE l = 0 ↔ _ from errs_iff (f := flAt l)).trans ?_
    have : ∀ i, flAt l i = 0 ↔ flO (l.getD i Fl.z) = 0 ∧ (decide ((i : Int) > 0) && leS (l.getD i Fl.z).p (l.getD (i - 1) Fl.z).p) = false ∧ clear l i = true := fun i => by
      unfold flAt
      by_cases h : flO (l.getD i Fl.z) = 0
      · rw [if_neg (by rw [h]; decide)]
        cases (decide ((i : Int) > 0) && leS (l.getD i Fl.z).p (l.getD (i - 1) Fl.z).p) <;> cases clear l i <;> simp [h, -List.getD_eq_getElem?_getD]
      · rw [if_pos (by simpa using h)]
        exact ⟨fun h1 => absurd h1 h, fun h1 => absurd h1.1 h⟩
    exact ⟨fun h i hi => (this i).1 (h i hi), fun h i hi => (this i).2 (h i hi)⟩
  rw [e]
  constructor
  · intro h
    have hup : l.Pairwise fun a b => a.p < b.p := up_of (z := Fl.z) fun i hi => (h i hi).2.1
    refine ⟨getD_all.1 fun i hi => (h i hi).1, hup, fun f hf g hg hd => ?_⟩
    obtain ⟨i, hi, rfl⟩ := List.getElem_of_mem hf
    obtain ⟨j, hj, rfl⟩ := List.getElem_of_mem hg
    have ei : l.getD i Fl.z = l[i] := by simp [List.getD_eq_getElem?_getD, hi]
    have ej : l.getD j Fl.z = l[j] := by simp [List.getD_eq_getElem?_getD, hj]
    have hlt := dirs_lt hd
    have hij : i < j := by
      rcases Nat.lt_or_ge i j with h1 | h1
      · exact h1
      · by_cases he : i = j
        · subst he; exact absurd hlt (List.lt_irrefl _)
        · have := up_at (z := Fl.z) hup (show j < i by omega) hi
          rw [ei, ej] at this
          exact absurd (List.lt_trans hlt this) (List.lt_irrefl _)
    have := (h j hj).2.2
    unfold clear at this
    rw [List.all_eq_true] at this
    rw [ej] at this
    have h2 := this _ hd
    rw [Bool.not_eq_true', List.any_eq_false] at h2
    exact h2 l[i] (List.mem_take_iff_getElem.2 ⟨i, by omega, rfl⟩) (by simp)
  · intro h i hi
    refine ⟨h.ok _ (mem_getD hi), of_up h.up hi, ?_⟩
    unfold clear
    rw [List.all_eq_true]
    intro d hd
    rw [Bool.not_eq_true', List.any_eq_false]
    intro f hf he
    have he : d = f.p := by simpa using he
    subst he
    exact h.nd f (List.mem_of_mem_take hf) _ (mem_getD hi) hd
structure OkM (m : Mac) : Prop where
 nfa : m.fa.length ≤ 100
 nfl : m.fl.length ≤ 2000
 nse : m.se.length ≤ 2000
 nsv : m.sv.length ≤ 100
 fa : OkS nameB m.fa
 fl : OkF m.fl
 se : OkS pathB m.se
 sv : OkV m.sv
theorem chkM_iff {m : Mac} : chkM m = 0 ↔ OkM m := by
 constructor
 ·skip
  intro h
  unfold chkM at h
  split at h
  ·skip
   cases h
  ·skip
   rename_i h1
   simp only [Bool.or_eq_true, decide_eq_true_eq, not_or] at h1
   split at h
   ·skip
    rename_i h2; rw [ne0] at h2; exact absurd h h2
   ·skip
    rename_i h2
    split at h
    ·skip
     rename_i h3; rw [ne0] at h3; exact absurd h h3
    ·skip
     rename_i h3
     split at h
     ·skip
      rename_i h4; rw [ne0] at h4; exact absurd h h4
     ·skip
      rename_i h4
      rw [ne0, Classical.not_not] at h2 h3 h4
      exact ⟨by omega, by omega, by omega, by omega, listE_iff.1 h2, flE_iff.1 h3, listE_iff.1 h4, svE_iff.1 h⟩
 ·skip
  intro h
  unfold chkM
  have n1 := h.nfa; have n2 := h.nfl; have n3 := h.nse; have n4 := h.nsv
  rw [if_neg (by simp; omega), if_neg (by rw [listE_iff.2 h.fa]; decide), if_neg (by rw [flE_iff.2 h.fl]; decide), if_neg (by rw [listE_iff.2 h.se]; decide), svE_iff.2 h.sv]
end
section
open Go Go.Sort
theorem name_40 {v : L8} (h : nameB v = true) : v.length ≤ 40 := by
 unfold nameB at h
 rw [Bool.and_eq_true] at h
 have h := h.1
 unfold eachB at h; simp at h; omega
theorem stgO_0 {φ : Bool} {s : Stg} (h : stgO φ s = 0) : φ = true ∧ valueB s.v = true := by
 unfold stgO at h
 cases φ <;> cases hv : valueB s.v <;> simp [hv] at h ⊢
theorem svO_0 {s : Svc} (h : svO s = 0) : nameB s.n = true ∧ pathB s.p = true := by
 unfold svO at h
 cases hv : nameB s.n <;> cases hw : pathB s.p <;> simp [hv, hw] at h ⊢
theorem flO_0 {f : Fl} (h : flO f = 0) : pathB f.p = true ∧ f.d.length ≤ 65536 := by
 unfold flO at h
 cases hv : pathB f.p
 ·skip
  simp [hv] at h
 ·skip
  simp [hv] at h; exact ⟨rfl, by omega⟩
theorem OkM.mac {m : Mac} (h : OkM m) : MacA m := by
 have n1 := h.nfa; have n2 := h.nfl; have n3 := h.nse; have n4 := h.nsv
 refine ⟨⟨by omega, fun s hs => ?_⟩, ⟨by omega, fun f hf => ?_⟩, ⟨by omega, fun s hs => ?_⟩, ⟨by omega, fun s hs => ?_⟩⟩
 ·skip
  have := stgO_0 (h.fa.ok s hs)
  have h1 := name_40 this.1; have h2 := value_len this.2
  exact ⟨by omega, by omega⟩
 ·skip
  have := flO_0 (h.fl.ok f hf)
  have h1 := path_len this.1
  exact ⟨by omega, by omega⟩
 ·skip
  have := stgO_0 (h.se.ok s hs)
  have h1 := path_len this.1; have h2 := value_len this.2
  exact ⟨by omega, by omega⟩
 ·skip
  have := svO_0 (h.sv.ok s hs)
  have h1 := name_40 this.1; have h2 := path_len this.2
  exact ⟨by omega, by omega⟩
theorem getG_set {β : Type} (z : β) (t : TabG β) (k : L8) (v : β) (q : L8) : getL beqS z (setL beqS t k v) q = if q == k then v else getL beqS z t q := by
 rw [getG_lk, lkG_set, getG_lk]; split <;> rfl
theorem filB_app (q : TabG Fl × TabG Int) : ∀ l : List Fl, (l.foldl putQ q).1 = l.foldl (fun t x => setL beqS t x.p x) q.1
  | [] => rfl
  | x :: l => filB_app_ q x l
where filB_app_ (q : TabG Fl × TabG Int) (x : Fl) (l : List Fl) : ((x :: l).foldl putQ q).1 = (x :: l).foldl (fun t x => setL beqS t x.p x) q.1 := by
        rw [List.foldl_cons, List.foldl_cons]; exact filB_app (putQ q x) l
theorem filB_1 (l : List Fl) : (filB l).1 = tabG (·.p) l := filB_app _ l
theorem cnt_at {n : Int} : ∀ (ds : List L8) (U : TabG Int) (d : L8), (∀ e, -4611686018427387904 + (ds.length : Int) ≤ getL beqS 0 U e ∧ getL beqS 0 U e ≤ 4611686018427387904 - (ds.length : Int)) → (n = 1 ∨ n = -1) →
    getL beqS 0 (ds.foldl (fun u d => setL beqS u d (IntKind.i64.wrap (getL beqS 0 u d + n))) U) d = getL beqS 0 U d + n * (ds.count d : Int)
  | [], U, d, _, _ => by simp
  | e :: ds, U, d, h, hn => by
    have he := h e
    simp only [List.length_cons] at h he
    have hw : IntKind.i64.wrap (getL beqS 0 U e + n) = getL beqS 0 U e + n := wrap_i64 (by omega) (by omega)
    have hs : ∀ q, getL beqS 0 (setL beqS U e (getL beqS 0 U e + n)) q = if q == e then getL beqS 0 U e + n else getL beqS 0 U q := fun q => getG_set 0 U e _ q
    rw [List.foldl_cons, hw, cnt_at ds _ d (fun q => by
      rw [hs]
      have h1 := h q; have h2 := h e
      split <;> omega) hn, hs, List.count_cons]
    by_cases hd : d = e
    · subst hd
      rw [if_pos (by simp), if_pos (by simp)]
      rcases hn with rfl | rfl <;> omega
    · rw [if_neg (by simpa using hd), if_neg (by simpa using fun x => hd x.symm)]
      rcases hn with rfl | rfl <;> omega
theorem dirTo_len (p : L8) : ∀ n, (dirTo p n).length ≤ n
  | 0 => Nat.le_refl _
  | n + 1 => by
    show (dirTo p n ++ _).length ≤ _
    have := dirTo_len p n
    rw [List.length_append]
    split <;> simp <;> omega
theorem dirs_len (p : L8) : (dirs p).length ≤ p.length := dirTo_len p _
def belowN (l : List Fl) (d : L8) : Nat := (l.map fun f => (dirs f.p).count d).sum
theorem below_cons (f : Fl) (l : List Fl) (d : L8) : belowN (f :: l) d = (dirs f.p).count d + belowN l d := by simp [belowN]
theorem fil_U : ∀ (l : List Fl) (q : TabG Fl × TabG Int) (N : Nat), (q.1.map (·.1) ++ l.map (·.p)).Nodup → (∀ f ∈ l, f.p.length ≤ 200) → (∀ d, 0 ≤ getL beqS 0 q.2 d ∧ getL beqS 0 q.2 d ≤ (N : Int)) → N + 200 * l.length ≤ 4611686018427387904 →
    ∀ d, getL beqS 0 (l.foldl putQ q).2 d = getL beqS 0 q.2 d + (belowN l d : Int)
  | [], q, N, _, _, _, _, d => by simp [belowN]
  | f :: l, q, N, hn, hp, hb, hN, d => by
    rw [List.foldl_cons]
    have hf : hasL beqS q.1 f.p = false := by
      rw [hasG_lk, lkG_none.2 (fun hm => by
        rw [List.nodup_append] at hn
        exact hn.2.2 _ hm _ (by simp) rfl)]; rfl
    have e : putQ q f = (setL beqS q.1 f.p f, cntU q.2 f.p 1) := by unfold putQ; rw [hf]; rfl
    have hlen := dirs_len f.p
    have hfp := hp f List.mem_cons_self
    simp only [List.length_cons] at hN
    have hc : ∀ x, getL beqS 0 (cntU q.2 f.p 1) x = getL beqS 0 q.2 x + ((dirs f.p).count x : Int) := fun x => by
      unfold cntU
      rw [cnt_at (dirs f.p) q.2 x (fun y => by have := hb y; omega) (.inl rfl)]; omega
    rw [e, fil_U l _ (N + 200) (by
      rw [setG_new (fun hm => by
        rw [List.nodup_append] at hn
        exact hn.2.2 _ hm _ (by simp) rfl)]
      simpa using hn) (fun g hg => hp g (List.mem_cons_of_mem _ hg)) (fun x => by
      show 0 ≤ getL beqS 0 (cntU q.2 f.p 1) x ∧ getL beqS 0 (cntU q.2 f.p 1) x ≤ _
      rw [hc]
      have h1 := hb x
      have h3 := List.count_le_length (a := x) (l := dirs f.p)
      omega) (by omega) d, below_cons]
    show getL beqS 0 (cntU q.2 f.p 1) d + _ = _
    rw [hc]
    omega
theorem filB_2 {l : List Fl} (h : OkF l) (hn : l.length ≤ 2000) (d : L8) : getL beqS 0 (filB l).2 d = (belowN l d : Int) := by
 have := fil_U l ([], []) 0 (by simpa using up_nd h.up) (fun f hf => path_len (flO_0 (h.ok f hf)).1) (fun d => by simp [getL]) (by omega) d
 unfold filB
 rw [this]
 simp [getL]
theorem below_pos : ∀ {l : List Fl} {d : L8} {f : Fl}, f ∈ l → d ∈ dirs f.p → 0 < belowN l d
  | g :: l, d, f, h, hd => by
    rw [below_cons]
    rcases List.mem_cons.1 h with rfl | h
    · have := List.count_pos_iff.2 hd; omega
    · have := below_pos h hd; omega
theorem setG_all {β : Type} {P : β → Prop} : ∀ {t : TabG β} {k : L8} {v : β}, (∀ x ∈ t, P x.2) → P v → ∀ x ∈ setL beqS t k v, P x.2
  | [], k, v, _, hv, x, hx => by simp [setL] at hx; subst hx; exact hv
  | y :: l, k, v, h, hv, x, hx => by
    unfold setL at hx
    by_cases hk : (k == y.1) = true
    · simp only [beqS, hk, cond_true] at hx
      rcases List.mem_cons.1 hx with rfl | hx
      · exact hv
      · exact h x (List.mem_cons_of_mem _ hx)
    · simp only [beqS, hk, cond_false] at hx
      rcases List.mem_cons.1 hx with rfl | hx
      · exact h _ List.mem_cons_self
      · exact setG_all (fun x hx => h x (List.mem_cons_of_mem _ hx)) hv x hx
theorem set_in {β : Type} : ∀ {t : TabG β} {k : L8} {v : β}, ∀ x ∈ setL beqS t k v, x = (k, v) ∨ x ∈ t
  | [], k, v, x, hx => by simp [setL] at hx; exact .inl hx
  | y :: l, k, v, x, hx => by
    unfold setL at hx
    by_cases hk : (k == y.1) = true
    · simp only [beqS, hk, cond_true] at hx
      rcases List.mem_cons.1 hx with rfl | hx
      · exact .inl rfl
      · exact .inr (List.mem_cons_of_mem _ hx)
    · simp only [beqS, hk, cond_false] at hx
      rcases List.mem_cons.1 hx with rfl | hx
      · exact .inr List.mem_cons_self
      · rcases set_in x hx with h | h
        · exact .inl h
        · exact .inr (List.mem_cons_of_mem _ h)
structure OkT {β : Type} (key : β → L8) (P : β → Prop) (t : TabG β) : Prop where
 nd : ndG t
 ky : KeyedG key t
 ok : ∀ x ∈ t, P x.2
section
variable {β : Type} {key : β → L8} {P : β → Prop} {t : TabG β}
theorem OkT.set (h : OkT key P t) {v : β} (hv : P v) : OkT key P (setL beqS t (key v) v) := ⟨ndG_set h.nd _ _, keyed_set h.ky v, setG_all h.ok hv⟩
theorem OkT.del (h : OkT key P t) (k : L8) : OkT key P (delL beqS t k) := ⟨ndG_del h.nd _, keyed_del h.ky _, fun x hx => h.ok x ((delG_sub t k).subset hx)⟩
theorem OkT.of {l : List β} (h : ∀ x ∈ l, P x) (hu : l.Pairwise fun a b => key a < key b) : OkT key P (tabG key l) := ⟨tabG_nd (up_nd hu), tabG_keyed (up_nd hu), fun x hx => h _ ((tabG_mem (up_nd hu) (k := x.1)).1 hx).1⟩
theorem OkT.all (h : OkT key P t) (z : β) : ∀ v ∈ ordG z t, P v := fun v hv => by
 obtain ⟨k, hk⟩ := (ordG_mem h.nd).1 hv
 exact h.ok _ hk
theorem OkT.up (h : OkT key P t) (z : β) : (ordG z t).Pairwise fun a b => key a < key b := ordG_up h.nd h.ky
end
structure OkB (b : Bn) : Prop where
 nfa : b.fa.length ≤ 100
 nfl : b.T.length ≤ 2000
 nse : b.S.length ≤ 2000
 nsv : b.V.length ≤ 100
 fa : OkS nameB b.fa
 fl : OkT (·.p) (fun f => flO f = 0) b.T
 nd : ∀ x ∈ b.T, ∀ y ∈ b.T, x.1 ∉ dirs y.1
 se : OkT (·.k) (fun s => stgO (pathB s.k) s = 0) b.S
 sv : OkT (·.n) (fun s => svO s = 0) b.V
 be : ∀ x ∈ b.T, ∀ d ∈ dirs x.1, 0 < getL beqS 0 b.U d
theorem OkM.bench {m : Mac} (h : OkM m) : OkB (bnOf m) where
 nfa := h.nfa
 nfl := by show (filB m.fl).1.length ≤ _; rw [filB_1]; exact Nat.le_trans (tabG_le _ _) h.nfl
 nse := Nat.le_trans (tabG_le _ _) h.nse
 nsv := Nat.le_trans (tabG_le _ _) h.nsv
 fa := h.fa
 fl := by show OkT _ _ (filB m.fl).1; rw [filB_1]; exact .of h.fl.ok h.fl.up
 nd x hx y hy := by
  have hx : x ∈ (filB m.fl).1 := hx
  have hy : y ∈ (filB m.fl).1 := hy
  rw [filB_1] at hx hy
  obtain ⟨h1, h2⟩ := (tabG_mem (up_nd h.fl.up) (k := x.1) (v := x.2)).1 hx
  obtain ⟨h3, h4⟩ := (tabG_mem (up_nd h.fl.up) (k := y.1) (v := y.2)).1 hy
  have h2 : x.2.p = x.1 := h2
  have h4 : y.2.p = y.1 := h4
  rw [← h2, ← h4]
  exact h.fl.nd _ h1 _ h3
 se := .of h.se.ok h.se.up
 sv := .of h.sv.ok h.sv.up
 be x hx d hd := by
  have hx : x ∈ (filB m.fl).1 := hx
  rw [filB_1] at hx
  obtain ⟨h1, h2⟩ := (tabG_mem (up_nd h.fl.up) (k := x.1) (v := x.2)).1 hx
  have h2 : x.2.p = x.1 := h2
  show 0 < getL beqS 0 (filB m.fl).2 d
  rw [filB_2 h.fl h.nfl]
  have := below_pos h1 (by rw [h2]; exact hd)
  omega
structure OkC (b : Bn) : Prop where
 nfa : b.fa.length ≤ 100
 nfl : b.T.length ≤ 2000
 nse : b.S.length ≤ 2000
 nsv : b.V.length ≤ 100
 fa : OkS nameB b.fa
 fl : OkT (·.p) (fun f => flO f = 0) b.T
 nd : ∀ x ∈ b.T, ∀ y ∈ b.T, x.1 ∉ dirs y.1
 se : OkT (·.k) (fun s => stgO (pathB s.k) s = 0) b.S
 sv : OkT (·.n) (fun s => svO s = 0) b.V
theorem OkB.c {b : Bn} (h : OkB b) : OkC b := ⟨h.nfa, h.nfl, h.nse, h.nsv, h.fa, h.fl, h.nd, h.se, h.sv⟩
theorem OkC.mac {b : Bn} (h : OkC b) : OkM (macB b) where
 nfa := h.nfa
 nfl := by show (ordG _ _).length ≤ _; rw [ordG_len]; exact h.nfl
 nse := by show (ordG _ _).length ≤ _; rw [ordG_len]; exact h.nse
 nsv := by show (ordG _ _).length ≤ _; rw [ordG_len]; exact h.nsv
 fa := h.fa
 fl := ⟨h.fl.all _, h.fl.up _, fun f hf g hg => by
  obtain ⟨k, hk⟩ := (ordG_mem h.fl.nd).1 hf
  obtain ⟨q, hq⟩ := (ordG_mem h.fl.nd).1 hg
  have h1 : f.p = k := h.fl.ky _ hk
  have h2 : g.p = q := h.fl.ky _ hq
  rw [h1, h2]
  exact h.nd _ hk _ hq⟩
 se := ⟨h.se.all _, h.se.up _⟩
 sv := ⟨h.sv.all _, h.sv.up _⟩
theorem conf_no {b : Bn} {p : L8} (h : confB b p = false) : (∀ d ∈ dirs p, hasL beqS b.T d = false) ∧ ¬ getL beqS 0 b.U p > 0 := by
 unfold confB at h
 rw [Bool.or_eq_false_iff, Bool.not_eq_false', List.all_eq_true] at h
 exact ⟨fun d hd => by simpa using h.1 d hd, of_decide_eq_false h.2⟩
theorem hasG_in {β : Type} {t : TabG β} {x : L8 × β} (h : x ∈ t) : hasL beqS t x.1 = true := by
 unfold hasL beqS
 rw [List.any_eq_true]
 exact ⟨x, h, by simp⟩
theorem set_size {β : Type} {t : TabG β} {k : L8} {v : β} {M : Nat} (hl : t.length ≤ M) (h : (!hasL beqS t k && decide ((t.length : Int) + 1 > (M : Int))) = false) : (setL beqS t k v).length ≤ M := by
 rw [setG_len]
 cases hk : hasL beqS t k with
 | true => exact hl
 | false =>
  rw [hk] at h
  simp at h
  show t.length + 1 ≤ M
  omega
theorem do_ok {b : Bn} {c : Chm} (h : OkB b) (hz : (doB b c).2 = 0) : OkC (doB b c).1 := by
 unfold doB at hz ⊢
 split
 ·skip
  exact h.c
 ·skip
  rename_i h1
  rw [if_neg h1] at hz
  split
  ·skip
   exact h.c
  ·skip
   rename_i h2
   rw [ne0, Classical.not_not] at h1 h2
   show OkC (actB b c)
   unfold fltB at h2
   split at h2
   ·skip
    cases h2
   ·skip
    rename_i h3
    split at h2
    ·skip
     cases h2
    ·skip
     rename_i h4
     split at h2
     ·skip
      cases h2
     ·skip
      rename_i h5
      have h5 := Bool.eq_false_iff.2 h5
      have h3 := Bool.eq_false_iff.2 h3
      unfold chgE at h1
      split at h1
      ·skip
       cases h1
      ·skip
       split at h1
       ·skip
        cases h1
       ·skip
        rename_i hk _
        unfold errC at h1
        unfold manyB at h5
        unfold actB
        by_cases k1 : (c.k == 1) = true
        ·skip
         rw [if_pos k1] at h1 h5 ⊢
         rw [k1, Bool.true_and] at h3
         obtain ⟨q1, q2⟩ := conf_no h3
         refine ⟨h.nfa, set_size h.nfl h5, h.nse, h.nsv, h.fa, h.fl.set (v := c.f) h1, fun x hx y hy hd => ?_, h.se, h.sv⟩
         rcases set_in x hx with rfl | hx <;> rcases set_in y hy with rfl | hy
         ·skip
          exact List.lt_irrefl _ (dirs_lt hd)
         ·skip
          exact q2 (h.be y hy _ hd)
         ·skip
          have := q1 _ hd
          rw [hasG_in hx] at this; cases this
         ·skip
          exact h.nd x hx y hy hd
        ·skip
         rw [if_neg k1] at h1 h5 ⊢
         by_cases k2 : (c.k == 2) = true
         ·skip
          rw [if_pos k2]
          have hs := (delG_sub b.T c.f.p).subset
          exact ⟨h.nfa, Nat.le_trans (delG_le _ _) h.nfl, h.nse, h.nsv, h.fa, h.fl.del _, fun x hx y hy => h.nd x (hs hx) y (hs hy), h.se, h.sv⟩
         ·skip
          rw [if_neg k2] at h1 ⊢
          by_cases k3 : (c.k == 3) = true
          ·skip
           rw [if_pos k3] at h1 h5 ⊢
           exact ⟨h.nfa, h.nfl, set_size h.nse h5, h.nsv, h.fa, h.fl, h.nd, h.se.set (v := c.s) h1, h.sv⟩
          ·skip
           rw [if_neg k3] at h1 h5 ⊢
           by_cases k4 : (c.k == 4) = true
           ·skip
            rw [if_pos k4]
            exact ⟨h.nfa, h.nfl, Nat.le_trans (delG_le _ _) h.nse, h.nsv, h.fa, h.fl, h.nd, h.se.del _, h.sv⟩
           ·skip
            rw [if_neg k4] at h1 ⊢
            by_cases k5 : (c.k == 5) = true
            ·skip
             rw [if_pos k5] at h1 h5 ⊢
             exact ⟨h.nfa, h.nfl, h.nse, set_size h.nsv h5, h.fa, h.fl, h.nd, h.se, h.sv.set (v := c.v) h1⟩
            ·skip
             rw [if_neg k5]
             by_cases k6 : (c.k == 6) = true
             ·skip
              rw [if_pos k6]
              exact ⟨h.nfa, h.nfl, h.nse, Nat.le_trans (delG_le _ _) h.nsv, h.fa, h.fl, h.nd, h.se, h.sv.del _⟩
             ·skip
              rw [if_neg k6]; exact h.c
theorem app_nil {m : Mac} (h : chkM m = 0) : appP m [] = (m, 0) := by
 have hm := chkM_iff.1 h
 unfold appP
 rw [if_neg (by rw [h]; decide)]
 unfold appM
 show (macB (bnOf m), (0 : Int)) = (m, 0)
 have e : macB (bnOf m) = m := by
  show (⟨m.fa, ordG Fl.z (filB m.fl).1, ordG Stg.z (tabG (·.k) m.se), ordG Svc.z (tabG (·.n) m.sv)⟩ : Mac) = m
  rw [filB_1, ordG_tab hm.fl.up, ordG_tab hm.se.up, ordG_tab hm.sv.up]
 rw [e]
theorem app_one {m : Mac} {c : Chm} (h : chkM m = 0) (hz : (appP m [c]).2 = 0) : chkM (appP m [c]).1 = 0 := by
 have hm := chkM_iff.1 h
 have e : appP m [c] = appM m [c] := by unfold appP; rw [if_neg (by rw [h]; decide)]
 rw [e] at hz ⊢
 unfold appM at hz ⊢
 split
 ·skip
  rename_i h1
  rw [if_pos h1] at hz
  rw [ne0] at h1; exact absurd hz h1
 ·skip
  rename_i h1
  rw [ne0, Classical.not_not] at h1
  show chkM (macB (runB (bnOf m) [c]).1) = 0
  unfold runB at h1 ⊢
  split
  ·skip
   rename_i h2
   rw [if_pos h2] at h1
   rw [ne0] at h2; exact absurd h1 h2
  ·skip
   rename_i h2
   rw [ne0, Classical.not_not] at h2
   exact chkM_iff.2 (do_ok hm.bench h2).mac
theorem dirTo_t {p : L8} {i : Nat} (h : (p.getD i 0 == 47) = true) : dirTo p (i + 1) = dirTo p i ++ [p.take i] := by
 show dirTo p i ++ (if p.getD i 0 == 47 then [p.take i] else []) = _
 rw [if_pos h]
theorem dirTo_f {p : L8} {i : Nat} (h : (p.getD i 0 == 47) = false) : dirTo p (i + 1) = dirTo p i := by
 show dirTo p i ++ (if p.getD i 0 == 47 then [p.take i] else []) = _
 rw [if_neg (Bool.eq_false_iff.1 h), List.append_nil]
def cntTo (U : TabG Int) (p : L8) (n : Int) (i : Nat) : TabG Int := (dirTo p i).foldl (fun u d => setL beqS u d (IntKind.i64.wrap (getL beqS 0 u d + n))) U
theorem cnt_end (U : TabG Int) (p : L8) (n : Int) : cntTo U p n p.length = cntU U p n := rfl
theorem cnt_t {U : TabG Int} {p : L8} {n : Int} {i : Nat} (h : (p.getD i 0 == 47) = true) : cntTo U p n (i + 1) = setL beqS (cntTo U p n i) (p.take i) (IntKind.i64.wrap (getL beqS 0 (cntTo U p n i) (p.take i) + n)) := by
 unfold cntTo; rw [dirTo_t h, List.foldl_append]; rfl
theorem cnt_f {U : TabG Int} {p : L8} {n : Int} {i : Nat} (h : (p.getD i 0 == 47) = false) : cntTo U p n (i + 1) = cntTo U p n i := by unfold cntTo; rw [dirTo_f h]
theorem cnt_0 (U : TabG Int) (p : L8) (n : Int) : cntTo U p n 0 = U := rfl
end
section
open Go Go.Sort
section
variable {β : Type} (ky : β → L8)
def bxI (key : L8) (l : List β) : Nat := l.countP fun s => decide (ky s < key)
def bxF (z : β) (key : L8) (l : List β) : Bool := if decide ((bxI ky key l : Int) < (l.length : Int)) then Lib.compareBytes (ky (l.getD (bxI ky key l) z)) key == 0 else false
def atK (l : List β) (key : L8) : Option β := l.find? (fun s => ky s == key)
end
section
variable {β : Type} {ky : β → L8} {z : β} {key : L8} {l : List β}
theorem bx_end {i j : Nat} (hj : j ≤ i) (hi : i ≤ l.length) (f1 : ∀ m, m < i → ky (l.getD m z) < key) (f2 : ∀ m, j ≤ m → m < l.length → ¬ ky (l.getD m z) < key) : bxI ky key l = i := by
 have e : bxI ky key l = (l.take i).countP (fun s => decide (ky s < key)) + (l.drop i).countP (fun s => decide (ky s < key)) := by
  rw [← List.countP_append, List.take_append_drop]; rfl
 have h1 : (l.take i).countP (fun s => decide (ky s < key)) = (l.take i).length := by
  rw [List.countP_eq_length]
  intro a ha
  obtain ⟨m, hm, rfl⟩ := List.getElem_of_mem ha
  simp only [List.length_take] at hm
  have := f1 m (by omega)
  rw [List.getD_eq_getElem?_getD, List.getElem?_eq_getElem (by omega)] at this
  rw [List.getElem_take]
  exact decide_eq_true this
 have h2 : (l.drop i).countP (fun s => decide (ky s < key)) = 0 := by
  rw [List.countP_eq_zero]
  intro a ha
  obtain ⟨m, hm, rfl⟩ := List.getElem_of_mem ha
  simp only [List.length_drop] at hm
  have := f2 (i + m) (by omega) (by omega)
  rw [List.getD_eq_getElem?_getD, List.getElem?_eq_getElem (by omega)] at this
  rw [List.getElem_drop, decide_eq_true_eq]
  exact this
 rw [e, h1, h2, List.length_take]; omega
theorem bx_lo (hs : l.Pairwise fun a b => ky a < ky b) {h : Nat} (hm : h < l.length) (hc : decide (Lib.compareBytes (ky (l.getD h z)) key < 0) = true) : ∀ m, m < h + 1 → ky (l.getD m z) < key := fun m hmh => by
 have h1 := (cb_lt _ _).1 (of_decide_eq_true hc)
 by_cases he : m = h
 ·skip
  rw [he]; exact h1
 ·skip
  exact List.lt_trans (up_at hs (by omega) hm) h1
theorem bx_hi (hs : l.Pairwise fun a b => ky a < ky b) {h : Nat} (hc : decide (Lib.compareBytes (ky (l.getD h z)) key < 0) = false) : ∀ m, h ≤ m → m < l.length → ¬ ky (l.getD m z) < key := fun m hmh hl hq => by
 have h1 : ¬ ky (l.getD h z) < key := fun hx => of_decide_eq_false hc ((cb_lt _ _).2 hx)
 by_cases he : m = h
 ·skip
  rw [he] at hq; exact h1 hq
 ·skip
  exact h1 (List.lt_trans (up_at hs (by omega) hl) hq)
theorem atK_at (hs : l.Pairwise fun a b => ky a < ky b) {i : Nat} (hi : i < l.length) (he : ky (l.getD i z) = key) : atK ky l key = some (l.getD i z) := by
 unfold atK
 rw [List.find?_eq_some_iff_getElem]
 refine ⟨by simpa using he, i, hi, by simp [List.getD_eq_getElem?_getD, hi], fun j hj => ?_⟩
 have := up_at (z := z) hs hj hi
 rw [he, List.getD_eq_getElem?_getD, List.getElem?_eq_getElem (by omega)] at this
 have hne : ky l[j] ≠ key := fun e => by
  rw [show (some l[j]).getD z = l[j] from rfl, e] at this; exact List.lt_irrefl _ this
 simpa using hne
theorem bx_t (hs : l.Pairwise fun a b => ky a < ky b) (h : bxF ky z key l = true) : bxI ky key l < l.length ∧ atK ky l key = some (l.getD (bxI ky key l) z) := by
 unfold bxF at h
 split at h
 ·skip
  rename_i h1
  have hi : bxI ky key l < l.length := by have := of_decide_eq_true h1; omega
  exact ⟨hi, atK_at hs hi (bytes_0 (by simpa using h))⟩
 ·skip
  cases h
theorem bx_f (hs : l.Pairwise fun a b => ky a < ky b) (h : bxF ky z key l = false) : atK ky l key = none := by
  cases hq : atK ky l key with
  | none => rfl
  | some s =>
    unfold atK at hq
    obtain ⟨hk, i, hi, he, _⟩ := List.find?_eq_some_iff_getElem.1 hq
    have hg : l.getD i z = s := by simp [List.getD_eq_getElem?_getD, hi, he]
    have hkey : ky (l.getD i z) = key := by rw [hg]; simpa using hk
    have hb : bxI ky key l = i := bx_end (z := z) (j := i) (Nat.le_refl _) (by omega) (fun m hm => by rw [← hkey]; exact up_at hs hm hi)
      (fun m h1 h2 hx => by
        by_cases e : m = i
        · rw [e, hkey] at hx; exact List.lt_irrefl _ hx
        · have := up_at (z := z) hs (show i < m by omega) h2
          rw [hkey] at this
          exact List.lt_irrefl _ (List.lt_trans this hx))
    unfold bxF at h
    rw [hb, if_pos (by simpa using hi), hkey, bytes_refl] at h
    cases h
def askP (z : β) (m : Mac) (ok : Bool) (o : Option β) : β × Int := if chkM m != 0 then (z, chkM m) else if !ok then (z, 5) else if o.isSome then (o.getD z, 0) else (z, 10)
end
end
section
open Go Go.RowKit
variable {J : Inv} {k0 : Lens} {E : Env J k0} {P : Program} {T : TypeId → Option TI} {n : Nat} {t : Nat → V} {b : List (List C)} {r : List (Option RowO)} {m m1 : List (List (DV × DV))} {ops : Array Oper} {l : List Oper} {K : St → Prop}
  {i : Nat} {ty : TypeId} {pos : String} {after : Array Edge}
theorem S.hcallUGM {fo : Operand} {args : Array Operand} {ats : Array TypeId} {u : V} {f : FuncId} {caps : List C} {us : List V} {rv : V} {j : Nat} {want c : Bool} (hg : guardV n ops t j want = some c)
  (hu : opd n ⟨bare t, b, r, m⟩ fo = (true, u)) (hc : calleeV u = some (f, caps)) (ha : allOpdL n ⟨bare t, b, r, m⟩ args.toList = (true, us)) (ht : allT c (tagsO t (fo :: args.toList)))
  (pc : c = true → HCall P J f (us ++ caps.map V.one) b r m (isH rv b r m1)) (hs : c = false → m1 = m)
  (k : WL E P n ops l K ⟨upd t i (.when c rv), b, r, m1⟩) : WL E P n ops (⟨some i, .call ⟨.value fo, args, ats⟩, ty, pos, after, some (j, want)⟩ :: l) K ⟨t, b, r, m⟩ := by
 intro g a w rel next Qx hn
 rw [guardB_ok rel rfl (guardV_B hg)]
 cases c with
 | true =>
  rw [if_pos rfl]
  have h1 := allT_mem ht rfl
  have hu' : opd n ⟨t, b, r, m⟩ fo = (true, u) := (opds_bare h1 (List.mem_cons_self ..)).trans hu
  have ha' : allOpdL n ⟨t, b, r, m⟩ args.toList = (true, us) := by rw [← ha]; exact allOpdL_congr _ (fun p hp => opds_bare h1 (List.mem_cons_of_mem _ hp))
  exact hcall_wp rel rfl hu' hc ha' (pc rfl) (fun v g' w' rv' b' r' m' rel' hv ⟨q1, q2, q3, q4⟩ => by
   subst q1; subst q2; subst q3; subst q4
   exact hn _ g' _ _ k (rel'.put_same (some i) (.whenT _ _ hv)))
 | false =>
  rw [if_neg (by simp)]
  obtain rfl := hs rfl
  exact hn _ g _ _ k (rel.put_same (some i) (.whenF _))
end
section
open Go Go.RowKit
variable {J : Inv} {k0 : Lens} {E : Env J k0} {P : Program} {T : TypeId → Option TI} {n : Nat} {t : Nat → V} {b : List (List C)} {r : List (Option RowO)} {m : List (List (DV × DV))} {ops : Array Oper} {l : List Oper} {K : St → Prop}
  {i : Nat} {ty : TypeId} {pos : String} {after : Array Edge}
variable {α β : Type} {kind : TypeDesc} {enc : α → D} {val : α → Value} {same : α → α → Bool}
theorem pv_lookup (hT : TabOk P T) (ke : KeyOk kind enc val same) {s : St} {o : Oper} {tm kt et : TypeId} {ti ki ei : TI} {x y : Operand} {co : Bool} {mi : Nat} {a0 : α} {fD : β → DV} (z : β) (l0 : List (α × β)) (hop : o.op = .lookup tm x y co) (hti : T tm = some ti) (hd : ti.desc = .map kt et) (hki : T kt = some ki) (hkd : ki.desc = kind)
    (hei : T et = some ei) (hx : opd n s x = (true, .one (.map mi))) (hy : opd n s y = (true, .one (.d (enc a0)))) (hm : s.m[mi]? = some (mapOf enc fD l0)) (hz : constV ei.zero = (fD z).v) (hzo : constOk ei.zero = true) :
    Pv E P n o (mapV co (fD (getL same z l0 a0)).v (hasL same l0 a0)) s := by
  intro g a w rel
  have hp := opd_ok rel hx rfl
  have hq := opd_ok rel hy rfl
  generalize hxx : a.eval x = xv at hp
  generalize hyy : a.eval y = yv at hq
  cases hp with | one _ _ hp => cases hp with | map _ hmi =>
  have hyv : yv = val a0 := ke.eq (a := a0) hq
  subst hyv
  have h1 := (hT tm ti hti).1
  have h2 := (hT kt ki hki).1
  rw [hd] at h1; rw [hkd] at h2
  obtain ⟨arr, clock, q1, q2, q3, q4⟩ := map_find (s := s) ke rel hm a0
  have hzv : RV g s.sh w (fD z).v ei.zero := by rw [← hz]; exact constV_ok _ _ _ _ hzo
  have fin : ∀ (u : Value) (is : Bool), (Instr.lookup tm (.map (some (g.at_ (.m mi)))) (val a0) co).run P w = .ok (if co then .tuple #[u, .bool is] else u) w → RV g s.sh w (fD (getL same z l0 a0)).v u → is = hasL same l0 a0 →
      ∃ zz, (execOp a.eval o).run P w = .ok (.value zz) w ∧ RV g s.sh w (mapV co (fD (getL same z l0 a0)).v (hasL same l0 a0)) zz := fun u is hr hu his => by
    refine ⟨if co then .tuple #[u, .bool is] else u, ?_, ?_⟩
    · simp only [execOp, hop, Sem.run_bind, hxx, hyy, hr, Result.andThen_ok, Sem.run_pure]
    · subst his
      cases co with
      | false => exact hu
      | true =>
        show RV _ _ _ (.tup [_, _]) (.tuple #[u, .bool (hasL same l0 a0)])
        refine .tup _ [u, .bool (hasL same l0 a0)] rfl (fun j c v hc hv => ?_)
        match j with
        | 0 => simp at hc hv; subst hc; subst hv; exact hu
        | 1 => simp at hc hv; subst hc; subst hv; exact .one _ _ (.d _ _ (.bool _))
        | j + 2 => simp at hc
  rcases q4 with ⟨p1, p2, _, _, p5⟩ | ⟨p1, p, x', e, p2, p3, p4, p5, _, _, p8⟩
  · refine fin ei.zero false ?_ (by rw [p5]; exact hzv) p1.symm
    simp only [Instr.lookup, Sem.run_bind, run_underlying h1, Result.andThen_ok, MapKept.run_getObj_map q1, Sem.run_pure, ke.chk P w _ kt a0 h2, run_findKey_now h2 p2, run_zeroValue' hT hei]
  · refine fin e.val true ?_ (by rw [p8]; exact (q3 p x' e p2 p3).2) p1.symm
    simp only [Instr.lookup, Sem.run_bind, run_underlying h1, Result.andThen_ok, MapKept.run_getObj_map q1, Sem.run_pure, ke.chk P w _ kt a0 h2, run_findKey_now h2 p4]
theorem D.lookup (hT : TabOk P T) (ke : KeyOk kind enc val same) {tm kt et : TypeId} {ti ki ei : TI} {x y : Operand} {co : Bool} {mi : Nat} {a0 : α} {fD : β → DV} (z : β) (l0 : List (α × β)) (hti : T tm = some ti) (hd : ti.desc = .map kt et) (hki : T kt = some ki) (hkd : ki.desc = kind)
  (hei : T et = some ei) (hx : opd n ⟨t, b, r, m⟩ x = (true, .one (.map mi))) (hy : opd n ⟨t, b, r, m⟩ y = (true, .one (.d (enc a0)))) (hm : m[mi]? = some (mapOf enc fD l0)) (hz : constV ei.zero = (fD z).v) (hzo : constOk ei.zero = true)
  {v : V} (hv : mapV co (fD (getL same z l0 a0)).v (hasL same l0 a0) = v) (k : WD E P n ops l K ⟨upd t i v, b, r, m⟩) : WD E P n ops (⟨some i, .lookup tm x y co, ty, pos, after, none⟩ :: l) K ⟨t, b, r, m⟩ := by
 subst hv
 obtain ⟨o, ho⟩ : ∃ o : Oper, o = ⟨some i, .lookup tm x y co, ty, pos, after, none⟩ := ⟨_, rfl⟩
 rw [← ho]
 have hop : o.op = .lookup tm x y co := by rw [ho]
 have hm1 : x ∈ o.op.operands.toList := by rw [hop]; simp [Op.operands]
 have hm2 : y ∈ o.op.operands.toList := by rw [hop]; simp [Op.operands]
 refine ⟨mapV co (fD (getL same z l0 a0)).v (hasL same l0 a0), b, .of (.inr (by rw [hop]; rfl)) (fun t' b1 ht hb => .of_run (by rw [ho]) (.of_pv (pv_lookup hT ke z l0 hop hti hd hki hkd hei ?_ ?_ hm hz hzo))), by rw [ho]; exact k⟩
 ·skip
  rw [looks_opd (b := b) hm1 ht]; exact hx
 ·skip
  rw [looks_opd (b := b) hm2 ht]; exact hy
theorem S.lookupG (hT : TabOk P T) (ke : KeyOk kind enc val same) {tm kt et : TypeId} {ti ki ei : TI} {x y : Operand} {co c : Bool} {mi : Nat} {a0 : α} {fD : β → DV} {j : Nat} {want : Bool} (z : β) (l0 : List (α × β)) (hg : guardV n ops t j want = some c) (hti : T tm = some ti) (hd : ti.desc = .map kt et) (hki : T kt = some ki) (hkd : ki.desc = kind)
  (hei : T et = some ei) (hx : opd n ⟨bare t, b, r, m⟩ x = (true, .one (.map mi))) (hy : opd n ⟨bare t, b, r, m⟩ y = (true, .one (.d (enc a0)))) (ht : allT c (tagsO t [x, y])) (hm : m[mi]? = some (mapOf enc fD l0)) (hz : constV ei.zero = (fD z).v) (hzo : constOk ei.zero = true)
  {v : V} (hv : mapV co (fD (getL same z l0 a0)).v (hasL same l0 a0) = v) (k : WL E P n ops l K ⟨upd t i (.when c v), b, r, m⟩) : WL E P n ops (⟨some i, .lookup tm x y co, ty, pos, after, some (j, want)⟩ :: l) K ⟨t, b, r, m⟩ := by
 cases c with
 | true =>
  have htt := allT_mem ht rfl
  have h1 := opds_bare (n := n) (b := b) (r := r) (m := m) htt (List.mem_cons_self ..)
  have h2 := opds_bare (n := n) (b := b) (r := r) (m := m) (x := y) htt (List.mem_cons_of_mem _ (List.mem_cons_self ..))
  rw [← h1] at hx
  rw [← h2] at hy
  refine S.sure hg ?_
  refine Step.weak (K := fun s1 => s1 = ⟨upd t i v, b, r, m⟩) (S.lookup (l := []) hT ke z l0 hti hd hki hkd hei hx hy hm hz hzo hv rfl) (fun s g a w hs rel => ?_)
  subst hs
  exact ⟨g, _, k, rel.whenT⟩
 | false => exact Step.skip (o := ⟨some i, .lookup tm x y co, ty, pos, after, some (j, want)⟩) rfl (guardV_B hg) v k
end
section
open Go
open Go.RowKit
attribute [local irreducible] thenK blockK W
attribute [local irreducible] pathB nameB valueB listE svAt svE flE flO flAt stgO svO dirs dirTo stgAt clear paT prevP chkM bigM bxI bxF atK askP
theorem mx_add {i j n : Nat} (h : i ≤ n) (h2 : j ≤ n) (hn : n ≤ 4294967000) : V.one (.d (.int .i64 (IntKind.i64.wrap ((i : Int) + (j : Int))))) = V.one (.d (.int .i64 ((i + j : Nat) : Int))) := by
 rw [wrap_i64 (by omega) (by omega)]; rfl
theorem mx_u {x : Nat} (h : x ≤ 8589934000) : V.one (.d (.int .u64 (IntKind.u64.wrap (x : Int)))) = V.one (.d (.int .u64 (x : Int))) := by
 rw [show IntKind.u64.wrap (x : Int) = (x : Int) from by show (x : Int) % _ = _; exact Int.emod_eq_of_lt (by omega) (by show _ < (18446744073709551616 : Int); omega)]
theorem mx_h {x : Nat} : V.one (.d (.int .u64 (shrI .u64 (x : Int) 1))) = V.one (.d (.int .u64 ((x / 2 : Nat) : Int))) := by
 have e : shrI .u64 (x : Int) 1 = ((x / 2 : Nat) : Int) := by
  show Int.fdiv (x : Int) (2 ^ 1) = _
  rw [Int.fdiv_eq_ediv_of_nonneg _ (by decide)]; omega
 rw [e]
theorem mx_i {x : Nat} (h : x ≤ 8589934000) : V.one (.d (.int .i64 (IntKind.i64.wrap (x : Int)))) = V.one (.d (.int .i64 (x : Int))) := by
 rw [wrap_i64 (by omega) (by omega)]
theorem map_sure {β : Type} {f : β → List D} {l : List β} {i n : Nat} (h : decide ((i : Int) < (n : Int)) = true) (hn : n = (l.map f).length) : i < l.length := by
 have := of_decide_eq_true h
 rw [List.length_map] at hn; omega
section
variable {β : Type} {ky : β → L8} {z : β} {key : L8} {l : List β}
theorem fnd_0 (hs : l.Pairwise fun a b => ky a < ky b) (h : (!bxF ky z key l) = true) : atK ky l key = none := bx_f hs (by simpa using h)
theorem fnd_1 (hs : l.Pairwise fun a b => ky a < ky b) (h : (!bxF ky z key l) = false) : bxI ky key l < l.length ∧ atK ky l key = some (l.getD (bxI ky key l) z) := bx_t hs (by simpa using h)
theorem ask_e {m : Mac} {ok : Bool} {o : Option β} (h : (chkM m != 0) = true) : askP z m ok o = (z, chkM m) := by unfold askP; exact if_pos h
theorem ask_5 {m : Mac} {ok : Bool} {o : Option β} (h : (chkM m != 0) = false) (h2 : (!ok) = true) : askP z m ok o = (z, 5) := by unfold askP; rw [if_neg (Bool.eq_false_iff.1 h), if_pos h2]
theorem ask_n {m : Mac} {ok : Bool} {o : Option β} (h : (chkM m != 0) = false) (h2 : (!ok) = false) (h3 : (!o.isSome) = true) : askP z m ok o = (z, 10) := by
 unfold askP; rw [if_neg (Bool.eq_false_iff.1 h), if_neg (Bool.eq_false_iff.1 h2), if_neg (by simpa using h3)]
theorem ask_0 {m : Mac} {ok : Bool} {o : Option β} (h : (chkM m != 0) = false) (h2 : (!ok) = false) (h3 : (!o.isSome) = false) : askP z m ok o = (o.getD z, 0) := by
 unfold askP; rw [if_neg (Bool.eq_false_iff.1 h), if_neg (Bool.eq_false_iff.1 h2), if_pos (by simpa using h3)]
end
theorem pc_fx1Setting (q : Nat) (s : Stg) (key : L8) (hq : PureCall Tryz.prog J q [.agg [.d (.str s.k), .d (.str s.v)]] (.one (.d (.str s.k)))) :
  HCall Tryz.prog J 258 ([.agg [.d (.str s.k), .d (.str s.v)], .one (.d (.str key)), .one (.ptr 0 0)]) ([[.d (.fn q)]]) ([]) ([]) (isH (.one (.d (.int .i64 (Lib.compareBytes s.k key)))) ([[.d (.fn q)]]) ([]) ([])) := by
 refine HCall.ofD tOk ⟨1, 0, 0⟩ (fn := Tryz.f258) Tryz.func258 (by kernel_rfl) rfl (Nat.le_of_ble_eq_true rfl) (fun E => ?_)
 iterate 6 first|refine Yp rfl ?_|refine S.box rfl rfl rfl rfl ?_|apply Y3|apply Y1
 refine S.call rfl rfl rfl rfl rfl (hq) ?_
 refine Yp rfl ?_
 refine S.call rfl rfl rfl rfl rfl (pc_Compare s.k key) ?_
 refine Yp rfl ?_
 apply Yn
 apply Yt
 exact ⟨_, rfl, rfl, LeG.refl _, rfl, rfl, rfl⟩
theorem pc_bxSetting (f : Nat) (caps : List C) (b : List (List C)) (r : List (Option RowO)) (m : List (List (DV × DV))) (l : List Stg) (hn : l.length ≤ 2000000) (hs : l.Pairwise fun a b => a.k < b.k) (key : L8) (hc : ∀ s ∈ l, HCall Tryz.prog J f (.agg [.d (.str s.k), .d (.str s.v)] :: .one (.d (.str key)) :: caps.map V.one) b r m (isH (.one (.d (.int .i64 (Lib.compareBytes s.k key)))) b r m)) :
  HCall Tryz.prog J 257 ([.one (.d (.vec 2 (l.map stgD))), .one (.d (.str key)), .one (.clo f caps)]) (b) (r) (m) (isH (.tup [.one (.d (.int .i64 (bxI (fun x : Stg => x.k) key l : Int))), .one (.d (.bool (bxF (fun x : Stg => x.k) Stg.z key l)))]) (b) (r) (m)) := by
 have hmap : (l.map stgD).length = l.length := List.length_map _
 refine HCall.ofN tOk (fn := Tryz.f257) Tryz.func257 (by kernel_rfl) rfl (Nat.le_of_ble_eq_true rfl) (fun E => ?_)
 iterate 14 first|refine Yp rfl ?_|apply Yb|apply Y3|apply Y1|apply Ys|apply Yn
 refine W.loop (fun k st => ∃ u : Nat, ∃ i : Nat, ∃ j : Nat, i ≤ j ∧ j ≤ l.length ∧ j - i ≤ u ∧ (∀ m, m < i → (l.getD m Stg.z).k < key) ∧ (∀ m, j ≤ m → m < l.length → ¬ (l.getD m Stg.z).k < key) ∧ k = u ∧ ∃ t, st = ⟨t, b, r, m⟩ ∧ holdsL t [(0, .one (.d (.vec 2 (l.map stgD)))), (1, .one (.d (.str key))), (2, .one (.clo f caps)), (8, .one (.d (.int .i64 ((l.map stgD).length : Int)))), (9, .one (.d (.int .i64 (i : Int)))), (10, .one (.d (.int .i64 (j : Int))))]) (l.length) ⟨l.length, 0, (l.map stgD).length, Nat.zero_le _, Nat.le_of_eq hmap, (by omega), (fun m hm => absurd hm (Nat.not_lt_zero _)), (fun m h1 h2 => by omega), rfl, _, rfl, rfl, rfl, rfl, rfl, rfl, rfl, trivial⟩ ?_
 rintro k0 _ ⟨u, i, j, f0_0, f0_1, f0_2, f0_3, f0_4, rfl, t0, rfl, hh0⟩
 refine W.keep _ hh0 ?_
 apply Ys
 apply Y1
 iterate 3 refine Yp rfl ?_
 apply Yn
 refine W.cond rfl (fun c1=>?_) fun c1=>?_
 ·skip
  have hij : i < j := by have := of_decide_eq_true c1; omega
  have hh : ((i + j) / 2) < l.length := by omega
  iterate 6 first|refine Yp rfl ?_|apply Yb|apply Yk|apply Y1|apply Yn
  refine YE rfl rfl (mx_add (n := l.length) (by omega) f0_1 (by omega)) rfl ?_
  refine YE rfl rfl (mx_u (by omega)) rfl ?_
  refine YE rfl (rfl) (mx_h) rfl ?_
  refine YE rfl rfl (mx_i (by omega)) rfl ?_
  iterate 5 first|refine Yp rfl ?_|apply Y3
  refine YE rfl (row_ok hh) (row_at Stg.z hh) rfl ?_
  iterate 2 refine Yp rfl ?_
  refine S.hcallU rfl rfl rfl (hc _ (mem_getD (d := Stg.z) hh)) ?_
  refine Yp rfl ?_
  apply Yn
  refine W.cond rfl (fun c2=>?_) fun c2=>?_
  ·skip
   apply Yr
   refine Yp rfl ?_
   refine YE rfl rfl (inc_i64 (by omega)) rfl ?_
   refine Yp rfl ?_
   apply Yw
   refine loop_n (k0 - 1) (by omega) ⟨k0 - 1, ((i + j) / 2) + 1, j, (by omega), (by omega), (by omega), (bx_lo (ky := (fun x : Stg => x.k)) hs hh c2), f0_4, rfl, _, rfl, rfl, rfl, rfl, rfl, rfl, rfl, trivial⟩
  apply Yr
  iterate 2 refine Yp rfl ?_
  apply Yw
  refine loop_n (k0 - 1) (by omega) ⟨k0 - 1, i, ((i + j) / 2), (by omega), (by omega), (by omega), f0_3, (bx_hi (ky := (fun x : Stg => x.k)) hs c2), rfl, _, rfl, rfl, rfl, rfl, rfl, rfl, rfl, trivial⟩
 have hij : j ≤ i := by have := of_decide_eq_false c1; omega
 have hend := bx_end (ky := (fun x : Stg => x.k)) hij (by omega) f0_3 f0_4
 iterate 13 first|refine Yp rfl ?_|refine Yg rfl rfl tg ?_|apply Ye|apply Yx|apply Yq|apply Y3
 refine S.pureEGc tOk zOk rfl rfl tg (fun hg => row_ok (map_sure hg rfl)) (fun hg => row_at Stg.z (map_sure hg rfl)) rfl ?_
 iterate 2 refine Yg rfl rfl tg ?_
 refine S.hcallUG rfl rfl rfl rfl tg (fun hg => hc _ (mem_getD (d := Stg.z) (map_sure hg rfl))) ?_
 refine Yg rfl rfl tg ?_
 refine S.pickAnd tOk zOk rfl rfl tg ?_
 iterate 2 refine Yp rfl ?_
 apply Yn
 apply Yt
 exact ⟨_, rfl, LeG.of_force rfl (by unfold bxF; rw [hend, hmap]; cases decide ((i : Int) < (l.length : Int)) <;> rfl), rfl, rfl, rfl⟩
theorem pc_foundSetting (q : Nat) (l : List Stg) (hn : l.length ≤ 2000000) (hs : l.Pairwise fun a b => a.k < b.k) (key : L8) (hq : ∀ s ∈ l, PureCall Tryz.prog J q [.agg [.d (.str s.k), .d (.str s.v)]] (.one (.d (.str s.k)))) :
  PureCall Tryz.prog J 222 [.one (.d (.vec 2 (l.map stgD))), .one (.d (.str key)), .one (.d (.fn q))] (.tup [.agg [.d (.str ((atK (fun x : Stg => x.k) l key).getD Stg.z).k), .d (.str ((atK (fun x : Stg => x.k) l key).getD Stg.z).v)], .one (.d (.bool (atK (fun x : Stg => x.k) l key).isSome))]) := by
 refine PureCall.of_body tOk (fn := Tryz.f222) Tryz.func222 (by kernel_rfl) rfl (Nat.le_of_ble_eq_true rfl) (fun E => ?_)
 iterate 7 first|refine Yp rfl ?_|refine S.alloc tOk rfl rfl rfl rfl ?_|refine S.box rfl rfl rfl rfl ?_|apply Y3|apply Y1
 refine S.makeFunc rfl rfl rfl ?_
 refine S.hcallD rfl rfl rfl rfl (pc_bxSetting 258 [.ptr 0 0] _ _ _ l hn hs key (fun s hs' => (pc_fx1Setting q s key (hq s hs')).fd [0] [] [] rfl)) ?_
 iterate 11 first|refine Yp rfl ?_|apply Y1|apply Yn|apply Ys
 refine W.cond rfl (fun c1=>?_) fun c1=>?_
 ·skip
  have h0 := fnd_0 (ky := (fun x : Stg => x.k)) hs c1
  iterate 9 first|refine Yp rfl ?_|apply Yu|apply Yt|refine S.store tOk rfl rfl rfl rfl rfl rfl rfl rfl ?_|refine S.alloc tOk rfl rfl rfl rfl ?_|apply Y3|apply Y1|apply Yn
  exact Yz rfl rfl rfl (by rw [h0]; rfl)
 have h1 := fnd_1 (ky := (fun x : Stg => x.k)) hs c1
 have hi := h1.1
 apply Yk
 apply Y3
 iterate 2 refine Yp rfl ?_
 refine YE rfl (row_ok hi) (row_at Stg.z hi) rfl ?_
 iterate 5 first|refine Yp rfl ?_|apply Yt|refine S.store tOk rfl rfl rfl rfl rfl rfl rfl rfl ?_|apply Yn
 exact Yz rfl rfl rfl (by rw [h1.2]; rfl)
theorem pc_askSetting (m : Mac) (hm : MacA m) (l : List Stg) (hn : l.length ≤ 2000000) (hs : chkM m = 0 → l.Pairwise fun a b => a.k < b.k) (key : L8) (g q : Nat) (ok : Bool) (hg : PureCall Tryz.prog J g [.one (.d (.str key))] (.one (.d (.bool ok)))) (hq : ∀ s ∈ l, PureCall Tryz.prog J q [.agg [.d (.str s.k), .d (.str s.v)]] (.one (.d (.str s.k)))) :
  PureCall Tryz.prog J 166 [.agg [.d (.vec 2 (m.fa.map stgD)), .d (.vec 3 (m.fl.map flD)), .d (.vec 2 (m.se.map stgD)), .d (.vec 4 (m.sv.map svD))], .one (.d (.vec 2 (l.map stgD))), .one (.d (.str key)), .one (.d (.fn g)), .one (.d (.fn q))] (.tup [.agg [.d (.str (askP Stg.z m ok (atK (fun x : Stg => x.k) l key)).1.k), .d (.str (askP Stg.z m ok (atK (fun x : Stg => x.k) l key)).1.v)], .one (.d (.int .i64 (askP Stg.z m ok (atK (fun x : Stg => x.k) l key)).2))]) := by
 refine PureCall.of_body tOk (fn := Tryz.f166) Tryz.func166 (by kernel_rfl) rfl (Nat.le_of_ble_eq_true rfl) (fun E => ?_)
 iterate 10 first|refine Yp rfl ?_|refine S.alloc tOk rfl rfl rfl rfl ?_|refine S.box rfl rfl rfl rfl ?_|apply Y1|apply Y3|apply Ys|apply Yn
 refine S.call rfl rfl rfl rfl rfl (pc_Check m hm) ?_
 iterate 5 first|refine Yp rfl ?_|apply Y3|apply Yn
 refine W.cond rfl (fun c1=>?_) fun c1=>?_
 ·skip
  iterate 8 first|refine Yp rfl ?_|apply Yu|apply Yt|refine S.store tOk rfl rfl rfl rfl rfl rfl rfl rfl ?_|apply Y1|apply Yn
  exact Yz rfl rfl rfl (by rw [ask_e c1]; rfl)
 apply Yk
 apply Yn
 apply Ys
 apply Y1
 iterate 2 refine Yp rfl ?_
 refine S.call rfl rfl rfl rfl rfl (hg) ?_
 refine Yp rfl ?_
 apply Yn
 refine W.cond rfl (fun c2=>?_) fun c2=>?_
 ·skip
  iterate 7 first|refine Yp rfl ?_|apply Yu|apply Yt|refine S.store tOk rfl rfl rfl rfl rfl rfl rfl rfl ?_|apply Y1|apply Yn
  exact Yz rfl rfl rfl (by rw [ask_5 c1 c2]; rfl)
 apply Yk
 apply Y3
 iterate 3 refine Yp rfl ?_
 refine S.call rfl rfl rfl rfl rfl (pc_foundSetting q l hn (hs (by simpa using c1)) key hq) ?_
 iterate 12 first|refine Yp rfl ?_|refine S.store tOk rfl rfl rfl rfl rfl rfl rfl rfl ?_|refine S.alloc tOk rfl rfl rfl rfl ?_|apply Y1|apply Yn|apply Ys
 refine W.cond rfl (fun c3=>?_) fun c3=>?_
 ·skip
  iterate 7 first|refine Yp rfl ?_|apply Yu|apply Yt|refine S.store tOk rfl rfl rfl rfl rfl rfl rfl rfl ?_|apply Y1|apply Yn
  exact Yz rfl rfl rfl (by rw [ask_n c1 c2 c3]; rfl)
 iterate 7 first|refine Yp rfl ?_|apply Yt|refine S.store tOk rfl rfl rfl rfl rfl rfl rfl rfl ?_|apply Yk|apply Y3|apply Yn
 exact Yz rfl rfl rfl (by rw [ask_0 c1 c2 c3]; rfl)
theorem pc_fx1File (q : Nat) (s : Fl) (key : L8) (hq : PureCall Tryz.prog J q [.agg [.d (.str s.p), .d (.str s.d), .d (.bool s.r)]] (.one (.d (.str s.p)))) :
  HCall Tryz.prog J 260 ([.agg [.d (.str s.p), .d (.str s.d), .d (.bool s.r)], .one (.d (.str key)), .one (.ptr 0 0)]) ([[.d (.fn q)]]) ([]) ([]) (isH (.one (.d (.int .i64 (Lib.compareBytes s.p key)))) ([[.d (.fn q)]]) ([]) ([])) := by
 refine HCall.ofD tOk ⟨1, 0, 0⟩ (fn := Tryz.f260) Tryz.func260 (by kernel_rfl) rfl (Nat.le_of_ble_eq_true rfl) (fun E => ?_)
 iterate 6 first|refine Yp rfl ?_|refine S.box rfl rfl rfl rfl ?_|apply Y3|apply Y1
 refine S.call rfl rfl rfl rfl rfl (hq) ?_
 refine Yp rfl ?_
 refine S.call rfl rfl rfl rfl rfl (pc_Compare s.p key) ?_
 refine Yp rfl ?_
 apply Yn
 apply Yt
 exact ⟨_, rfl, rfl, LeG.refl _, rfl, rfl, rfl⟩
theorem pc_bxFile (f : Nat) (caps : List C) (b : List (List C)) (r : List (Option RowO)) (m : List (List (DV × DV))) (l : List Fl) (hn : l.length ≤ 2000000) (hs : l.Pairwise fun a b => a.p < b.p) (key : L8) (hc : ∀ s ∈ l, HCall Tryz.prog J f (.agg [.d (.str s.p), .d (.str s.d), .d (.bool s.r)] :: .one (.d (.str key)) :: caps.map V.one) b r m (isH (.one (.d (.int .i64 (Lib.compareBytes s.p key)))) b r m)) :
  HCall Tryz.prog J 259 ([.one (.d (.vec 3 (l.map flD))), .one (.d (.str key)), .one (.clo f caps)]) (b) (r) (m) (isH (.tup [.one (.d (.int .i64 (bxI (fun x : Fl => x.p) key l : Int))), .one (.d (.bool (bxF (fun x : Fl => x.p) Fl.z key l)))]) (b) (r) (m)) := by
 have hmap : (l.map flD).length = l.length := List.length_map _
 refine HCall.ofN tOk (fn := Tryz.f259) Tryz.func259 (by kernel_rfl) rfl (Nat.le_of_ble_eq_true rfl) (fun E => ?_)
 iterate 14 first|refine Yp rfl ?_|apply Yb|apply Y3|apply Y1|apply Ys|apply Yn
 refine W.loop (fun k st => ∃ u : Nat, ∃ i : Nat, ∃ j : Nat, i ≤ j ∧ j ≤ l.length ∧ j - i ≤ u ∧ (∀ m, m < i → (l.getD m Fl.z).p < key) ∧ (∀ m, j ≤ m → m < l.length → ¬ (l.getD m Fl.z).p < key) ∧ k = u ∧ ∃ t, st = ⟨t, b, r, m⟩ ∧ holdsL t [(0, .one (.d (.vec 3 (l.map flD)))), (1, .one (.d (.str key))), (2, .one (.clo f caps)), (8, .one (.d (.int .i64 ((l.map flD).length : Int)))), (9, .one (.d (.int .i64 (i : Int)))), (10, .one (.d (.int .i64 (j : Int))))]) (l.length) ⟨l.length, 0, (l.map flD).length, Nat.zero_le _, Nat.le_of_eq hmap, (by omega), (fun m hm => absurd hm (Nat.not_lt_zero _)), (fun m h1 h2 => by omega), rfl, _, rfl, rfl, rfl, rfl, rfl, rfl, rfl, trivial⟩ ?_
 rintro k0 _ ⟨u, i, j, f0_0, f0_1, f0_2, f0_3, f0_4, rfl, t0, rfl, hh0⟩
 refine W.keep _ hh0 ?_
 apply Ys
 apply Y1
 iterate 3 refine Yp rfl ?_
 apply Yn
 refine W.cond rfl (fun c1=>?_) fun c1=>?_
 ·skip
  have hij : i < j := by have := of_decide_eq_true c1; omega
  have hh : ((i + j) / 2) < l.length := by omega
  iterate 6 first|refine Yp rfl ?_|apply Yb|apply Yk|apply Y1|apply Yn
  refine YE rfl rfl (mx_add (n := l.length) (by omega) f0_1 (by omega)) rfl ?_
  refine YE rfl rfl (mx_u (by omega)) rfl ?_
  refine YE rfl (rfl) (mx_h) rfl ?_
  refine YE rfl rfl (mx_i (by omega)) rfl ?_
  iterate 5 first|refine Yp rfl ?_|apply Y3
  refine YE rfl (row_ok hh) (row_at Fl.z hh) rfl ?_
  iterate 2 refine Yp rfl ?_
  refine S.hcallU rfl rfl rfl (hc _ (mem_getD (d := Fl.z) hh)) ?_
  refine Yp rfl ?_
  apply Yn
  refine W.cond rfl (fun c2=>?_) fun c2=>?_
  ·skip
   apply Yr
   refine Yp rfl ?_
   refine YE rfl rfl (inc_i64 (by omega)) rfl ?_
   refine Yp rfl ?_
   apply Yw
   refine loop_n (k0 - 1) (by omega) ⟨k0 - 1, ((i + j) / 2) + 1, j, (by omega), (by omega), (by omega), (bx_lo (ky := (fun x : Fl => x.p)) hs hh c2), f0_4, rfl, _, rfl, rfl, rfl, rfl, rfl, rfl, rfl, trivial⟩
  apply Yr
  iterate 2 refine Yp rfl ?_
  apply Yw
  refine loop_n (k0 - 1) (by omega) ⟨k0 - 1, i, ((i + j) / 2), (by omega), (by omega), (by omega), f0_3, (bx_hi (ky := (fun x : Fl => x.p)) hs c2), rfl, _, rfl, rfl, rfl, rfl, rfl, rfl, rfl, trivial⟩
 have hij : j ≤ i := by have := of_decide_eq_false c1; omega
 have hend := bx_end (ky := (fun x : Fl => x.p)) hij (by omega) f0_3 f0_4
 iterate 13 first|refine Yp rfl ?_|refine Yg rfl rfl tg ?_|apply Ye|apply Yx|apply Yq|apply Y3
 refine S.pureEGc tOk zOk rfl rfl tg (fun hg => row_ok (map_sure hg rfl)) (fun hg => row_at Fl.z (map_sure hg rfl)) rfl ?_
 iterate 2 refine Yg rfl rfl tg ?_
 refine S.hcallUG rfl rfl rfl rfl tg (fun hg => hc _ (mem_getD (d := Fl.z) (map_sure hg rfl))) ?_
 refine Yg rfl rfl tg ?_
 refine S.pickAnd tOk zOk rfl rfl tg ?_
 iterate 2 refine Yp rfl ?_
 apply Yn
 apply Yt
 exact ⟨_, rfl, LeG.of_force rfl (by unfold bxF; rw [hend, hmap]; cases decide ((i : Int) < (l.length : Int)) <;> rfl), rfl, rfl, rfl⟩
theorem pc_foundFile (q : Nat) (l : List Fl) (hn : l.length ≤ 2000000) (hs : l.Pairwise fun a b => a.p < b.p) (key : L8) (hq : ∀ s ∈ l, PureCall Tryz.prog J q [.agg [.d (.str s.p), .d (.str s.d), .d (.bool s.r)]] (.one (.d (.str s.p)))) :
  PureCall Tryz.prog J 223 [.one (.d (.vec 3 (l.map flD))), .one (.d (.str key)), .one (.d (.fn q))] (.tup [.agg [.d (.str ((atK (fun x : Fl => x.p) l key).getD Fl.z).p), .d (.str ((atK (fun x : Fl => x.p) l key).getD Fl.z).d), .d (.bool ((atK (fun x : Fl => x.p) l key).getD Fl.z).r)], .one (.d (.bool (atK (fun x : Fl => x.p) l key).isSome))]) := by
 refine PureCall.of_body tOk (fn := Tryz.f223) Tryz.func223 (by kernel_rfl) rfl (Nat.le_of_ble_eq_true rfl) (fun E => ?_)
 iterate 7 first|refine Yp rfl ?_|refine S.alloc tOk rfl rfl rfl rfl ?_|refine S.box rfl rfl rfl rfl ?_|apply Y3|apply Y1
 refine S.makeFunc rfl rfl rfl ?_
 refine S.hcallD rfl rfl rfl rfl (pc_bxFile 260 [.ptr 0 0] _ _ _ l hn hs key (fun s hs' => (pc_fx1File q s key (hq s hs')).fd [0] [] [] rfl)) ?_
 iterate 11 first|refine Yp rfl ?_|apply Y1|apply Yn|apply Ys
 refine W.cond rfl (fun c1=>?_) fun c1=>?_
 ·skip
  have h0 := fnd_0 (ky := (fun x : Fl => x.p)) hs c1
  iterate 9 first|refine Yp rfl ?_|apply Yu|apply Yt|refine S.store tOk rfl rfl rfl rfl rfl rfl rfl rfl ?_|refine S.alloc tOk rfl rfl rfl rfl ?_|apply Y3|apply Y1|apply Yn
  exact Yz rfl rfl rfl (by rw [h0]; rfl)
 have h1 := fnd_1 (ky := (fun x : Fl => x.p)) hs c1
 have hi := h1.1
 apply Yk
 apply Y3
 iterate 2 refine Yp rfl ?_
 refine YE rfl (row_ok hi) (row_at Fl.z hi) rfl ?_
 iterate 5 first|refine Yp rfl ?_|apply Yt|refine S.store tOk rfl rfl rfl rfl rfl rfl rfl rfl ?_|apply Yn
 exact Yz rfl rfl rfl (by rw [h1.2]; rfl)
theorem pc_askFile (m : Mac) (hm : MacA m) (l : List Fl) (hn : l.length ≤ 2000000) (hs : chkM m = 0 → l.Pairwise fun a b => a.p < b.p) (key : L8) (g q : Nat) (ok : Bool) (hg : PureCall Tryz.prog J g [.one (.d (.str key))] (.one (.d (.bool ok)))) (hq : ∀ s ∈ l, PureCall Tryz.prog J q [.agg [.d (.str s.p), .d (.str s.d), .d (.bool s.r)]] (.one (.d (.str s.p)))) :
  PureCall Tryz.prog J 168 [.agg [.d (.vec 2 (m.fa.map stgD)), .d (.vec 3 (m.fl.map flD)), .d (.vec 2 (m.se.map stgD)), .d (.vec 4 (m.sv.map svD))], .one (.d (.vec 3 (l.map flD))), .one (.d (.str key)), .one (.d (.fn g)), .one (.d (.fn q))] (.tup [.agg [.d (.str (askP Fl.z m ok (atK (fun x : Fl => x.p) l key)).1.p), .d (.str (askP Fl.z m ok (atK (fun x : Fl => x.p) l key)).1.d), .d (.bool (askP Fl.z m ok (atK (fun x : Fl => x.p) l key)).1.r)], .one (.d (.int .i64 (askP Fl.z m ok (atK (fun x : Fl => x.p) l key)).2))]) := by
 refine PureCall.of_body tOk (fn := Tryz.f168) Tryz.func168 (by kernel_rfl) rfl (Nat.le_of_ble_eq_true rfl) (fun E => ?_)
 iterate 10 first|refine Yp rfl ?_|refine S.alloc tOk rfl rfl rfl rfl ?_|refine S.box rfl rfl rfl rfl ?_|apply Y1|apply Y3|apply Ys|apply Yn
 refine S.call rfl rfl rfl rfl rfl (pc_Check m hm) ?_
 iterate 5 first|refine Yp rfl ?_|apply Y3|apply Yn
 refine W.cond rfl (fun c1=>?_) fun c1=>?_
 ·skip
  iterate 8 first|refine Yp rfl ?_|apply Yu|apply Yt|refine S.store tOk rfl rfl rfl rfl rfl rfl rfl rfl ?_|apply Y1|apply Yn
  exact Yz rfl rfl rfl (by rw [ask_e c1]; rfl)
 apply Yk
 apply Yn
 apply Ys
 apply Y1
 iterate 2 refine Yp rfl ?_
 refine S.call rfl rfl rfl rfl rfl (hg) ?_
 refine Yp rfl ?_
 apply Yn
 refine W.cond rfl (fun c2=>?_) fun c2=>?_
 ·skip
  iterate 7 first|refine Yp rfl ?_|apply Yu|apply Yt|refine S.store tOk rfl rfl rfl rfl rfl rfl rfl rfl ?_|apply Y1|apply Yn
  exact Yz rfl rfl rfl (by rw [ask_5 c1 c2]; rfl)
 apply Yk
 apply Y3
 iterate 3 refine Yp rfl ?_
 refine S.call rfl rfl rfl rfl rfl (pc_foundFile q l hn (hs (by simpa using c1)) key hq) ?_
 iterate 12 first|refine Yp rfl ?_|refine S.store tOk rfl rfl rfl rfl rfl rfl rfl rfl ?_|refine S.alloc tOk rfl rfl rfl rfl ?_|apply Y1|apply Yn|apply Ys
 refine W.cond rfl (fun c3=>?_) fun c3=>?_
 ·skip
  iterate 7 first|refine Yp rfl ?_|apply Yu|apply Yt|refine S.store tOk rfl rfl rfl rfl rfl rfl rfl rfl ?_|apply Y1|apply Yn
  exact Yz rfl rfl rfl (by rw [ask_n c1 c2 c3]; rfl)
 iterate 7 first|refine Yp rfl ?_|apply Yt|refine S.store tOk rfl rfl rfl rfl rfl rfl rfl rfl ?_|apply Yk|apply Y3|apply Yn
 exact Yz rfl rfl rfl (by rw [ask_0 c1 c2 c3]; rfl)
theorem pc_fx1Service (q : Nat) (s : Svc) (key : L8) (hq : PureCall Tryz.prog J q [.agg [.d (.str s.n), .d (.str s.p), .d (.bool s.au), .d (.bool s.on)]] (.one (.d (.str s.n)))) :
  HCall Tryz.prog J 262 ([.agg [.d (.str s.n), .d (.str s.p), .d (.bool s.au), .d (.bool s.on)], .one (.d (.str key)), .one (.ptr 0 0)]) ([[.d (.fn q)]]) ([]) ([]) (isH (.one (.d (.int .i64 (Lib.compareBytes s.n key)))) ([[.d (.fn q)]]) ([]) ([])) := by
 refine HCall.ofD tOk ⟨1, 0, 0⟩ (fn := Tryz.f262) Tryz.func262 (by kernel_rfl) rfl (Nat.le_of_ble_eq_true rfl) (fun E => ?_)
 iterate 6 first|refine Yp rfl ?_|refine S.box rfl rfl rfl rfl ?_|apply Y3|apply Y1
 refine S.call rfl rfl rfl rfl rfl (hq) ?_
 refine Yp rfl ?_
 refine S.call rfl rfl rfl rfl rfl (pc_Compare s.n key) ?_
 refine Yp rfl ?_
 apply Yn
 apply Yt
 exact ⟨_, rfl, rfl, LeG.refl _, rfl, rfl, rfl⟩
theorem pc_bxService (f : Nat) (caps : List C) (b : List (List C)) (r : List (Option RowO)) (m : List (List (DV × DV))) (l : List Svc) (hn : l.length ≤ 2000000) (hs : l.Pairwise fun a b => a.n < b.n) (key : L8) (hc : ∀ s ∈ l, HCall Tryz.prog J f (.agg [.d (.str s.n), .d (.str s.p), .d (.bool s.au), .d (.bool s.on)] :: .one (.d (.str key)) :: caps.map V.one) b r m (isH (.one (.d (.int .i64 (Lib.compareBytes s.n key)))) b r m)) :
  HCall Tryz.prog J 261 ([.one (.d (.vec 4 (l.map svD))), .one (.d (.str key)), .one (.clo f caps)]) (b) (r) (m) (isH (.tup [.one (.d (.int .i64 (bxI (fun x : Svc => x.n) key l : Int))), .one (.d (.bool (bxF (fun x : Svc => x.n) Svc.z key l)))]) (b) (r) (m)) := by
 have hmap : (l.map svD).length = l.length := List.length_map _
 refine HCall.ofN tOk (fn := Tryz.f261) Tryz.func261 (by kernel_rfl) rfl (Nat.le_of_ble_eq_true rfl) (fun E => ?_)
 iterate 14 first|refine Yp rfl ?_|apply Yb|apply Y3|apply Y1|apply Ys|apply Yn
 refine W.loop (fun k st => ∃ u : Nat, ∃ i : Nat, ∃ j : Nat, i ≤ j ∧ j ≤ l.length ∧ j - i ≤ u ∧ (∀ m, m < i → (l.getD m Svc.z).n < key) ∧ (∀ m, j ≤ m → m < l.length → ¬ (l.getD m Svc.z).n < key) ∧ k = u ∧ ∃ t, st = ⟨t, b, r, m⟩ ∧ holdsL t [(0, .one (.d (.vec 4 (l.map svD)))), (1, .one (.d (.str key))), (2, .one (.clo f caps)), (8, .one (.d (.int .i64 ((l.map svD).length : Int)))), (9, .one (.d (.int .i64 (i : Int)))), (10, .one (.d (.int .i64 (j : Int))))]) (l.length) ⟨l.length, 0, (l.map svD).length, Nat.zero_le _, Nat.le_of_eq hmap, (by omega), (fun m hm => absurd hm (Nat.not_lt_zero _)), (fun m h1 h2 => by omega), rfl, _, rfl, rfl, rfl, rfl, rfl, rfl, rfl, trivial⟩ ?_
 rintro k0 _ ⟨u, i, j, f0_0, f0_1, f0_2, f0_3, f0_4, rfl, t0, rfl, hh0⟩
 refine W.keep _ hh0 ?_
 apply Ys
 apply Y1
 iterate 3 refine Yp rfl ?_
 apply Yn
 refine W.cond rfl (fun c1=>?_) fun c1=>?_
 ·skip
  have hij : i < j := by have := of_decide_eq_true c1; omega
  have hh : ((i + j) / 2) < l.length := by omega
  iterate 6 first|refine Yp rfl ?_|apply Yb|apply Yk|apply Y1|apply Yn
  refine YE rfl rfl (mx_add (n := l.length) (by omega) f0_1 (by omega)) rfl ?_
  refine YE rfl rfl (mx_u (by omega)) rfl ?_
  refine YE rfl (rfl) (mx_h) rfl ?_
  refine YE rfl rfl (mx_i (by omega)) rfl ?_
  iterate 5 first|refine Yp rfl ?_|apply Y3
  refine YE rfl (row_ok hh) (row_at Svc.z hh) rfl ?_
  iterate 2 refine Yp rfl ?_
  refine S.hcallU rfl rfl rfl (hc _ (mem_getD (d := Svc.z) hh)) ?_
  refine Yp rfl ?_
  apply Yn
  refine W.cond rfl (fun c2=>?_) fun c2=>?_
  ·skip
   apply Yr
   refine Yp rfl ?_
   refine YE rfl rfl (inc_i64 (by omega)) rfl ?_
   refine Yp rfl ?_
   apply Yw
   refine loop_n (k0 - 1) (by omega) ⟨k0 - 1, ((i + j) / 2) + 1, j, (by omega), (by omega), (by omega), (bx_lo (ky := (fun x : Svc => x.n)) hs hh c2), f0_4, rfl, _, rfl, rfl, rfl, rfl, rfl, rfl, rfl, trivial⟩
  apply Yr
  iterate 2 refine Yp rfl ?_
  apply Yw
  refine loop_n (k0 - 1) (by omega) ⟨k0 - 1, i, ((i + j) / 2), (by omega), (by omega), (by omega), f0_3, (bx_hi (ky := (fun x : Svc => x.n)) hs c2), rfl, _, rfl, rfl, rfl, rfl, rfl, rfl, rfl, trivial⟩
 have hij : j ≤ i := by have := of_decide_eq_false c1; omega
 have hend := bx_end (ky := (fun x : Svc => x.n)) hij (by omega) f0_3 f0_4
 iterate 13 first|refine Yp rfl ?_|refine Yg rfl rfl tg ?_|apply Ye|apply Yx|apply Yq|apply Y3
 refine S.pureEGc tOk zOk rfl rfl tg (fun hg => row_ok (map_sure hg rfl)) (fun hg => row_at Svc.z (map_sure hg rfl)) rfl ?_
 iterate 2 refine Yg rfl rfl tg ?_
 refine S.hcallUG rfl rfl rfl rfl tg (fun hg => hc _ (mem_getD (d := Svc.z) (map_sure hg rfl))) ?_
 refine Yg rfl rfl tg ?_
 refine S.pickAnd tOk zOk rfl rfl tg ?_
 iterate 2 refine Yp rfl ?_
 apply Yn
 apply Yt
 exact ⟨_, rfl, LeG.of_force rfl (by unfold bxF; rw [hend, hmap]; cases decide ((i : Int) < (l.length : Int)) <;> rfl), rfl, rfl, rfl⟩
theorem pc_foundService (q : Nat) (l : List Svc) (hn : l.length ≤ 2000000) (hs : l.Pairwise fun a b => a.n < b.n) (key : L8) (hq : ∀ s ∈ l, PureCall Tryz.prog J q [.agg [.d (.str s.n), .d (.str s.p), .d (.bool s.au), .d (.bool s.on)]] (.one (.d (.str s.n)))) :
  PureCall Tryz.prog J 224 [.one (.d (.vec 4 (l.map svD))), .one (.d (.str key)), .one (.d (.fn q))] (.tup [.agg [.d (.str ((atK (fun x : Svc => x.n) l key).getD Svc.z).n), .d (.str ((atK (fun x : Svc => x.n) l key).getD Svc.z).p), .d (.bool ((atK (fun x : Svc => x.n) l key).getD Svc.z).au), .d (.bool ((atK (fun x : Svc => x.n) l key).getD Svc.z).on)], .one (.d (.bool (atK (fun x : Svc => x.n) l key).isSome))]) := by
 refine PureCall.of_body tOk (fn := Tryz.f224) Tryz.func224 (by kernel_rfl) rfl (Nat.le_of_ble_eq_true rfl) (fun E => ?_)
 iterate 7 first|refine Yp rfl ?_|refine S.alloc tOk rfl rfl rfl rfl ?_|refine S.box rfl rfl rfl rfl ?_|apply Y3|apply Y1
 refine S.makeFunc rfl rfl rfl ?_
 refine S.hcallD rfl rfl rfl rfl (pc_bxService 262 [.ptr 0 0] _ _ _ l hn hs key (fun s hs' => (pc_fx1Service q s key (hq s hs')).fd [0] [] [] rfl)) ?_
 iterate 11 first|refine Yp rfl ?_|apply Y1|apply Yn|apply Ys
 refine W.cond rfl (fun c1=>?_) fun c1=>?_
 ·skip
  have h0 := fnd_0 (ky := (fun x : Svc => x.n)) hs c1
  iterate 9 first|refine Yp rfl ?_|apply Yu|apply Yt|refine S.store tOk rfl rfl rfl rfl rfl rfl rfl rfl ?_|refine S.alloc tOk rfl rfl rfl rfl ?_|apply Y3|apply Y1|apply Yn
  exact Yz rfl rfl rfl (by rw [h0]; rfl)
 have h1 := fnd_1 (ky := (fun x : Svc => x.n)) hs c1
 have hi := h1.1
 apply Yk
 apply Y3
 iterate 2 refine Yp rfl ?_
 refine YE rfl (row_ok hi) (row_at Svc.z hi) rfl ?_
 iterate 5 first|refine Yp rfl ?_|apply Yt|refine S.store tOk rfl rfl rfl rfl rfl rfl rfl rfl ?_|apply Yn
 exact Yz rfl rfl rfl (by rw [h1.2]; rfl)
theorem pc_askService (m : Mac) (hm : MacA m) (l : List Svc) (hn : l.length ≤ 2000000) (hs : chkM m = 0 → l.Pairwise fun a b => a.n < b.n) (key : L8) (g q : Nat) (ok : Bool) (hg : PureCall Tryz.prog J g [.one (.d (.str key))] (.one (.d (.bool ok)))) (hq : ∀ s ∈ l, PureCall Tryz.prog J q [.agg [.d (.str s.n), .d (.str s.p), .d (.bool s.au), .d (.bool s.on)]] (.one (.d (.str s.n)))) :
  PureCall Tryz.prog J 170 [.agg [.d (.vec 2 (m.fa.map stgD)), .d (.vec 3 (m.fl.map flD)), .d (.vec 2 (m.se.map stgD)), .d (.vec 4 (m.sv.map svD))], .one (.d (.vec 4 (l.map svD))), .one (.d (.str key)), .one (.d (.fn g)), .one (.d (.fn q))] (.tup [.agg [.d (.str (askP Svc.z m ok (atK (fun x : Svc => x.n) l key)).1.n), .d (.str (askP Svc.z m ok (atK (fun x : Svc => x.n) l key)).1.p), .d (.bool (askP Svc.z m ok (atK (fun x : Svc => x.n) l key)).1.au), .d (.bool (askP Svc.z m ok (atK (fun x : Svc => x.n) l key)).1.on)], .one (.d (.int .i64 (askP Svc.z m ok (atK (fun x : Svc => x.n) l key)).2))]) := by
 refine PureCall.of_body tOk (fn := Tryz.f170) Tryz.func170 (by kernel_rfl) rfl (Nat.le_of_ble_eq_true rfl) (fun E => ?_)
 iterate 10 first|refine Yp rfl ?_|refine S.alloc tOk rfl rfl rfl rfl ?_|refine S.box rfl rfl rfl rfl ?_|apply Y1|apply Y3|apply Ys|apply Yn
 refine S.call rfl rfl rfl rfl rfl (pc_Check m hm) ?_
 iterate 5 first|refine Yp rfl ?_|apply Y3|apply Yn
 refine W.cond rfl (fun c1=>?_) fun c1=>?_
 ·skip
  iterate 8 first|refine Yp rfl ?_|apply Yu|apply Yt|refine S.store tOk rfl rfl rfl rfl rfl rfl rfl rfl ?_|apply Y1|apply Yn
  exact Yz rfl rfl rfl (by rw [ask_e c1]; rfl)
 apply Yk
 apply Yn
 apply Ys
 apply Y1
 iterate 2 refine Yp rfl ?_
 refine S.call rfl rfl rfl rfl rfl (hg) ?_
 refine Yp rfl ?_
 apply Yn
 refine W.cond rfl (fun c2=>?_) fun c2=>?_
 ·skip
  iterate 7 first|refine Yp rfl ?_|apply Yu|apply Yt|refine S.store tOk rfl rfl rfl rfl rfl rfl rfl rfl ?_|apply Y1|apply Yn
  exact Yz rfl rfl rfl (by rw [ask_5 c1 c2]; rfl)
 apply Yk
 apply Y3
 iterate 3 refine Yp rfl ?_
 refine S.call rfl rfl rfl rfl rfl (pc_foundService q l hn (hs (by simpa using c1)) key hq) ?_
 iterate 12 first|refine Yp rfl ?_|refine S.store tOk rfl rfl rfl rfl rfl rfl rfl rfl ?_|refine S.alloc tOk rfl rfl rfl rfl ?_|apply Y1|apply Yn|apply Ys
 refine W.cond rfl (fun c3=>?_) fun c3=>?_
 ·skip
  iterate 7 first|refine Yp rfl ?_|apply Yu|apply Yt|refine S.store tOk rfl rfl rfl rfl rfl rfl rfl rfl ?_|apply Y1|apply Yn
  exact Yz rfl rfl rfl (by rw [ask_n c1 c2 c3]; rfl)
 iterate 7 first|refine Yp rfl ?_|apply Yt|refine S.store tOk rfl rfl rfl rfl rfl rfl rfl rfl ?_|apply Yk|apply Y3|apply Yn
 exact Yz rfl rfl rfl (by rw [ask_0 c1 c2 c3]; rfl)
theorem pc_Setting (m : Mac) (hm : MacA m) (key : L8) (hk : key.length ≤ 2000000) :
  PureCall Tryz.prog J 110 [.agg [.d (.vec 2 (m.fa.map stgD)), .d (.vec 3 (m.fl.map flD)), .d (.vec 2 (m.se.map stgD)), .d (.vec 4 (m.sv.map svD))], .one (.d (.str key))] (.tup [.one (.d (.str (askP Stg.z m (pathB key) (atK (fun x : Stg => x.k) m.se key)).1.v)), .one (.d (.int .i64 (askP Stg.z m (pathB key) (atK (fun x : Stg => x.k) m.se key)).2))]) := by
 refine PureCall.of_body tOk (fn := Tryz.f110) Tryz.func110 (by kernel_rfl) rfl (Nat.le_of_ble_eq_true rfl) (fun E => ?_)
 iterate 9 first|refine Yp rfl ?_|refine S.box rfl rfl rfl rfl ?_|apply Y3|apply Y1
 refine S.call rfl rfl rfl rfl rfl (pc_askSetting m hm m.se hm.se.n (fun h => (chkM_iff.1 h).se.up) key 44 39 (pathB key) (pc_ver_IsPath key (by omega)) (fun s _ => pc_keyOf s)) ?_
 iterate 14 first|refine Yp rfl ?_|apply Yt|refine S.store tOk rfl rfl rfl rfl rfl rfl rfl rfl ?_|refine S.alloc tOk rfl rfl rfl rfl ?_|apply Y3|apply Yn
 exact ⟨_, rfl, rfl, LeV.refl _⟩
theorem pc_File (m : Mac) (hm : MacA m) (key : L8) (hk : key.length ≤ 2000000) :
  PureCall Tryz.prog J 112 [.agg [.d (.vec 2 (m.fa.map stgD)), .d (.vec 3 (m.fl.map flD)), .d (.vec 2 (m.se.map stgD)), .d (.vec 4 (m.sv.map svD))], .one (.d (.str key))] (.tup [.agg [.d (.str (askP Fl.z m (pathB key) (atK (fun x : Fl => x.p) m.fl key)).1.p), .d (.str (askP Fl.z m (pathB key) (atK (fun x : Fl => x.p) m.fl key)).1.d), .d (.bool (askP Fl.z m (pathB key) (atK (fun x : Fl => x.p) m.fl key)).1.r)], .one (.d (.int .i64 (askP Fl.z m (pathB key) (atK (fun x : Fl => x.p) m.fl key)).2))]) := by
 refine PureCall.of_body tOk (fn := Tryz.f112) Tryz.func112 (by kernel_rfl) rfl (Nat.le_of_ble_eq_true rfl) (fun E => ?_)
 iterate 9 first|refine Yp rfl ?_|refine S.alloc tOk rfl rfl rfl rfl ?_|refine S.box rfl rfl rfl rfl ?_|apply Y3|apply Y1
 refine S.call rfl rfl rfl rfl rfl (pc_askFile m hm m.fl hm.fl.n (fun h => (chkM_iff.1 h).fl.up) key 44 169 (pathB key) (pc_ver_IsPath key (by omega)) (fun s _ => pc_pathOf s)) ?_
 iterate 6 first|refine Yp rfl ?_|apply Yt|refine S.store tOk rfl rfl rfl rfl rfl rfl rfl rfl ?_|apply Yn
 exact ⟨_, rfl, rfl, LeV.refl _⟩
theorem pc_Service (m : Mac) (hm : MacA m) (key : L8) (hk : key.length ≤ 2000000) :
  PureCall Tryz.prog J 113 [.agg [.d (.vec 2 (m.fa.map stgD)), .d (.vec 3 (m.fl.map flD)), .d (.vec 2 (m.se.map stgD)), .d (.vec 4 (m.sv.map svD))], .one (.d (.str key))] (.tup [.agg [.d (.str (askP Svc.z m (nameB key) (atK (fun x : Svc => x.n) m.sv key)).1.n), .d (.str (askP Svc.z m (nameB key) (atK (fun x : Svc => x.n) m.sv key)).1.p), .d (.bool (askP Svc.z m (nameB key) (atK (fun x : Svc => x.n) m.sv key)).1.au), .d (.bool (askP Svc.z m (nameB key) (atK (fun x : Svc => x.n) m.sv key)).1.on)], .one (.d (.int .i64 (askP Svc.z m (nameB key) (atK (fun x : Svc => x.n) m.sv key)).2))]) := by
 refine PureCall.of_body tOk (fn := Tryz.f113) Tryz.func113 (by kernel_rfl) rfl (Nat.le_of_ble_eq_true rfl) (fun E => ?_)
 iterate 9 first|refine Yp rfl ?_|refine S.alloc tOk rfl rfl rfl rfl ?_|refine S.box rfl rfl rfl rfl ?_|apply Y3|apply Y1
 refine S.call rfl rfl rfl rfl rfl (pc_askService m hm m.sv hm.sv.n (fun h => (chkM_iff.1 h).sv.up) key 38 47 (nameB key) (pc_ver_IsName key (by omega)) (fun s _ => pc_nameOf s)) ?_
 iterate 6 first|refine Yp rfl ?_|apply Yt|refine S.store tOk rfl rfl rfl rfl rfl rfl rfl rfl ?_|apply Yn
 exact ⟨_, rfl, rfl, LeV.refl _⟩
end
section
open Go Go.RowKit
theorem S.appendV {J : Inv} {k0 : Lens} {E : Env J k0} {P : Program} {T : TypeId → Option TI} {n : Nat} {t : Nat → V} {b : List (List C)} {r : List (Option RowO)} {m : List (List (DV × DV))} {ops : Array Oper} {l : List Oper} {K : St → Prop} {i : Nat} {ty : TypeId} {pos : String} {after : Array Edge}
    (hT : TabOk P T) {tt e : TypeId} {ti ei : TI} {x y : Operand} {ri ver sz ln : Nat} {al : Bool} {te : TypeId} {xs news ys : List (List D)} {r' : List (Option RowO)} (hti : T tt = some ti) (hd : ti.desc = .slice e) (hei : T e = some ei)
    (hz : ei.zero.cells.size = ei.size) (hpos : Nat.blt 0 ei.size = true) (hby : Nat.ble ei.bytes 4096 = true) (hx : opd n ⟨t, b, r, m⟩ x = (true, .one (.row ri ver 0 ln))) (hy : opd n ⟨t, b, r, m⟩ y = (true, .one (.d (.vec sz news))))
    (hq : r[ri]? = some (some ⟨al, ver, sz, te, xs⟩)) (hln : ln = xs.length) (hsz : sz = ei.size) (hty : te = e) (hlen : xs.length + news.length ≤ 34359738368)
    (hys : xs ++ news = ys) (hr : forceL (r.set ri none) = some r')
    (k : WL E P n ops l K ⟨upd t i (.one (.d (.vec sz ys))), b, r', m⟩) : WL E P n ops (⟨some i, .call ⟨.builtin .append, #[x, y], #[tt, tt]⟩, ty, pos, after, none⟩ :: l) K ⟨t, b, r, m⟩ := by
  obtain rfl := forceL_eq hr
  have hlt : ri < r.length := (List.getElem?_eq_some_iff.1 hq).1
  refine Step.weak (K := fun s1 => s1 = ⟨upd t i (.one (.row ri (ver + 1) 0 ys.length)), b, r.set ri (some ⟨al || !news.isEmpty, ver + 1, sz, te, ys⟩), m⟩)
    (S.append (l := []) (r' := r.set ri (some ⟨al || !news.isEmpty, ver + 1, sz, te, ys⟩)) hT hti hd hei hz hpos hby hx hy hq hln hsz hty hlen rfl hys (forceL_self _) rfl) (fun s g a w hs rel => ?_)
  subst hs
  obtain ⟨g', rel'⟩ := rel.freezeRow (ri := ri) (q := ⟨al || !news.isEmpty, ver + 1, sz, te, ys⟩) [i] (by simp [hlt]) (fun k hk => by
    simp at hk; subst hk; simp [upd])
  refine ⟨g', _, ?_, rel'⟩
  have e : updL (upd t i (.one (.row ri (ver + 1) 0 ys.length))) [i] (.one (.d (.vec sz ys))) = upd t i (.one (.d (.vec sz ys))) := by
    funext j
    simp only [updL, upd]
    cases i.beq j <;> rfl
  simp only [List.set_set]
  rw [e]
  exact k
end
section
open Go Go.Sort
def flB (a b : Fl) : Bool := (a.p == b.p) && ((a.d == b.d) && ((a.r == b.r) && true))
theorem flB_iff {a b : Fl} : flB a b = true ↔ a = b := by
 obtain ⟨p, d, r⟩ := a
 obtain ⟨q, e, s⟩ := b
 unfold flB
 simp
abbrev kyS : Stg → L8 := fun x => x.k
abbrev kyF : Fl → L8 := fun x => x.p
abbrev kyV : Svc → L8 := fun x => x.n
def svcOn (x : Svc) (on : Bool) : Svc := ⟨x.n, x.p, x.au, on⟩
def chgQ (m : Mac) (s : Stq) : Chm × Bool × Int :=
 if s.k == 1 then (⟨3, Fl.z, ⟨s.n, s.v⟩, Svc.z⟩, !((askP Stg.z m (pathB s.n) (atK kyS m.se s.n)).2 == 0) || !((askP Stg.z m (pathB s.n) (atK kyS m.se s.n)).1.v == s.v), 0)
 else if s.k == 2 then (⟨4, Fl.z, ⟨s.n, []⟩, Svc.z⟩, (askP Stg.z m (pathB s.n) (atK kyS m.se s.n)).2 == 0, 0)
 else if s.k == 3 then (⟨1, ⟨s.n, s.v ++ [10], false⟩, Stg.z, Svc.z⟩, !m.fl.any (fun f => flB ⟨s.n, s.v ++ [10], false⟩ f), 0)
 else if s.k == 4 then (⟨2, ⟨s.n, [], false⟩, Stg.z, Svc.z⟩, (askP Fl.z m (pathB s.n) (atK kyF m.fl s.n)).2 == 0, 0)
 else if (askP Svc.z m (nameB s.n) (atK kyV m.sv s.n)).2 != 0 then (Chm.z, false, (askP Svc.z m (nameB s.n) (atK kyV m.sv s.n)).2)
 else (⟨5, Fl.z, Stg.z, svcOn (askP Svc.z m (nameB s.n) (atK kyV m.sv s.n)).1 (s.k == 5)⟩, !((askP Svc.z m (nameB s.n) (atK kyV m.sv s.n)).1.on == (s.k == 5)), 0)
def refQ (m : Mac) (s : Stq) : Chm × Bool × Int :=
 if s.k == 1 then (⟨3, Fl.z, ⟨s.n, s.v⟩, Svc.z⟩, !hasL beqS (tabOf m.se) s.n || !(getL beqS [] (tabOf m.se) s.n == s.v), 0)
 else if s.k == 2 then (⟨4, Fl.z, ⟨s.n, []⟩, Svc.z⟩, hasL beqS (tabOf m.se) s.n, 0)
 else if s.k == 3 then (⟨1, ⟨s.n, s.v ++ [10], false⟩, Stg.z, Svc.z⟩, decide (idxOf (fun f : Fl => f.p == s.n) m.fl < 0) || !flB (m.fl.getD (idxOf (fun f : Fl => f.p == s.n) m.fl).toNat Fl.z) ⟨s.n, s.v ++ [10], false⟩, 0)
 else if s.k == 4 then (⟨2, ⟨s.n, [], false⟩, Stg.z, Svc.z⟩, decide (idxOf (fun f : Fl => f.p == s.n) m.fl ≥ 0), 0)
 else if decide (idxOf (fun x : Svc => x.n == s.n) m.sv < 0) then (Chm.z, false, 10)
 else (⟨5, Fl.z, Stg.z, svcOn (m.sv.getD (idxOf (fun x : Svc => x.n == s.n) m.sv).toNat Svc.z) (s.k == 5)⟩, !((m.sv.getD (idxOf (fun x : Svc => x.n == s.n) m.sv).toNat Svc.z).on == (s.k == 5)), 0)
theorem idx_find {β : Type} {φ : β → Bool} (z : β) : ∀ l : List β, (idxOf φ l = -1 ∧ l.find? φ = none) ∨ (∃ i : Nat, idxOf φ l = (i : Int) ∧ i < l.length ∧ l.find? φ = some (l.getD i z))
  | [] => .inl ⟨rfl, rfl⟩
  | x :: l => by
    unfold idxOf
    rw [List.find?_cons]
    by_cases h : φ x = true
    · rw [if_pos h, h]
      exact .inr ⟨0, rfl, by simp, rfl⟩
    · rw [if_neg h, Bool.eq_false_iff.2 h]
      rcases idx_find z l with ⟨h1, h2⟩ | ⟨i, h1, h2, h3⟩
      · rw [h1]; exact .inl ⟨rfl, h2⟩
      · rw [h1, if_neg (by rw [beq_iff_eq]; omega)]
        refine .inr ⟨i + 1, rfl, by simp; omega, ?_⟩
        show l.find? φ = some (l.getD i z)
        exact h3
theorem step_kinds {s : Stq} (h : stpE s = 0) : (1 ≤ s.k ∧ s.k ≤ 6) ∧ (s.k ≤ 4 → pathB s.n = true) ∧ (5 ≤ s.k → nameB s.n = true) ∧ valueB s.v = true := by
 cases h1 : (decide (s.k < 1) || decide (s.k > 6)) with
 | true => rw [st_1 h1] at h; cases h
 | false =>
 cases h2 : (!(if decide (s.k ≥ 5) then nameB s.n else pathB s.n)) with
 | true => rw [st_5 h1 h2] at h; cases h
 | false =>
 cases h3 : ((s.k == 3 || s.k == 4) && ownP s.n) with
 | true => rw [st_17 h1 h2 h3] at h; cases h
 | false =>
 cases h4 : (!valueB s.v || ((!(s.v == []) && !(s.k == 1)) && !(s.k == 3))) with
 | true => rw [st_w h1 h2 h3 h4] at h; cases h
 | false =>
 simp only [Bool.or_eq_false_iff, decide_eq_false_iff_not] at h1
 simp only [Bool.or_eq_false_iff] at h4
 refine ⟨by omega, fun hk => ?_, fun hk => ?_, by simpa using h4.1⟩
 ·skip
  rw [if_neg (by simp; omega)] at h2; simpa using h2
 ·skip
  rw [if_pos (by simp; omega)] at h2; simpa using h2
theorem ask_is {β : Type} {z : β} {m : Mac} {ok : Bool} {o : Option β} (hm : chkM m = 0) (hok : ok = true) : askP z m ok o = if o.isSome then (o.getD z, 0) else (z, 10) := by
 unfold askP; rw [if_neg (by rw [hm]; decide), hok]; rfl
theorem at_tab {l : List Stg} (hu : l.Pairwise fun a b => a.k < b.k) (q : L8) : lk (tabOf l) q = (atK kyS l q).map (·.v) := by
 have := tab_lk (up_nd hu) l.length (Nat.le_refl _) q
 rwa [List.take_length] at this
theorem any_at {l : List Fl} (hu : l.Pairwise fun a b => a.p < b.p) (f : Fl) : l.any (fun g => flB f g) = match atK kyF l f.p with | some g => flB g f | none => false := by
  cases h : atK kyF l f.p with
  | none =>
    show l.any _ = false
    rw [List.any_eq_false]
    intro g hg he
    have := flB_iff.1 he
    subst this
    unfold atK at h
    rw [List.find?_eq_none] at h
    exact h f hg (by simp)
  | some g =>
    show l.any _ = flB g f
    have h1 := List.find?_some h
    have h2 := List.mem_of_find?_eq_some h
    rw [Bool.eq_iff_iff, List.any_eq_true]
    constructor
    · rintro ⟨x, hx, he⟩
      have := flB_iff.1 he
      subst this
      obtain ⟨i, hi, rfl⟩ := List.getElem_of_mem hx
      have := atK_at (ky := kyF) (z := Fl.z) (key := l[i].p) hu hi (by simp [List.getD_eq_getElem?_getD, hi])
      rw [h] at this
      have e : l.getD i Fl.z = l[i] := by simp [List.getD_eq_getElem?_getD, hi]
      rw [e] at this
      rw [Option.some.inj this]
      exact flB_iff.2 rfl
    · intro he
      have := flB_iff.1 he
      subst this
      exact ⟨g, h2, flB_iff.2 rfl⟩
theorem chg_ref {m : Mac} {s : Stq} (hm : chkM m = 0) (hs : stpE s = 0) : chgQ m s = refQ m s := by
  have hk := chkM_iff.1 hm
  obtain ⟨h1, h2, h3, _⟩ := step_kinds hs
  have hc : s.k = 1 ∨ s.k = 2 ∨ s.k = 3 ∨ s.k = 4 ∨ s.k = 5 ∨ s.k = 6 := by omega
  have hset : ∀ q, hasL beqS (tabOf m.se) q = (atK kyS m.se q).isSome ∧ getL beqS [] (tabOf m.se) q = ((atK kyS m.se q).map (·.v)).getD [] := fun q => by
    rw [has_lk, get_lk, at_tab hk.se.up]
    exact ⟨by cases atK kyS m.se q <;> rfl, rfl⟩
  unfold chgQ refQ
  rcases hc with e | e | e | e | e | e <;> rw [e]
  · rw [ask_is hm (h2 (by omega)), (hset s.n).1, (hset s.n).2]
    cases atK kyS m.se s.n <;> rfl
  · rw [ask_is hm (h2 (by omega)), (hset s.n).1]
    cases atK kyS m.se s.n <;> rfl
  · show ((_, _, _) : Chm × Bool × Int) = (_, _, _)
    rw [any_at hk.fl.up ⟨s.n, s.v ++ [10], false⟩]
    show ((_, !(match atK kyF m.fl s.n with | some g => flB g _ | none => false), _) : Chm × Bool × Int) = _
    rcases idx_find (φ := fun f : Fl => f.p == s.n) Fl.z m.fl with ⟨q1, q2⟩ | ⟨i, q1, q2, q3⟩
    · have q2 : atK kyF m.fl s.n = none := q2
      rw [q1, q2]; rfl
    · have q3 : atK kyF m.fl s.n = some (m.fl.getD i Fl.z) := q3
      rw [q1, q3, Int.toNat_natCast, show decide ((i : Int) < 0) = false from by simp]; rfl
  · rw [ask_is (z := Fl.z) hm (h2 (by omega))]
    show ((_, _, _) : Chm × Bool × Int) = (_, decide (idxOf (fun f : Fl => f.p == s.n) m.fl ≥ 0), _)
    rcases idx_find (φ := fun f : Fl => f.p == s.n) Fl.z m.fl with ⟨q1, q2⟩ | ⟨i, q1, q2, q3⟩
    · have q2 : atK kyF m.fl s.n = none := q2
      rw [q1, q2]; rfl
    · have q3 : atK kyF m.fl s.n = some (m.fl.getD i Fl.z) := q3
      rw [q1, q3, show decide ((i : Int) ≥ 0) = true from by simp]; rfl
  · rw [ask_is (z := Svc.z) hm (h3 (by omega))]
    rcases idx_find (φ := fun x : Svc => x.n == s.n) Svc.z m.sv with ⟨q1, q2⟩ | ⟨i, q1, q2, q3⟩
    · have q2 : atK kyV m.sv s.n = none := q2
      rw [q1, q2]; rfl
    · have q3 : atK kyV m.sv s.n = some (m.sv.getD i Svc.z) := q3
      rw [q1, q3, Int.toNat_natCast, show decide ((i : Int) < 0) = false from by simp]; rfl
  · rw [ask_is (z := Svc.z) hm (h3 (by omega))]
    rcases idx_find (φ := fun x : Svc => x.n == s.n) Svc.z m.sv with ⟨q1, q2⟩ | ⟨i, q1, q2, q3⟩
    · have q2 : atK kyV m.sv s.n = none := q2
      rw [q1, q2]; rfl
    · have q3 : atK kyV m.sv s.n = some (m.sv.getD i Svc.z) := q3
      rw [q1, q3, Int.toNat_natCast, show decide ((i : Int) < 0) = false from by simp]; rfl
def doP (m : Mac) (s : Stq) : List Chm × Int :=
 if chkM m != 0 then ([], chkM m) else if stpE s != 0 then ([], stpE s) else if (chgQ m s).2.2 != 0 || !(chgQ m s).2.1 then ([], (chgQ m s).2.2)
 else if (appP m [(chgQ m s).1]).2 != 0 then ([], (appP m [(chgQ m s).1]).2) else ([(chgQ m s).1], 0)
def doA : List Chm → Mac → List Stq → Nat → List Chm × Nat × Int
 | o, m, [], i => (o, i, 0)
 | o, m, s :: l, i =>
  if (doP m s).2 != 0 then ([], i, (doP m s).2) else if (appP m (doP m s).1).2 != 0 then ([], i, (appP m (doP m s).1).2) else doA (o ++ (doP m s).1) (appP m (doP m s).1).1 l (i + 1)
def doAllP (m : Mac) (l : List Stq) : List Chm × Nat × Int := if chkM m != 0 then ([], 0, chkM m) else doA [] m l 0
def Stq.z : Stq := ⟨0, [], []⟩
section
variable {m : Mac} {s : Stq}
theorem dp_1 (h : (chkM m != 0) = true) : doP m s = ([], chkM m) := if_pos h
variable (h : (chkM m != 0) = false)
include h
theorem dp_2 (h2 : (stpE s != 0) = true) : doP m s = ([], stpE s) := by unfold doP; rw [if_neg (Bool.eq_false_iff.1 h), if_pos h2]
variable (h2 : (stpE s != 0) = false)
include h2
theorem dp_3 (h3 : ((chgQ m s).2.2 != 0 || !(chgQ m s).2.1) = true) : doP m s = ([], (chgQ m s).2.2) := by unfold doP; rw [if_neg (Bool.eq_false_iff.1 h), if_neg (Bool.eq_false_iff.1 h2), if_pos h3]
variable (h3 : ((chgQ m s).2.2 != 0 || !(chgQ m s).2.1) = false)
include h3
theorem dp_4 (h4 : ((appP m [(chgQ m s).1]).2 != 0) = true) : doP m s = ([], (appP m [(chgQ m s).1]).2) := by
 unfold doP; rw [if_neg (Bool.eq_false_iff.1 h), if_neg (Bool.eq_false_iff.1 h2), if_neg (Bool.eq_false_iff.1 h3), if_pos h4]
theorem dp_5 (h4 : ((appP m [(chgQ m s).1]).2 != 0) = false) : doP m s = ([(chgQ m s).1], 0) := by
 unfold doP; rw [if_neg (Bool.eq_false_iff.1 h), if_neg (Bool.eq_false_iff.1 h2), if_neg (Bool.eq_false_iff.1 h3), if_neg (Bool.eq_false_iff.1 h4)]
end
theorem dp_in {m : Mac} {s : Stq} {c : Chm} (h : c ∈ (doP m s).1) : chkM m = 0 ∧ stpE s = 0 ∧ c = (chgQ m s).1 := by
 unfold doP at h
 split at h
 ·skip
  cases h
 ·skip
  rename_i h1
  split at h
  ·skip
   cases h
  ·skip
   rename_i h2
   split at h
   ·skip
    cases h
   ·skip
    split at h
    ·skip
     cases h
    ·skip
     rw [ne0, Classical.not_not] at h1 h2
     exact ⟨h1, h2, by simpa using h⟩
theorem dp_len (m : Mac) (s : Stq) : (doP m s).1.length ≤ 1 := by unfold doP; repeat' split <;> try simp
theorem app_do {m : Mac} {s : Stq} (h : chkM m = 0) (hz : (appP m (doP m s).1).2 = 0) : chkM (appP m (doP m s).1).1 = 0 := by
 have hl := dp_len m s
 match hd : (doP m s).1 with
 | [] => rw [app_nil h]; exact h
 | [c] => rw [hd] at hz; exact app_one h hz
 | _ :: _ :: _ => rw [hd] at hl; simp at hl
section
variable {o : List Chm} {m : Mac} {l : List Stq} {i : Nat}
theorem da_end (hi : l.length ≤ i) : doA o m (l.drop i) i = (o, i, 0) := by rw [List.drop_eq_nil_of_le hi]; rfl
variable (hi : i < l.length)
include hi
theorem da_at : l.drop i = l.getD i Stq.z :: l.drop (i + 1) := by rw [List.drop_eq_getElem_cons hi]; simp [List.getD_eq_getElem?_getD, hi]
theorem da_e (h : ((doP m (l.getD i Stq.z)).2 != 0) = true) : doA o m (l.drop i) i = ([], i, (doP m (l.getD i Stq.z)).2) := by
 rw [da_at hi]; exact if_pos h
theorem da_f (h : ((doP m (l.getD i Stq.z)).2 != 0) = false) (h2 : ((appP m (doP m (l.getD i Stq.z)).1).2 != 0) = true) : doA o m (l.drop i) i = ([], i, (appP m (doP m (l.getD i Stq.z)).1).2) := by
 rw [da_at hi]; unfold doA; rw [if_neg (Bool.eq_false_iff.1 h), if_pos h2]
theorem da_s (h : ((doP m (l.getD i Stq.z)).2 != 0) = false) (h2 : ((appP m (doP m (l.getD i Stq.z)).1).2 != 0) = false) :
  doA o m (l.drop i) i = doA (o ++ (doP m (l.getD i Stq.z)).1) (appP m (doP m (l.getD i Stq.z)).1).1 (l.drop (i + 1)) (i + 1) := by
 rw [da_at hi]
 exact (if_neg (Bool.eq_false_iff.1 h)).trans (if_neg (Bool.eq_false_iff.1 h2))
end
end
section
open Go Go.Sort
structure FlL (f : Fl) : Prop where
 p : f.p.length ≤ 2000000
 d : f.d.length ≤ 2000000
structure ChmA (c : Chm) : Prop where
 f : FlL c.f
 sk : c.s.k.length ≤ 2000000
 sv : c.s.v.length ≤ 2000000
 vn : c.v.n.length ≤ 2000000
 vp : c.v.p.length ≤ 2000000
section
variable {c : Chm}
theorem ce_k (h1 : (c.k == 1) = false) (h2 : (c.k == 2) = false) (h3 : (c.k == 3) = false) (h4 : (c.k == 4) = false) (h5 : (c.k == 5) = false) (h6 : (c.k == 6) = false) : chgE c = 1 := by
 unfold chgE
 simp only [beq_eq_false_iff_ne, ne_eq] at *
 rw [if_pos (by simp only [Bool.or_eq_true, decide_eq_true_eq]; omega)]
theorem ce_r {e : Int} {q : Bool} (hk : 1 ≤ c.k ∧ c.k ≤ 6) (he : errC c = e) (hq : (!chmB c (keptC c)) = q) : chgE c = if (e == 0) && q then 2 else e := by
 unfold chgE
 rw [if_neg (by simp only [Bool.or_eq_true, decide_eq_true_eq]; omega), he, hq]
theorem ce_2 {e : Int} {q : Bool} (h : chgE c = if (e == 0) && q then 2 else e) (c2 : ((e == 0) && q) = true) : chgE c = 2 := by rw [h, if_pos c2]
theorem ce_e {e : Int} {q : Bool} (h : chgE c = if (e == 0) && q then 2 else e) (c2 : ((e == 0) && q) = false) : chgE c = e := by rw [h, if_neg (Bool.eq_false_iff.1 c2)]
theorem e_1 (h : (c.k == 1) = true) : errC c = flO c.f ∧ keptC c = ⟨c.k, c.f, Stg.z, Svc.z⟩ ∧ 1 ≤ c.k ∧ c.k ≤ 6 := by
 have := beq_iff_eq.1 h; exact ⟨by unfold errC; exact if_pos h, by unfold keptC; exact if_pos h, by omega, by omega⟩
theorem e_2 (h : (c.k == 2) = true) : errC c = flO ⟨c.f.p, [], false⟩ ∧ keptC c = ⟨c.k, ⟨c.f.p, [], false⟩, Stg.z, Svc.z⟩ ∧ 1 ≤ c.k ∧ c.k ≤ 6 := by
 have h := beq_iff_eq.1 h; unfold errC keptC; rw [h]; exact ⟨rfl, rfl, by decide, by decide⟩
theorem e_3 (h : (c.k == 3) = true) : errC c = stgO (pathB c.s.k) c.s ∧ keptC c = ⟨c.k, Fl.z, c.s, Svc.z⟩ ∧ 1 ≤ c.k ∧ c.k ≤ 6 := by
 have h := beq_iff_eq.1 h; unfold errC keptC; rw [h]; exact ⟨rfl, rfl, by decide, by decide⟩
theorem e_4 (h : (c.k == 4) = true) : errC c = stgO (pathB c.s.k) ⟨c.s.k, []⟩ ∧ keptC c = ⟨c.k, Fl.z, ⟨c.s.k, []⟩, Svc.z⟩ ∧ 1 ≤ c.k ∧ c.k ≤ 6 := by
 have h := beq_iff_eq.1 h; unfold errC keptC; rw [h]; exact ⟨rfl, rfl, by decide, by decide⟩
theorem e_5 (h : (c.k == 5) = true) : errC c = svO c.v ∧ keptC c = ⟨c.k, Fl.z, Stg.z, c.v⟩ ∧ 1 ≤ c.k ∧ c.k ≤ 6 := by
 have h := beq_iff_eq.1 h; unfold errC keptC; rw [h]; exact ⟨rfl, rfl, by decide, by decide⟩
theorem e_6 (h : (c.k == 6) = true) : errC c = (if !nameB c.v.n then 5 else 0) ∧ keptC c = ⟨c.k, Fl.z, Stg.z, ⟨c.v.n, [], false, false⟩⟩ ∧ 1 ≤ c.k ∧ c.k ≤ 6 := by
 have h := beq_iff_eq.1 h; unfold errC keptC; rw [h]; exact ⟨rfl, rfl, by decide, by decide⟩
end
structure BnA (b : Bn) : Prop where
 t : b.T.length ≤ 8000000
 s : b.S.length ≤ 8000000
 v : b.V.length ≤ 8000000
section
variable {b : Bn} {c : Chm} {g q : Bool}
theorem fo_of (hk : (c.k == 1 && confB b c.f.p) = false) (hg : gnB b c = g) (hm : manyB b c = q) : fltB b c = if g then 10 else if q then 4 else 0 := by
 unfold fltB; rw [if_neg (Bool.eq_false_iff.1 hk), hg, hm]
theorem fo_11 (h : (c.k == 1) = true) (h2 : confB b c.f.p = true) : fltB b c = 11 := by unfold fltB; rw [h, h2]; rfl
theorem fo_1 (h : (c.k == 1) = true) (h2 : confB b c.f.p = false) (hm : (!hasL beqS b.T c.f.p && decide ((b.T.length : Int) + 1 > 2000)) = q) : fltB b c = if false then 10 else if q then 4 else 0 := by
 refine fo_of (by rw [h2, Bool.and_false]) ?_ ?_
 ·skip
  have h := beq_iff_eq.1 h; unfold gnB; rw [h]; rfl
 ·skip
  rw [← hm]; unfold manyB; rw [if_pos h]
theorem fo_k {n : Int} (h : (c.k == n) = true) (hn : n ≠ 1) : (c.k == 1 && confB b c.f.p) = false := by
 have h := beq_iff_eq.1 h
 rw [h, beq_eq_false_iff_ne.2 hn]; rfl
theorem fo_2 (h : (c.k == 2) = true) : fltB b c = if !hasL beqS b.T c.f.p then 10 else if decide ((0 : Int) > 1) then 4 else 0 := by
 refine fo_of (fo_k h (by decide)) ?_ ?_ <;> (have h := beq_iff_eq.1 h; first | (unfold gnB; rw [h]; rfl) | (unfold manyB; rw [h]; rfl))
theorem fo_3 (h : (c.k == 3) = true) (hm : (!hasL beqS b.S c.s.k && decide ((b.S.length : Int) + 1 > 2000)) = q) : fltB b c = if false then 10 else if q then 4 else 0 := by
 refine fo_of (fo_k h (by decide)) ?_ ?_
 ·skip
  have h := beq_iff_eq.1 h; unfold gnB; rw [h]; rfl
 ·skip
  rw [← hm]; have h := beq_iff_eq.1 h; unfold manyB; rw [h]; rfl
theorem fo_4 (h : (c.k == 4) = true) : fltB b c = if !hasL beqS b.S c.s.k then 10 else if decide ((0 : Int) > 1) then 4 else 0 := by
 refine fo_of (fo_k h (by decide)) ?_ ?_ <;> (have h := beq_iff_eq.1 h; first | (unfold gnB; rw [h]; rfl) | (unfold manyB; rw [h]; rfl))
theorem fo_5 (h : (c.k == 5) = true) (hm : (!hasL beqS b.V c.v.n && decide ((b.V.length : Int) + 1 > 100)) = q) : fltB b c = if false then 10 else if q then 4 else 0 := by
 refine fo_of (fo_k h (by decide)) ?_ ?_
 ·skip
  have h := beq_iff_eq.1 h; unfold gnB; rw [h]; rfl
 ·skip
  rw [← hm]; have h := beq_iff_eq.1 h; unfold manyB; rw [h]; rfl
theorem fo_6 (h : (c.k == 6) = true) : fltB b c = if !hasL beqS b.V c.v.n then 10 else if decide ((0 : Int) > 1) then 4 else 0 := by
 refine fo_of (fo_k h (by decide)) ?_ ?_ <;> (have h := beq_iff_eq.1 h; first | (unfold gnB; rw [h]; rfl) | (unfold manyB; rw [h]; rfl))
theorem fo_n (h1 : (c.k == 1) = false) (h2 : (c.k == 2) = false) (h3 : (c.k == 3) = false) (h4 : (c.k == 4) = false) (h5 : (c.k == 5) = false) (h6 : (c.k == 6) = false) : fltB b c = if false then 10 else if decide ((0 : Int) > 1) then 4 else 0 := by
 refine fo_of (by rw [h1]; rfl) ?_ ?_
 ·skip
  unfold gnB; rw [h2, h4, h6]; rfl
 ·skip
  unfold manyB; rw [h1, h3, h5]; rfl
theorem mny_t {h : Bool} {x : Int} {k : Int} (c1 : (!h) = true) : (!h && decide (x > k)) = decide (x > k) := by rw [c1, Bool.true_and]
theorem mny_f {h : Bool} {x : Int} {k : Int} (c1 : (!h) = false) : (!h && decide (x > k)) = decide ((0 : Int) > 1) := by rw [c1]; rfl
theorem ft_g (hF : fltB b c = if g then 10 else if q then 4 else 0) (h : g = true) : fltB b c = 10 := by rw [hF, h]; rfl
theorem ft_m (hF : fltB b c = if g then 10 else if q then 4 else 0) (h : g = false) (h2 : q = true) : fltB b c = 4 := by rw [hF, h, h2]; rfl
theorem ft_o (hF : fltB b c = if g then 10 else if q then 4 else 0) (h : g = false) (h2 : q = false) : fltB b c = 0 := by rw [hF, h, h2]; rfl
end
section
variable {b : Bn} {c : Chm}
theorem do_a (h : (chgE c != 0) = true) : doB b c = (b, chgE c) := if_pos h
theorem do_b (h : (chgE c != 0) = false) (h2 : (fltB b c != 0) = true) : doB b c = (b, fltB b c) := by unfold doB; rw [if_neg (Bool.eq_false_iff.1 h), if_pos h2]
variable (h : (chgE c != 0) = false) (h2 : (fltB b c != 0) = false)
include h h2
theorem do_c : doB b c = (actB b c, 0) := by unfold doB; rw [if_neg (Bool.eq_false_iff.1 h), if_neg (Bool.eq_false_iff.1 h2)]
theorem do_k1 (hk : (c.k == 1) = true) : doB b c = (⟨b.fa, (putQ (b.T, b.U) c.f).1, (putQ (b.T, b.U) c.f).2, b.S, b.V⟩, 0) := by rw [do_c h h2]; have hk := beq_iff_eq.1 hk; unfold actB; rw [hk]; rfl
theorem do_k2 (hk : (c.k == 2) = true) : doB b c = (⟨b.fa, delL beqS b.T c.f.p, cntU b.U c.f.p (-1), b.S, b.V⟩, 0) := by rw [do_c h h2]; have hk := beq_iff_eq.1 hk; unfold actB; rw [hk]; rfl
theorem do_k3 (hk : (c.k == 3) = true) : doB b c = (⟨b.fa, b.T, b.U, setL beqS b.S c.s.k c.s, b.V⟩, 0) := by rw [do_c h h2]; have hk := beq_iff_eq.1 hk; unfold actB; rw [hk]; rfl
theorem do_k4 (hk : (c.k == 4) = true) : doB b c = (⟨b.fa, b.T, b.U, delL beqS b.S c.s.k, b.V⟩, 0) := by rw [do_c h h2]; have hk := beq_iff_eq.1 hk; unfold actB; rw [hk]; rfl
theorem do_k5 (hk : (c.k == 5) = true) : doB b c = (⟨b.fa, b.T, b.U, b.S, setL beqS b.V c.v.n c.v⟩, 0) := by rw [do_c h h2]; have hk := beq_iff_eq.1 hk; unfold actB; rw [hk]; rfl
theorem do_k6 (hk : (c.k == 6) = true) : doB b c = (⟨b.fa, b.T, b.U, b.S, delL beqS b.V c.v.n⟩, 0) := by rw [do_c h h2]; have hk := beq_iff_eq.1 hk; unfold actB; rw [hk]; rfl
theorem do_k0 (h1 : (c.k == 1) = false) (h2 : (c.k == 2) = false) (h3 : (c.k == 3) = false) (h4 : (c.k == 4) = false) (h5 : (c.k == 5) = false) (h6 : (c.k == 6) = false) : doB b c = (b, 0) := by
 rw [do_c h (by assumption)]; unfold actB; rw [h1, h2, h3, h4, h5, h6]; rfl
end
theorem do_len {b : Bn} {c : Chm} : (doB b c).1.T.length ≤ b.T.length + 1 ∧ (doB b c).1.S.length ≤ b.S.length + 1 ∧ (doB b c).1.V.length ≤ b.V.length + 1 := by
 have h1 := setG_le b.T c.f.p c.f
 have h2 := setG_le b.S c.s.k c.s
 have h3 := setG_le b.V c.v.n c.v
 have h4 := delG_le b.T c.f.p
 have h5 := delG_le b.S c.s.k
 have h6 := delG_le b.V c.v.n
 unfold doB
 split
 ·skip
  exact ⟨Nat.le_succ _, Nat.le_succ _, Nat.le_succ _⟩
 ·skip
  split
  ·skip
   exact ⟨Nat.le_succ _, Nat.le_succ _, Nat.le_succ _⟩
  ·skip
   show (actB b c).T.length ≤ _ ∧ (actB b c).S.length ≤ _ ∧ (actB b c).V.length ≤ _
   unfold actB
   repeat' split
   all_goals (refine ⟨?_, ?_, ?_⟩ <;> first | exact Nat.le_succ _ | exact h1 | exact h2 | exact h3 | exact Nat.le_trans h4 (Nat.le_succ _) | exact Nat.le_trans h5 (Nat.le_succ _) | exact Nat.le_trans h6 (Nat.le_succ _))
def filTo (l : List Fl) (i : Nat) : TabG Fl × TabG Int := filB (l.take i)
theorem fil_s {l : List Fl} {i : Nat} (hi : i < l.length) : putQ ((filTo l i).1, (filTo l i).2) (l.getD i Fl.z) = filTo l (i + 1) := by
 unfold filTo filB; rw [take_getD (d := Fl.z) hi, List.foldl_append]; rfl
theorem fil_end (l : List Fl) : filTo l l.length = filB l := by unfold filTo; rw [List.take_length]
theorem tab_end {β : Type} (key : β → L8) (l : List β) : tabToG key l l.length = tabG key l := by unfold tabToG; rw [List.take_length]
theorem FlA.at {l : List Fl} (h : FlA l) {f : Fl} (hf : f ∈ l) : FlL f := ⟨(h.s f hf).1, (h.s f hf).2⟩
structure BnK (b : Bn) : Prop where
 fa : b.fa.length ≤ 2000000
 t : ndG b.T
 s : ndG b.S
 v : ndG b.V
 tl : ∀ x ∈ b.T, x.1.length ≤ 2000000
 sl : ∀ x ∈ b.S, x.1.length ≤ 2000000
 vl : ∀ x ∈ b.V, x.1.length ≤ 2000000
theorem keyl_set {β : Type} {t : TabG β} {k : L8} {v : β} (h : ∀ x ∈ t, x.1.length ≤ 2000000) (hk : k.length ≤ 2000000) : ∀ x ∈ setL beqS t k v, x.1.length ≤ 2000000 := fun x hx => by
 rcases set_in x hx with rfl | hx
 ·skip
  exact hk
 ·skip
  exact h x hx
theorem keyl_del {β : Type} {t : TabG β} {k : L8} (h : ∀ x ∈ t, x.1.length ≤ 2000000) : ∀ x ∈ delL beqS t k, x.1.length ≤ 2000000 := fun x hx => h x ((delG_sub t k).subset hx)
theorem keyl_tab {β : Type} {key : β → L8} : ∀ (l : List β) {t : TabG β}, (∀ x ∈ t, x.1.length ≤ 2000000) → (∀ y ∈ l, (key y).length ≤ 2000000) → ∀ x ∈ l.foldl (fun t x => setL beqS t (key x) x) t, x.1.length ≤ 2000000
 | [], t, h, _ => h
 | y :: l, t, h, hl => keyl_tab l (keyl_set h (hl y List.mem_cons_self)) (fun y hy => hl y (List.mem_cons_of_mem _ hy))
theorem bn_len {m : Mac} (hm : MacA m) : (bnOf m).T.length ≤ 2000000 ∧ (bnOf m).S.length ≤ 2000000 ∧ (bnOf m).V.length ≤ 2000000 := by
 have h1 : (bnOf m).T.length ≤ m.fl.length := by show (filB m.fl).1.length ≤ _; rw [filB_1]; exact tabG_le _ _
 have h2 : (bnOf m).S.length ≤ m.se.length := tabG_le _ _
 have h3 : (bnOf m).V.length ≤ m.sv.length := tabG_le _ _
 have h4 := hm.fl.n; have h5 := hm.se.n; have h6 := hm.sv.n
 exact ⟨by omega, by omega, by omega⟩
theorem bn_K {m : Mac} (hm : MacA m) : BnK (bnOf m) where
 fa := hm.fa.n
 t := by show ndG (filB m.fl).1; rw [filB_1]; exact tabG_ndT _ _
 s := tabG_ndT _ _
 v := tabG_ndT _ _
 tl := by show ∀ x ∈ (filB m.fl).1, _; rw [filB_1]; exact keyl_tab m.fl (by simp) fun f hf => (hm.fl.s f hf).1
 sl := keyl_tab m.se (by simp) fun f hf => (hm.se.s f hf).1
 vl := keyl_tab m.sv (by simp) fun f hf => (hm.sv.s f hf).1
theorem do_K {b : Bn} {c : Chm} (h : BnK b) (hc : ChmA c) : BnK (doB b c).1 := by
 unfold doB
 split
 ·skip
  exact h
 ·skip
  split
  ·skip
   exact h
  ·skip
   show BnK (actB b c)
   unfold actB
   split
   ·skip
    exact ⟨h.fa, ndG_set h.t _ _, h.s, h.v, keyl_set h.tl hc.f.p, h.sl, h.vl⟩
   ·skip
    split
    ·skip
     exact ⟨h.fa, ndG_del h.t _, h.s, h.v, keyl_del h.tl, h.sl, h.vl⟩
    ·skip
     split
     ·skip
      exact ⟨h.fa, h.t, ndG_set h.s _ _, h.v, h.tl, keyl_set h.sl hc.sk, h.vl⟩
     ·skip
      split
      ·skip
       exact ⟨h.fa, h.t, ndG_del h.s _, h.v, h.tl, keyl_del h.sl, h.vl⟩
      ·skip
       split
       ·skip
        exact ⟨h.fa, h.t, h.s, ndG_set h.v _ _, h.tl, h.sl, keyl_set h.vl hc.vn⟩
       ·skip
        split
        ·skip
         exact ⟨h.fa, h.t, h.s, ndG_del h.v _, h.tl, h.sl, keyl_del h.vl⟩
        ·skip
         exact h
structure BnS (b : Bn) (k : Nat) : Prop where
 t : b.T.length ≤ 2000000 + k
 s : b.S.length ≤ 2000000 + k
 v : b.V.length ≤ 2000000 + k
theorem BnS.a {b : Bn} {k : Nat} (h : BnS b k) (hk : k ≤ 2000000) : BnA b := ⟨by have := h.t; omega, by have := h.s; omega, by have := h.v; omega⟩
theorem bn_S {m : Mac} (hm : MacA m) : BnS (bnOf m) 0 := ⟨(bn_len hm).1, (bn_len hm).2.1, (bn_len hm).2.2⟩
theorem do_S {b : Bn} {c : Chm} {k : Nat} (h : BnS b k) : BnS (doB b c).1 (k + 1) := by
 have h1 := do_len (b := b) (c := c)
 exact ⟨by have := h.t; omega, by have := h.s; omega, by have := h.v; omega⟩
theorem run_s {b : Bn} {l : List Chm} {i : Nat} {r : Bn × Int} (hi : i < l.length) (h : runB b (l.drop i) = r) (c : ((doB b (l.getD i Chm.z)).2 != 0) = false) : runB (doB b (l.getD i Chm.z)).1 (l.drop (i + 1)) = r := by
 rw [← h, List.drop_eq_getElem_cons hi, show l[i] = l.getD i Chm.z from by simp [List.getD_eq_getElem?_getD, hi]]
 conv => rhs; unfold runB
 rw [if_neg (Bool.eq_false_iff.1 c)]
theorem run_e {b : Bn} {l : List Chm} {i : Nat} {r : Bn × Int} (hi : i < l.length) (h : runB b (l.drop i) = r) (c : ((doB b (l.getD i Chm.z)).2 != 0) = true) : r = (b, (doB b (l.getD i Chm.z)).2) := by
 rw [← h, List.drop_eq_getElem_cons hi, show l[i] = l.getD i Chm.z from by simp [List.getD_eq_getElem?_getD, hi]]
 unfold runB
 rw [if_pos c]
theorem run_o {b : Bn} {l : List Chm} {i : Nat} {r : Bn × Int} (hi : l.length ≤ i) (h : runB b (l.drop i) = r) : r = (b, 0) := by
 rw [← h, List.drop_eq_nil_of_le hi]; unfold runB; rfl
theorem app_e {m : Mac} {l : List Chm} {b : Bn} {e : Int} (h : runB (bnOf m) l = (b, e)) (he : (e != 0) = true) : appM m l = (Mac.z, e) := by unfold appM; rw [h]; exact if_pos he
theorem app_o {m : Mac} {l : List Chm} {b : Bn} (h : runB (bnOf m) l = (b, 0)) : appM m l = (macB b, 0) := by unfold appM; rw [h]; rfl
theorem app_1 {m : Mac} {l : List Chm} (h : (chkM m != 0) = true) : appP m l = (Mac.z, chkM m) := if_pos h
theorem app_2 {m : Mac} {l : List Chm} (h : (chkM m != 0) = false) : appP m l = appM m l := if_neg (Bool.eq_false_iff.1 h)
theorem ask_sv {m : Mac} (hm : chkM m = 0) (ok : Bool) (q : L8) : (askP Svc.z m ok (atK kyV m.sv q)).1.n.length ≤ 2000000 ∧ (askP Svc.z m ok (atK kyV m.sv q)).1.p.length ≤ 2000000 := by
 have hz : Svc.z.n.length ≤ 2000000 ∧ Svc.z.p.length ≤ 2000000 := by decide
 unfold askP
 rw [if_neg (by rw [hm]; decide)]
 split
 ·skip
  exact hz
 ·skip
  split
  ·skip
   show ((atK kyV m.sv q).getD Svc.z).n.length ≤ _ ∧ ((atK kyV m.sv q).getD Svc.z).p.length ≤ _
   cases h : atK kyV m.sv q with
   | none => exact hz
   | some x => exact (chkM_iff.1 hm).mac.sv.s x (List.mem_of_find?_eq_some h)
  ·skip
   exact hz
theorem chg_A {m : Mac} {s : Stq} (hm : chkM m = 0) (hs : stpE s = 0) (hn : s.n.length ≤ 2000000) : ChmA (chgQ m s).1 := by
 obtain ⟨_, _, _, hv⟩ := step_kinds hs
 have hv := value_len hv
 have hw := ask_sv hm (nameB s.n) s.n
 have z1 : Fl.z.p.length ≤ 2000000 ∧ Fl.z.d.length ≤ 2000000 := by decide
 have z2 : Stg.z.k.length ≤ 2000000 ∧ Stg.z.v.length ≤ 2000000 := by decide
 have z3 : Svc.z.n.length ≤ 2000000 ∧ Svc.z.p.length ≤ 2000000 := by decide
 unfold chgQ
 split
 ·skip
  exact ⟨⟨z1.1, z1.2⟩, hn, by show s.v.length ≤ _; omega, z3.1, z3.2⟩
 ·skip
  split
  ·skip
   exact ⟨⟨z1.1, z1.2⟩, hn, by show ([] : L8).length ≤ _; simp, z3.1, z3.2⟩
  ·skip
   split
   ·skip
    exact ⟨⟨hn, by show (s.v ++ [10]).length ≤ _; simp; omega⟩, z2.1, z2.2, z3.1, z3.2⟩
   ·skip
    split
    ·skip
     exact ⟨⟨hn, by show ([] : L8).length ≤ _; simp⟩, z2.1, z2.2, z3.1, z3.2⟩
    ·skip
     split
     ·skip
      exact ⟨⟨z1.1, z1.2⟩, z2.1, z2.2, z3.1, z3.2⟩
     ·skip
      exact ⟨⟨z1.1, z1.2⟩, z2.1, z2.2, hw.1, hw.2⟩
theorem dp_A {m : Mac} {s : Stq} (hn : s.n.length ≤ 2000000) : ∀ c ∈ (doP m s).1, ChmA c := fun c hc => by
 obtain ⟨h1, h2, rfl⟩ := dp_in hc
 exact chg_A h1 h2 hn
section
variable {m : Mac} {s : Stq} (hm : chkM m = 0)
include hm
theorem slw_2 (h : (stpE s == 0) = false) : doP m s = ([], stpE s) := dp_2 (by rw [hm]; decide) (by unfold bne; rw [h]; rfl)
variable (h0 : (stpE s == 0) = true)
include h0
theorem slw_r : chgQ m s = refQ m s := chg_ref hm (by simpa using h0)
theorem slw_3 (hq : ((refQ m s).2.2 == 0 && (refQ m s).2.1) = false) : doP m s = ([], (refQ m s).2.2) := by
  have hr := slw_r hm h0
  have := dp_3 (m := m) (s := s) (by rw [hm]; decide) (by unfold bne; rw [h0]; rfl) (by
    rw [hr]; unfold bne
    cases h1 : ((refQ m s).2.2 == 0) <;> cases h2 : (refQ m s).2.1 <;> simp [h1, h2] at hq ⊢)
  rw [this, hr]
variable (hq : ((refQ m s).2.2 == 0 && (refQ m s).2.1) = true)
include hq
theorem slw_q : ((chgQ m s).2.2 != 0 || !(chgQ m s).2.1) = false := by
 rw [slw_r hm h0]; unfold bne
 cases h1 : ((refQ m s).2.2 == 0) <;> cases h2 : (refQ m s).2.1 <;> simp [h1, h2] at hq ⊢
theorem slw_4 (h4 : ((appP m [(refQ m s).1]).2 != 0) = true) : doP m s = ([], (appP m [(refQ m s).1]).2) := by
 have hr := slw_r hm h0
 have := dp_4 (m := m) (s := s) (by rw [hm]; decide) (by unfold bne; rw [h0]; rfl) (slw_q hm h0 hq) (by rw [hr]; exact h4)
 rw [this, hr]
theorem slw_5 (h4 : ((appP m [(refQ m s).1]).2 != 0) = false) : doP m s = ([(refQ m s).1], 0) := by
 have hr := slw_r hm h0
 have := dp_5 (m := m) (s := s) (by rw [hm]; decide) (by unfold bne; rw [h0]; rfl) (slw_q hm h0 hq) (by rw [hr]; exact h4)
 rw [this, hr]
end
section
variable {o : List Chm} {m : Mac} {l : List Stq} {i : Nat} {r : List Chm × Nat × Int} (hi : i < l.length) (h : doA o m (l.drop i) i = r)
include hi h
theorem da_x {e : Int} (hd : doP m (l.getD i Stq.z) = ([], e)) (he : (e != 0) = true) : r = ([], i, e) := by
 rw [← h, da_e hi (by rw [hd]; exact he), hd]
theorem da_n {d : List Chm} (hd : doP m (l.getD i Stq.z) = (d, 0)) (h2 : ((appP m d).2 != 0) = false) : doA (o ++ d) (appP m d).1 (l.drop (i + 1)) (i + 1) = r := by
 have := da_s (o := o) hi (m := m) (by rw [hd]; rfl) (by rw [hd]; exact h2)
 rw [hd] at this
 rw [← h, this]
theorem da_n0 (hm : chkM m = 0) (hd : doP m (l.getD i Stq.z) = ([], 0)) : doA o m (l.drop (i + 1)) (i + 1) = r := by
 have := da_n hi h hd (by rw [app_nil hm]; rfl)
 rw [app_nil hm, List.append_nil] at this
 exact this
end
theorem dall_1 {m : Mac} {l : List Stq} (h : (chkM m != 0) = true) : doAllP m l = ([], 0, chkM m) := if_pos h
theorem dall_2 {m : Mac} {l : List Stq} (h : (chkM m != 0) = false) : doAllP m l = doA [] m l 0 := if_neg (Bool.eq_false_iff.1 h)
theorem dall_0 {m : Mac} {l : List Stq} (h : (chkM m != 0) = false) : doA [] m (l.drop 0) 0 = doAllP m l := (dall_2 h).symm
end
section
open Go
open Go.RowKit
attribute [local irreducible] thenK blockK W
attribute [local irreducible] pathB nameB valueB listE svAt svE flE flO flAt stgO svO dirs dirTo stgAt clear paT prevP chkM bigM atK askP errC chgE cntU cntTo fltB getL hasL setL delL putQ
abbrev FT (T : TabG Fl) : List (DV × DV) := mapOf D.str (fun f : Fl => DV.agg (flD f)) T
abbrev UT (T : TabG Int) : List (DV × DV) := mapOf D.str (fun n : Int => DV.one (.int .i64 n)) T
abbrev ST (T : TabG Stg) : List (DV × DV) := mapOf D.str (fun s : Stg => DV.agg (stgD s)) T
abbrev VT (T : TabG Svc) : List (DV × DV) := mapOf D.str (fun s : Svc => DV.agg (svD s)) T
theorem pc_CheckChange (c : Chm) (hc : ChmA c) :
  PureCall Tryz.prog J 160 [.agg [.d (.int .i64 c.k), .d (.str c.f.p), .d (.str c.f.d), .d (.bool c.f.r), .d (.str c.s.k), .d (.str c.s.v), .d (.str c.v.n), .d (.str c.v.p), .d (.bool c.v.au), .d (.bool c.v.on)]] (.one (.d (.int .i64 (chgE c)))) := by
 have h1 := hc.f.p
 have h2 := hc.sk
 have h3 := hc.sv
 have h4 := hc.vn
 have h5 := hc.vp
 refine PureCall.of_body tOk (fn := Tryz.f160) Tryz.func160 (by kernel_rfl) rfl (Nat.le_of_ble_eq_true rfl) (fun E => ?_)
 iterate 18 first|refine Yp rfl ?_|apply Yb|refine S.alloc tOk rfl rfl rfl rfl ?_|refine S.box rfl rfl rfl rfl ?_|apply Y1|apply Y3|apply Yn|apply Ys
 refine W.cond rfl (fun c1=>?_) fun c1=>?_
 ·skip
  have hk := e_1 (c := c) (by assumption)
  have hr := ce_r hk.2.2 hk.1 (by rw [hk.2.1])
  refine W.regionC 6 mixed rfl (by kernel_rfl) ?_
  iterate 4 refine Ym rfl rfl ?_
  refine D.call rfl rfl rfl rfl rfl (pc_fileF c.f (by omega)) ?_
  refine Ym rfl rfl ?_
  refine WD.nil ?_
  iterate 19 first|refine S.pickAnd tOk zOk rfl rfl tg ?_|refine Yp rfl ?_|refine Yg rfl rfl tg ?_|refine S.store tOk rfl rfl rfl rfl rfl rfl rfl rfl ?_|apply Yw|apply Y1|apply Y3|apply Yn|apply Ys
  refine W.cond rfl (fun c2=>?_) fun c2=>?_
  ·skip
   apply Y1
   refine Yp rfl ?_
   apply Yn
   apply Yt
   apply Yu
   exact ⟨_, rfl, rfl, LeV.of_eq (congrArg (fun x => V.one (C.d (D.int .i64 x))) ((ce_2 hr (by assumption)).symm))⟩
  iterate 6 first|refine Yp rfl ?_|apply Yt|apply Yk|apply Y3|apply Yn
  exact ⟨_, rfl, rfl, LeV.of_eq (congrArg (fun x => V.one (C.d (D.int .i64 x))) ((ce_e hr (by assumption)).symm))⟩
 apply Y1
 iterate 2 refine Yp rfl ?_
 apply Yn
 refine W.cond rfl (fun c3=>?_) fun c3=>?_
 ·skip
  have hk := e_2 (c := c) (by assumption)
  have hr := ce_r hk.2.2 hk.1 (by rw [hk.2.1])
  refine W.regionC 10 mixed rfl (by kernel_rfl) ?_
  iterate 7 refine Ym rfl rfl ?_
  refine D.call rfl rfl rfl rfl rfl (pc_fileF ⟨c.f.p, [], false⟩ (by omega)) ?_
  iterate 2 refine Ym rfl rfl ?_
  refine WD.nil ?_
  iterate 19 first|refine S.pickAnd tOk zOk rfl rfl tg ?_|refine Yp rfl ?_|refine Yg rfl rfl tg ?_|refine S.store tOk rfl rfl rfl rfl rfl rfl rfl rfl ?_|apply Yw|apply Y1|apply Y3|apply Yn|apply Ys
  refine W.cond rfl (fun c4=>?_) fun c4=>?_
  ·skip
   apply Y1
   refine Yp rfl ?_
   apply Yn
   apply Yt
   apply Yu
   exact ⟨_, rfl, rfl, LeV.of_eq (congrArg (fun x => V.one (C.d (D.int .i64 x))) ((ce_2 hr (by assumption)).symm))⟩
  iterate 6 first|refine Yp rfl ?_|apply Yt|apply Yk|apply Y3|apply Yn
  exact ⟨_, rfl, rfl, LeV.of_eq (congrArg (fun x => V.one (C.d (D.int .i64 x))) ((ce_e hr (by assumption)).symm))⟩
 apply Y1
 iterate 2 refine Yp rfl ?_
 apply Yn
 refine W.cond rfl (fun c5=>?_) fun c5=>?_
 ·skip
  have hk := e_3 (c := c) (by assumption)
  have hr := ce_r hk.2.2 hk.1 (by rw [hk.2.1])
  refine W.regionC 6 mixed rfl (by kernel_rfl) ?_
  iterate 4 refine Ym rfl rfl ?_
  refine D.call rfl rfl rfl rfl rfl (pc_setF c.s 44 (pathB c.s.k) (pc_ver_IsPath c.s.k (by omega)) (by omega)) ?_
  refine Ym rfl rfl ?_
  refine WD.nil ?_
  iterate 19 first|refine S.pickAnd tOk zOk rfl rfl tg ?_|refine Yp rfl ?_|refine Yg rfl rfl tg ?_|refine S.store tOk rfl rfl rfl rfl rfl rfl rfl rfl ?_|apply Yw|apply Y1|apply Y3|apply Yn|apply Ys
  refine W.cond rfl (fun c6=>?_) fun c6=>?_
  ·skip
   apply Y1
   refine Yp rfl ?_
   apply Yn
   apply Yt
   apply Yu
   exact ⟨_, rfl, rfl, LeV.of_eq (congrArg (fun x => V.one (C.d (D.int .i64 x))) ((ce_2 hr (by assumption)).symm))⟩
  iterate 6 first|refine Yp rfl ?_|apply Yt|apply Yk|apply Y3|apply Yn
  exact ⟨_, rfl, rfl, LeV.of_eq (congrArg (fun x => V.one (C.d (D.int .i64 x))) ((ce_e hr (by assumption)).symm))⟩
 apply Y1
 iterate 2 refine Yp rfl ?_
 apply Yn
 refine W.cond rfl (fun c7=>?_) fun c7=>?_
 ·skip
  have hk := e_4 (c := c) (by assumption)
  have hr := ce_r hk.2.2 hk.1 (by rw [hk.2.1])
  refine W.regionC 10 mixed rfl (by kernel_rfl) ?_
  iterate 7 refine Ym rfl rfl ?_
  refine D.call rfl rfl rfl rfl rfl (pc_setF ⟨c.s.k, []⟩ 44 (pathB c.s.k) (pc_ver_IsPath c.s.k (by omega)) (by simp)) ?_
  iterate 2 refine Ym rfl rfl ?_
  refine WD.nil ?_
  iterate 19 first|refine S.pickAnd tOk zOk rfl rfl tg ?_|refine Yp rfl ?_|refine Yg rfl rfl tg ?_|refine S.store tOk rfl rfl rfl rfl rfl rfl rfl rfl ?_|apply Yw|apply Y1|apply Y3|apply Yn|apply Ys
  refine W.cond rfl (fun c8=>?_) fun c8=>?_
  ·skip
   apply Y1
   refine Yp rfl ?_
   apply Yn
   apply Yt
   apply Yu
   exact ⟨_, rfl, rfl, LeV.of_eq (congrArg (fun x => V.one (C.d (D.int .i64 x))) ((ce_2 hr (by assumption)).symm))⟩
  iterate 6 first|refine Yp rfl ?_|apply Yt|apply Yk|apply Y3|apply Yn
  exact ⟨_, rfl, rfl, LeV.of_eq (congrArg (fun x => V.one (C.d (D.int .i64 x))) ((ce_e hr (by assumption)).symm))⟩
 apply Y1
 iterate 2 refine Yp rfl ?_
 apply Yn
 refine W.cond rfl (fun c9=>?_) fun c9=>?_
 ·skip
  have hk := e_5 (c := c) (by assumption)
  have hr := ce_r hk.2.2 hk.1 (by rw [hk.2.1])
  refine W.regionC 6 mixed rfl (by kernel_rfl) ?_
  iterate 4 refine Ym rfl rfl ?_
  refine D.call rfl rfl rfl rfl rfl (pc_svcF c.v (by omega) (by omega)) ?_
  refine Ym rfl rfl ?_
  refine WD.nil ?_
  iterate 19 first|refine S.pickAnd tOk zOk rfl rfl tg ?_|refine Yp rfl ?_|refine Yg rfl rfl tg ?_|refine S.store tOk rfl rfl rfl rfl rfl rfl rfl rfl ?_|apply Yw|apply Y1|apply Y3|apply Yn|apply Ys
  refine W.cond rfl (fun c10=>?_) fun c10=>?_
  ·skip
   apply Y1
   refine Yp rfl ?_
   apply Yn
   apply Yt
   apply Yu
   exact ⟨_, rfl, rfl, LeV.of_eq (congrArg (fun x => V.one (C.d (D.int .i64 x))) ((ce_2 hr (by assumption)).symm))⟩
  iterate 6 first|refine Yp rfl ?_|apply Yt|apply Yk|apply Y3|apply Yn
  exact ⟨_, rfl, rfl, LeV.of_eq (congrArg (fun x => V.one (C.d (D.int .i64 x))) ((ce_e hr (by assumption)).symm))⟩
 apply Y1
 iterate 2 refine Yp rfl ?_
 apply Yn
 refine W.cond rfl (fun c11=>?_) fun c11=>?_
 ·skip
  iterate 11 first|refine Yp rfl ?_|refine S.store tOk rfl rfl rfl rfl rfl rfl rfl rfl ?_|apply Y3|apply Y1
  refine S.call rfl rfl rfl rfl rfl (pc_ver_IsName c.v.n (by omega)) ?_
  refine Yp rfl ?_
  apply Yn
  refine W.cond rfl (fun c12=>?_) fun c12=>?_
  ·skip
   have hk := e_6 (c := c) (by assumption)
   have hr := ce_r hk.2.2 (hk.1.trans (if_pos (by assumption))) (by rw [hk.2.1])
   apply Yr
   iterate 18 first|refine S.pickAnd tOk zOk rfl rfl tg ?_|refine Yp rfl ?_|refine Yg rfl rfl tg ?_|refine S.store tOk rfl rfl rfl rfl rfl rfl rfl rfl ?_|apply Yw|apply Y1|apply Y3|apply Yn|apply Ys
   refine W.cond rfl (fun c13=>?_) fun c13=>?_
   ·skip
    apply Y1
    refine Yp rfl ?_
    apply Yn
    apply Yt
    apply Yu
    exact ⟨_, rfl, rfl, LeV.of_eq (congrArg (fun x => V.one (C.d (D.int .i64 x))) ((ce_2 hr (by assumption)).symm))⟩
   iterate 6 first|refine Yp rfl ?_|apply Yt|apply Yk|apply Y3|apply Yn
   exact ⟨_, rfl, rfl, LeV.of_eq (congrArg (fun x => V.one (C.d (D.int .i64 x))) ((ce_e hr (by assumption)).symm))⟩
  have hk := e_6 (c := c) (by assumption)
  have hr := ce_r hk.2.2 (hk.1.trans (if_neg (Bool.eq_false_iff.1 (by assumption)))) (by rw [hk.2.1])
  apply Yk
  iterate 17 first|refine S.pickAnd tOk zOk rfl rfl tg ?_|refine Yp rfl ?_|refine Yg rfl rfl tg ?_|refine S.store tOk rfl rfl rfl rfl rfl rfl rfl rfl ?_|apply Yw|apply Y1|apply Y3|apply Yn|apply Ys
  refine W.cond rfl (fun c14=>?_) fun c14=>?_
  ·skip
   apply Y1
   refine Yp rfl ?_
   apply Yn
   apply Yt
   apply Yu
   exact ⟨_, rfl, rfl, LeV.of_eq (congrArg (fun x => V.one (C.d (D.int .i64 x))) ((ce_2 hr (by assumption)).symm))⟩
  iterate 6 first|refine Yp rfl ?_|apply Yt|apply Yk|apply Y3|apply Yn
  exact ⟨_, rfl, rfl, LeV.of_eq (congrArg (fun x => V.one (C.d (D.int .i64 x))) ((ce_e hr (by assumption)).symm))⟩
 apply Y1
 refine Yp rfl ?_
 apply Yn
 apply Yt
 apply Yv
 apply Yu
 exact ⟨_, rfl, rfl, LeV.of_eq (congrArg (fun x => V.one (C.d (D.int .i64 x))) ((ce_k (by assumption) (by assumption) (by assumption) (by assumption) (by assumption) (by assumption)).symm))⟩
theorem pc_CloneS (xs : List (List D)) (hl : xs.length ≤ 2000000) :
  PureCall Tryz.prog J 158 [.one (.d (.vec 2 xs))] (.one (.d (.vec 2 xs))) := by
 refine PureCall.of_body tOk (fn := Tryz.f158) Tryz.func158 (by kernel_rfl) rfl (Nat.le_of_ble_eq_true rfl) (fun E => ?_)
 iterate 6 first|refine Yp rfl ?_|apply Y1|apply Ys|apply Yn
 refine S.eqNil tOk rfl rfl rfl rfl (fun q hq => ?_)
 apply Yn
 refine W.cond rfl (fun c1=>?_) fun c1=>?_
 ·skip
  apply Y1
  refine Yp rfl ?_
  apply Yn
  apply Yt
  apply Yu
  exact ⟨_, rfl, rfl, by rw [hq c1]; exact LeV.nil 2⟩
 apply Yk
 apply Y3
 refine S.sliceOwn tOk rfl rfl rfl rfl rfl rfl ?_
 refine Yp rfl ?_
 refine S.appendV tOk rfl rfl rfl rfl rfl rfl rfl rfl rfl rfl rfl rfl (by show 0 + xs.length ≤ _; omega) rfl rfl ?_
 refine Yp rfl ?_
 apply Yn
 apply Yt
 exact ⟨_, rfl, rfl, LeV.refl _⟩
theorem pc_aboveM (f : Nat) (caps : List C) (b : List (List C)) (r : List (Option RowO)) (m : Nat → List (List (DV × DV))) (p : L8) (hp : p.length ≤ 2000000) (hc : ∀ i, i < p.length → (p.getD i 0 == 47) = true → HCall Tryz.prog J f (.one (.d (.str (p.take i))) :: caps.map V.one) b r (m i) (isH (.one (.d (.bool true))) b r (m (i + 1)))) (hs : ∀ i, (p.getD i 0 == 47) = false → m (i + 1) = m i) :
  HCall Tryz.prog J 41 ([.one (.d (.str p)), .one (.clo f caps)]) (b) (r) ((m 0)) (isH (.one (.d (.bool true))) (b) (r) ((m p.length))) := by
 refine HCall.ofN tOk (fn := Tryz.f41) Tryz.func41 (by kernel_rfl) rfl (Nat.le_of_ble_eq_true rfl) (fun E => ?_)
 iterate 8 first|refine Yp rfl ?_|apply Yb|apply Y1|apply Yn|apply Ys
 refine W.loop (fun k st => ∃ i : Nat, i ≤ p.length ∧ k = p.length - i ∧ ∃ t, st = ⟨t, b, r, (m i)⟩ ∧ holdsL t [(0, .one (.d (.str p))), (1, .one (.clo f caps)), (5, .one (.d (.int .i64 (i : Int))))]) (p.length) ⟨0, Nat.zero_le _, rfl, _, rfl, rfl, rfl, rfl, trivial⟩ ?_
 rintro k0 _ ⟨i, f0_0, rfl, t0, rfl, hh0⟩
 refine W.keep _ hh0 ?_
 apply Ys
 apply Y1
 iterate 4 refine Yp rfl ?_
 apply Yn
 refine W.cond rfl (fun c1=>?_) fun c1=>?_
 ·skip
  have hi : i < p.length := by have h1 : decide ((i : Int) < (p.length : Int)) = true := (by assumption); simpa using h1
  iterate 7 first|refine Yp rfl ?_|apply Yb|apply Yk|apply Y1|apply Ys|apply Yn
  refine YP rfl (str_ok hi) rfl ?_
  iterate 5 first|refine Yg rfl rfl tg ?_|refine Yp rfl ?_
  refine S.pureEGc tOk zOk rfl rfl tg (fun _ => sl_okT rfl rfl (by omega) (by omega) (by omega)) (fun _ => sl_str) rfl ?_
  refine S.hcallUGM rfl rfl rfl rfl tg (fun hgd => hc i hi (dir_yes hgd)) (fun hgd => hs i (dir_yes hgd)) ?_
  refine Yg rfl rfl tg ?_
  refine S.pickAnd tOk zOk rfl rfl tg ?_
  apply Yn
  refine W.cond rfl (fun c2=>?_) fun c2=>?_
  ·skip
   exact absurd (by assumption : ((((p.getD i 0).toNat : Int) == 47) && !true) = true) (by simp)
  apply Yk
  apply Yw
  apply Y4
  iterate 3 refine Yp rfl ?_
  refine loop_n (p.length - (i + 1)) (by omega) ⟨i + 1, hi, rfl, _, rfl, rfl, rfl, inc_i64 (by omega), trivial⟩
 have hi : p.length ≤ i := by have h1 : decide ((i : Int) < (p.length : Int)) = false := (by assumption); simpa using h1
 obtain rfl : i = p.length := by omega
 apply Yq
 apply Ye
 apply Ye
 apply Yx
 apply Y3
 refine Yp rfl ?_
 apply Yn
 apply Yt
 exact ⟨_, rfl, LeG.refl _, rfl, rfl, rfl⟩
theorem pc_cnt1 (b : Bn) (n : Int) (d : L8) :
  HCall Tryz.prog J 252 ([.one (.d (.str d)), .one (.ptr 0 0), .one (.ptr 1 0)]) ([[.ptr 2 0], [.d (.int .i64 n)], [.d (.vec 2 (b.fa.map stgD)), .map 0, .map 1, .map 2, .map 3]]) ([]) ([FT (b.T), UT (b.U), ST (b.S), VT (b.V)]) (isH (.one (.d (.bool true))) ([[.ptr 2 0], [.d (.int .i64 n)], [.d (.vec 2 (b.fa.map stgD)), .map 0, .map 1, .map 2, .map 3]]) ([]) ([FT (b.T), UT (setL beqS b.U d (IntKind.i64.wrap (getL beqS 0 b.U d + n))), ST (b.S), VT (b.V)])) := by
 refine HCall.ofD tOk ⟨3, 0, 4⟩ (fn := Tryz.f252) Tryz.func252 (by kernel_rfl) rfl (Nat.le_of_ble_eq_true rfl) (fun E => ?_)
 apply Y1
 refine Yp rfl ?_
 apply Yn
 apply Ys
 refine W.regionC 8 mixed rfl (by kernel_rfl) ?_
 iterate 5 refine Ym rfl rfl ?_
 refine D.lookup tOk keyS (fD := (fun n : Int => DV.one (.int .i64 n))) 0 (b.U) rfl rfl rfl rfl rfl rfl rfl rfl rfl rfl (show mapV false _ _ = V.one _ from rfl) ?_
 iterate 2 refine Ym rfl rfl ?_
 refine WD.nil ?_
 refine S.mapUpdate tOk keyS (fD := (fun n : Int => DV.one (.int .i64 n))) (IntKind.i64.wrap (getL beqS 0 b.U d + n)) (b.U) rfl rfl rfl rfl rfl rfl rfl rfl (show _ = [FT (b.T), UT (setL beqS b.U d (IntKind.i64.wrap (getL beqS 0 b.U d + n))), ST (b.S), VT (b.V)] from rfl) ?_
 apply Y3
 refine Yp rfl ?_
 apply Yn
 apply Yt
 exact ⟨_, rfl, rfl, LeG.refl _, rfl, rfl, rfl⟩
theorem pc_cntA (b : Bn) (n : Int) (p : L8) (hp : p.length ≤ 2000000) : HCall Tryz.prog J 41 [.one (.d (.str p)), .one (.clo 252 [.ptr 1 0, .ptr 2 0])] [[.d (.vec 2 (b.fa.map stgD)), .map 0, .map 1, .map 2, .map 3], [.ptr 0 0], [.d (.int .i64 n)]] [] [FT (b.T), UT (b.U), ST (b.S), VT (b.V)] (isH (.one (.d (.bool true))) [[.d (.vec 2 (b.fa.map stgD)), .map 0, .map 1, .map 2, .map 3], [.ptr 0 0], [.d (.int .i64 n)]] [] [FT (b.T), UT (cntU b.U p n), ST (b.S), VT (b.V)]) := by
 have h := pc_aboveM 252 [.ptr 1 0, .ptr 2 0] [[.d (.vec 2 (b.fa.map stgD)), .map 0, .map 1, .map 2, .map 3], [.ptr 0 0], [.d (.int .i64 n)]] [] (fun i => [FT (b.T), UT (cntTo b.U p n i), ST (b.S), VT (b.V)]) p hp (fun i hi hc => by show HCall _ J _ _ _ _ _ (isH _ _ _ [FT (b.T), UT (cntTo b.U p n (i + 1)), ST (b.S), VT (b.V)]); rw [cnt_t hc]; exact (pc_cnt1 ⟨b.fa, b.T, cntTo b.U p n i, b.S, b.V⟩ n (p.take i)).frameD [1, 2, 0] [] [0, 1, 2, 3] rfl rfl rfl rfl rfl rfl rfl rfl rfl) (fun i hc => by show [FT (b.T), UT (cntTo b.U p n (i + 1)), ST (b.S), VT (b.V)] = [FT (b.T), UT (cntTo b.U p n i), ST (b.S), VT (b.V)]; rw [cnt_f hc])
 simp only [cnt_0, cnt_end] at h
 exact h
theorem pc_cnt (b : Bn) (n : Int) (p : L8) (hp : p.length ≤ 2000000) :
  HCall Tryz.prog J 214 ([.one (.ptr 0 0), .one (.d (.str p)), .one (.d (.int .i64 n))]) ([[.d (.vec 2 (b.fa.map stgD)), .map 0, .map 1, .map 2, .map 3]]) ([]) ([FT (b.T), UT (b.U), ST (b.S), VT (b.V)]) (isH (.tup []) ([[.d (.vec 2 (b.fa.map stgD)), .map 0, .map 1, .map 2, .map 3]]) ([]) ([FT (b.T), UT (cntU b.U p n), ST (b.S), VT (b.V)])) := by
 refine HCall.ofD tOk ⟨1, 0, 4⟩ (fn := Tryz.f214) Tryz.func214 (by kernel_rfl) rfl (Nat.le_of_ble_eq_true rfl) (fun E => ?_)
 apply Y1
 iterate 2 refine S.box rfl rfl rfl rfl ?_
 apply Y4
 refine Yp rfl ?_
 refine S.makeFunc rfl rfl rfl ?_
 refine S.hcallD rfl rfl rfl rfl ((pc_cntA b n p hp)) ?_
 exact ⟨_, rfl, rfl, LeG.refl _, rfl, rfl, rfl⟩
section
variable {b : Bn} {f : Fl} {q : TabG Fl × TabG Int} (hq : putQ (b.T, b.U) f = q)
include hq
theorem put_n (h : (!hasL beqS b.T f.p) = true) : q = (setL beqS b.T f.p f, cntU b.U f.p 1) := by
 rw [← hq]; unfold putQ; rw [show hasL beqS b.T f.p = false by simpa using h]; rfl
theorem put_y (h : (!hasL beqS b.T f.p) = false) : q = (setL beqS b.T f.p f, b.U) := by
 rw [← hq]; unfold putQ; rw [show hasL beqS b.T f.p = true by simpa using h]; rfl
end
theorem pc_put (b : Bn) (f : Fl) (q : TabG Fl × TabG Int) (hq : putQ (b.T, b.U) f = q) (hf : FlL f) :
  HCall Tryz.prog J 159 ([.one (.ptr 0 0), .agg [.d (.str f.p), .d (.str f.d), .d (.bool f.r)]]) ([[.d (.vec 2 (b.fa.map stgD)), .map 0, .map 1, .map 2, .map 3]]) ([]) ([FT (b.T), UT (b.U), ST (b.S), VT (b.V)]) (isH (.tup []) ([[.d (.vec 2 (b.fa.map stgD)), .map 0, .map 1, .map 2, .map 3]]) ([]) ([FT (q.1), UT (q.2), ST (b.S), VT (b.V)])) := by
 have hp := hf.p
 refine HCall.ofD tOk ⟨1, 0, 4⟩ (fn := Tryz.f159) Tryz.func159 (by kernel_rfl) rfl (Nat.le_of_ble_eq_true rfl) (fun E => ?_)
 apply Y1
 refine S.box rfl rfl rfl rfl ?_
 apply Yn
 apply Ys
 apply Ys
 refine W.regionS 13 mixed rfl (by kernel_rfl) ?_
 refine AnyZ.eager 0 rfl (by kernel_rfl) (Eag.pure tOk zOk rfl (fun _ _ _ => rfl) rfl rfl) ?_
 refine AnyZ.eager 1 rfl (by kernel_rfl) (Eag.pure tOk zOk rfl (fun _ _ _ => rfl) rfl rfl) ?_
 refine AnyZ.eager 2 rfl (by kernel_rfl) (Eag.pure tOk zOk rfl (fun _ _ _ => rfl) rfl rfl) ?_
 refine AnyZ.eager 4 rfl (by kernel_rfl) (Eag.pure tOk zOk rfl (fun _ _ _ => rfl) rfl rfl) ?_
 refine AnyZ.three 3 5 10 (by kernel_rfl) rfl rfl rfl ?_ ?_ ?_
 ·skip
  refine OpZ.d ?_
  refine Ym rfl rfl ?_
  refine WD.nil ?_
  refine AnyZ.two 5 10 (by kernel_rfl) rfl rfl ?_ ?_
  ·skip
   refine OpZ.d ?_
   refine Ym rfl rfl ?_
   refine WD.nil ?_
   refine AnyZ.two 6 10 (by kernel_rfl) rfl rfl ?_ ?_
   ·skip
    refine OpZ.d ?_
    refine D.lookup tOk keyS (fD := (fun f : Fl => DV.agg (flD f))) Fl.z (b.T) rfl rfl rfl rfl rfl rfl rfl rfl rfl rfl (show mapV true _ _ = V.tup [V.agg [_, _, _], _] from rfl) ?_
    refine WD.nil ?_
    refine AnyZ.eager 7 rfl (by kernel_rfl) (Eag.pure tOk zOk rfl (fun _ _ _ => rfl) rfl rfl) ?_
    refine AnyZ.eager 8 rfl (by kernel_rfl) (Eag.pure tOk zOk rfl (fun _ _ _ => rfl) rfl rfl) ?_
    refine AnyZ.eager 9 rfl (by kernel_rfl) (Eag.pure tOk zOk rfl (fun _ _ _ => rfl) rfl rfl) ?_
    refine AnyZ.one 10 (by kernel_rfl) rfl ?_
    refine OpZ.alloc tOk rfl rfl rfl rfl ?_
    refine AnyZ.one 11 (by kernel_rfl) rfl ?_
    refine OpZ.d ?_
    refine D.store tOk rfl rfl rfl rfl rfl rfl rfl rfl ?_
    refine WD.nil ?_
    refine AnyZ.eager 12 rfl (by kernel_rfl) (Eag.pure tOk zOk rfl (fun _ _ _ => rfl) rfl rfl) ?_
    refine AnyZ.nil (by kernel_rfl) ?_
    apply Yn
    apply Ys
    refine W.keepR [(0, .one (.ptr 0 0)), (3, .one (.ptr 1 0)), (5, .one (.d (.bool (hasL beqS b.T f.p))))] [[.d (.vec 2 (b.fa.map stgD)), .map 0, .map 1, .map 2, .map 3], [.d (.str f.p), .d (.str f.d), .d (.bool f.r)]] [_] [] [] [FT (b.T), UT (b.U), ST (b.S), VT (b.V)] [] ⟨rfl, rfl, rfl, trivial⟩ rfl ?_
    iterate 4 first|refine Yp rfl ?_|apply Yn|apply Yr
    refine W.cond rfl (fun c1=>?_) fun c1=>?_
    ·skip
     apply Yr
     iterate 3 refine Yp rfl ?_
     refine S.hcallD rfl rfl rfl rfl ((pc_cnt b 1 f.p hp).fd (B' := [[.d (.vec 2 (b.fa.map stgD)), .map 0, .map 1, .map 2, .map 3], [.d (.str f.p), .d (.str f.d), .d (.bool f.r)]]) (R' := []) (M' := [FT (b.T), UT (cntU b.U f.p 1), ST (b.S), VT (b.V)]) [0] [] [0, 1, 2, 3] rfl) ?_
     apply Yn
     refine W.regionC 7 mixed rfl (by kernel_rfl) ?_
     iterate 7 refine Ym rfl rfl ?_
     refine WD.nil ?_
     refine S.mapUpdate tOk keyS (fD := (fun f : Fl => DV.agg (flD f))) (f) (b.T) rfl rfl rfl rfl rfl rfl rfl rfl (show _ = [FT (setL beqS b.T f.p f), UT (cntU b.U f.p 1), ST (b.S), VT (b.V)] from rfl) ?_
     exact ⟨_, rfl, rfl, LeG.refl _, rfl, rfl, (by rw [put_n hq (by assumption)]; rfl)⟩
    apply Yk
    apply Yn
    refine W.regionC 7 mixed rfl (by kernel_rfl) ?_
    iterate 7 refine Ym rfl rfl ?_
    refine WD.nil ?_
    refine S.mapUpdate tOk keyS (fD := (fun f : Fl => DV.agg (flD f))) (f) (b.T) rfl rfl rfl rfl rfl rfl rfl rfl (show _ = [FT (setL beqS b.T f.p f), UT (b.U), ST (b.S), VT (b.V)] from rfl) ?_
    exact ⟨_, rfl, rfl, LeG.refl _, rfl, rfl, (by rw [put_y hq (by assumption)]; rfl)⟩
   refine OpZ.alloc tOk rfl rfl rfl rfl ?_
   refine AnyZ.one 6 (by kernel_rfl) rfl ?_
   refine OpZ.d ?_
   refine D.lookup tOk keyS (fD := (fun f : Fl => DV.agg (flD f))) Fl.z (b.T) rfl rfl rfl rfl rfl rfl rfl rfl rfl rfl (show mapV true _ _ = V.tup [V.agg [_, _, _], _] from rfl) ?_
   refine WD.nil ?_
   refine AnyZ.eager 7 rfl (by kernel_rfl) (Eag.pure tOk zOk rfl (fun _ _ _ => rfl) rfl rfl) ?_
   refine AnyZ.eager 8 rfl (by kernel_rfl) (Eag.pure tOk zOk rfl (fun _ _ _ => rfl) rfl rfl) ?_
   refine AnyZ.eager 9 rfl (by kernel_rfl) (Eag.pure tOk zOk rfl (fun _ _ _ => rfl) rfl rfl) ?_
   refine AnyZ.one 11 (by kernel_rfl) rfl ?_
   refine OpZ.d ?_
   refine D.store tOk rfl rfl rfl rfl rfl rfl rfl rfl ?_
   refine WD.nil ?_
   refine AnyZ.eager 12 rfl (by kernel_rfl) (Eag.pure tOk zOk rfl (fun _ _ _ => rfl) rfl rfl) ?_
   refine AnyZ.nil (by kernel_rfl) ?_
   apply Yn
   apply Ys
   refine W.keepR [(0, .one (.ptr 0 0)), (3, .one (.ptr 1 0)), (5, .one (.d (.bool (hasL beqS b.T f.p))))] [[.d (.vec 2 (b.fa.map stgD)), .map 0, .map 1, .map 2, .map 3], [.d (.str f.p), .d (.str f.d), .d (.bool f.r)]] [_] [] [] [FT (b.T), UT (b.U), ST (b.S), VT (b.V)] [] ⟨rfl, rfl, rfl, trivial⟩ rfl ?_
   apply Yr
   iterate 2 refine Yp rfl ?_
   apply Yn
   refine W.cond rfl (fun c2=>?_) fun c2=>?_
   ·skip
    apply Yr
    iterate 3 refine Yp rfl ?_
    refine S.hcallD rfl rfl rfl rfl ((pc_cnt b 1 f.p hp).fd (B' := [[.d (.vec 2 (b.fa.map stgD)), .map 0, .map 1, .map 2, .map 3], [.d (.str f.p), .d (.str f.d), .d (.bool f.r)]]) (R' := []) (M' := [FT (b.T), UT (cntU b.U f.p 1), ST (b.S), VT (b.V)]) [0] [] [0, 1, 2, 3] rfl) ?_
    apply Yn
    refine W.regionC 7 mixed rfl (by kernel_rfl) ?_
    iterate 7 refine Ym rfl rfl ?_
    refine WD.nil ?_
    refine S.mapUpdate tOk keyS (fD := (fun f : Fl => DV.agg (flD f))) (f) (b.T) rfl rfl rfl rfl rfl rfl rfl rfl (show _ = [FT (setL beqS b.T f.p f), UT (cntU b.U f.p 1), ST (b.S), VT (b.V)] from rfl) ?_
    exact ⟨_, rfl, rfl, LeG.refl _, rfl, rfl, (by rw [put_n hq (by assumption)]; rfl)⟩
   apply Yk
   apply Yn
   refine W.regionC 7 mixed rfl (by kernel_rfl) ?_
   iterate 7 refine Ym rfl rfl ?_
   refine WD.nil ?_
   refine S.mapUpdate tOk keyS (fD := (fun f : Fl => DV.agg (flD f))) (f) (b.T) rfl rfl rfl rfl rfl rfl rfl rfl (show _ = [FT (setL beqS b.T f.p f), UT (b.U), ST (b.S), VT (b.V)] from rfl) ?_
   exact ⟨_, rfl, rfl, LeG.refl _, rfl, rfl, (by rw [put_y hq (by assumption)]; rfl)⟩
  refine OpZ.alloc tOk rfl rfl rfl rfl ?_
  refine AnyZ.one 5 (by kernel_rfl) rfl ?_
  refine OpZ.d ?_
  refine Ym rfl rfl ?_
  refine WD.nil ?_
  refine AnyZ.one 6 (by kernel_rfl) rfl ?_
  refine OpZ.d ?_
  refine D.lookup tOk keyS (fD := (fun f : Fl => DV.agg (flD f))) Fl.z (b.T) rfl rfl rfl rfl rfl rfl rfl rfl rfl rfl (show mapV true _ _ = V.tup [V.agg [_, _, _], _] from rfl) ?_
  refine WD.nil ?_
  refine AnyZ.eager 7 rfl (by kernel_rfl) (Eag.pure tOk zOk rfl (fun _ _ _ => rfl) rfl rfl) ?_
  refine AnyZ.eager 8 rfl (by kernel_rfl) (Eag.pure tOk zOk rfl (fun _ _ _ => rfl) rfl rfl) ?_
  refine AnyZ.eager 9 rfl (by kernel_rfl) (Eag.pure tOk zOk rfl (fun _ _ _ => rfl) rfl rfl) ?_
  refine AnyZ.one 11 (by kernel_rfl) rfl ?_
  refine OpZ.d ?_
  refine D.store tOk rfl rfl rfl rfl rfl rfl rfl rfl ?_
  refine WD.nil ?_
  refine AnyZ.eager 12 rfl (by kernel_rfl) (Eag.pure tOk zOk rfl (fun _ _ _ => rfl) rfl rfl) ?_
  refine AnyZ.nil (by kernel_rfl) ?_
  apply Yn
  apply Ys
  refine W.keepR [(0, .one (.ptr 0 0)), (3, .one (.ptr 1 0)), (5, .one (.d (.bool (hasL beqS b.T f.p))))] [[.d (.vec 2 (b.fa.map stgD)), .map 0, .map 1, .map 2, .map 3], [.d (.str f.p), .d (.str f.d), .d (.bool f.r)]] [_] [] [] [FT (b.T), UT (b.U), ST (b.S), VT (b.V)] [] ⟨rfl, rfl, rfl, trivial⟩ rfl ?_
  apply Yr
  iterate 2 refine Yp rfl ?_
  apply Yn
  refine W.cond rfl (fun c3=>?_) fun c3=>?_
  ·skip
   apply Yr
   iterate 3 refine Yp rfl ?_
   refine S.hcallD rfl rfl rfl rfl ((pc_cnt b 1 f.p hp).fd (B' := [[.d (.vec 2 (b.fa.map stgD)), .map 0, .map 1, .map 2, .map 3], [.d (.str f.p), .d (.str f.d), .d (.bool f.r)]]) (R' := []) (M' := [FT (b.T), UT (cntU b.U f.p 1), ST (b.S), VT (b.V)]) [0] [] [0, 1, 2, 3] rfl) ?_
   apply Yn
   refine W.regionC 7 mixed rfl (by kernel_rfl) ?_
   iterate 7 refine Ym rfl rfl ?_
   refine WD.nil ?_
   refine S.mapUpdate tOk keyS (fD := (fun f : Fl => DV.agg (flD f))) (f) (b.T) rfl rfl rfl rfl rfl rfl rfl rfl (show _ = [FT (setL beqS b.T f.p f), UT (cntU b.U f.p 1), ST (b.S), VT (b.V)] from rfl) ?_
   exact ⟨_, rfl, rfl, LeG.refl _, rfl, rfl, (by rw [put_n hq (by assumption)]; rfl)⟩
  apply Yk
  apply Yn
  refine W.regionC 7 mixed rfl (by kernel_rfl) ?_
  iterate 7 refine Ym rfl rfl ?_
  refine WD.nil ?_
  refine S.mapUpdate tOk keyS (fD := (fun f : Fl => DV.agg (flD f))) (f) (b.T) rfl rfl rfl rfl rfl rfl rfl rfl (show _ = [FT (setL beqS b.T f.p f), UT (b.U), ST (b.S), VT (b.V)] from rfl) ?_
  exact ⟨_, rfl, rfl, LeG.refl _, rfl, rfl, (by rw [put_y hq (by assumption)]; rfl)⟩
 ·skip
  refine OpZ.d ?_
  refine Ym rfl rfl ?_
  refine WD.nil ?_
  refine AnyZ.two 3 10 (by kernel_rfl) rfl rfl ?_ ?_
  ·skip
   refine OpZ.d ?_
   refine Ym rfl rfl ?_
   refine WD.nil ?_
   refine AnyZ.two 6 10 (by kernel_rfl) rfl rfl ?_ ?_
   ·skip
    refine OpZ.d ?_
    refine D.lookup tOk keyS (fD := (fun f : Fl => DV.agg (flD f))) Fl.z (b.T) rfl rfl rfl rfl rfl rfl rfl rfl rfl rfl (show mapV true _ _ = V.tup [V.agg [_, _, _], _] from rfl) ?_
    refine WD.nil ?_
    refine AnyZ.eager 7 rfl (by kernel_rfl) (Eag.pure tOk zOk rfl (fun _ _ _ => rfl) rfl rfl) ?_
    refine AnyZ.eager 8 rfl (by kernel_rfl) (Eag.pure tOk zOk rfl (fun _ _ _ => rfl) rfl rfl) ?_
    refine AnyZ.eager 9 rfl (by kernel_rfl) (Eag.pure tOk zOk rfl (fun _ _ _ => rfl) rfl rfl) ?_
    refine AnyZ.one 10 (by kernel_rfl) rfl ?_
    refine OpZ.alloc tOk rfl rfl rfl rfl ?_
    refine AnyZ.one 11 (by kernel_rfl) rfl ?_
    refine OpZ.d ?_
    refine D.store tOk rfl rfl rfl rfl rfl rfl rfl rfl ?_
    refine WD.nil ?_
    refine AnyZ.eager 12 rfl (by kernel_rfl) (Eag.pure tOk zOk rfl (fun _ _ _ => rfl) rfl rfl) ?_
    refine AnyZ.nil (by kernel_rfl) ?_
    apply Yn
    apply Ys
    refine W.keepR [(0, .one (.ptr 0 0)), (3, .one (.ptr 1 0)), (5, .one (.d (.bool (hasL beqS b.T f.p))))] [[.d (.vec 2 (b.fa.map stgD)), .map 0, .map 1, .map 2, .map 3], [.d (.str f.p), .d (.str f.d), .d (.bool f.r)]] [_] [] [] [FT (b.T), UT (b.U), ST (b.S), VT (b.V)] [] ⟨rfl, rfl, rfl, trivial⟩ rfl ?_
    iterate 4 first|refine Yp rfl ?_|apply Yn|apply Yr
    refine W.cond rfl (fun c4=>?_) fun c4=>?_
    ·skip
     apply Yr
     iterate 3 refine Yp rfl ?_
     refine S.hcallD rfl rfl rfl rfl ((pc_cnt b 1 f.p hp).fd (B' := [[.d (.vec 2 (b.fa.map stgD)), .map 0, .map 1, .map 2, .map 3], [.d (.str f.p), .d (.str f.d), .d (.bool f.r)]]) (R' := []) (M' := [FT (b.T), UT (cntU b.U f.p 1), ST (b.S), VT (b.V)]) [0] [] [0, 1, 2, 3] rfl) ?_
     apply Yn
     refine W.regionC 7 mixed rfl (by kernel_rfl) ?_
     iterate 7 refine Ym rfl rfl ?_
     refine WD.nil ?_
     refine S.mapUpdate tOk keyS (fD := (fun f : Fl => DV.agg (flD f))) (f) (b.T) rfl rfl rfl rfl rfl rfl rfl rfl (show _ = [FT (setL beqS b.T f.p f), UT (cntU b.U f.p 1), ST (b.S), VT (b.V)] from rfl) ?_
     exact ⟨_, rfl, rfl, LeG.refl _, rfl, rfl, (by rw [put_n hq (by assumption)]; rfl)⟩
    apply Yk
    apply Yn
    refine W.regionC 7 mixed rfl (by kernel_rfl) ?_
    iterate 7 refine Ym rfl rfl ?_
    refine WD.nil ?_
    refine S.mapUpdate tOk keyS (fD := (fun f : Fl => DV.agg (flD f))) (f) (b.T) rfl rfl rfl rfl rfl rfl rfl rfl (show _ = [FT (setL beqS b.T f.p f), UT (b.U), ST (b.S), VT (b.V)] from rfl) ?_
    exact ⟨_, rfl, rfl, LeG.refl _, rfl, rfl, (by rw [put_y hq (by assumption)]; rfl)⟩
   refine OpZ.alloc tOk rfl rfl rfl rfl ?_
   refine AnyZ.one 6 (by kernel_rfl) rfl ?_
   refine OpZ.d ?_
   refine D.lookup tOk keyS (fD := (fun f : Fl => DV.agg (flD f))) Fl.z (b.T) rfl rfl rfl rfl rfl rfl rfl rfl rfl rfl (show mapV true _ _ = V.tup [V.agg [_, _, _], _] from rfl) ?_
   refine WD.nil ?_
   refine AnyZ.eager 7 rfl (by kernel_rfl) (Eag.pure tOk zOk rfl (fun _ _ _ => rfl) rfl rfl) ?_
   refine AnyZ.eager 8 rfl (by kernel_rfl) (Eag.pure tOk zOk rfl (fun _ _ _ => rfl) rfl rfl) ?_
   refine AnyZ.eager 9 rfl (by kernel_rfl) (Eag.pure tOk zOk rfl (fun _ _ _ => rfl) rfl rfl) ?_
   refine AnyZ.one 11 (by kernel_rfl) rfl ?_
   refine OpZ.d ?_
   refine D.store tOk rfl rfl rfl rfl rfl rfl rfl rfl ?_
   refine WD.nil ?_
   refine AnyZ.eager 12 rfl (by kernel_rfl) (Eag.pure tOk zOk rfl (fun _ _ _ => rfl) rfl rfl) ?_
   refine AnyZ.nil (by kernel_rfl) ?_
   apply Yn
   apply Ys
   refine W.keepR [(0, .one (.ptr 0 0)), (3, .one (.ptr 1 0)), (5, .one (.d (.bool (hasL beqS b.T f.p))))] [[.d (.vec 2 (b.fa.map stgD)), .map 0, .map 1, .map 2, .map 3], [.d (.str f.p), .d (.str f.d), .d (.bool f.r)]] [_] [] [] [FT (b.T), UT (b.U), ST (b.S), VT (b.V)] [] ⟨rfl, rfl, rfl, trivial⟩ rfl ?_
   apply Yr
   iterate 2 refine Yp rfl ?_
   apply Yn
   refine W.cond rfl (fun c5=>?_) fun c5=>?_
   ·skip
    apply Yr
    iterate 3 refine Yp rfl ?_
    refine S.hcallD rfl rfl rfl rfl ((pc_cnt b 1 f.p hp).fd (B' := [[.d (.vec 2 (b.fa.map stgD)), .map 0, .map 1, .map 2, .map 3], [.d (.str f.p), .d (.str f.d), .d (.bool f.r)]]) (R' := []) (M' := [FT (b.T), UT (cntU b.U f.p 1), ST (b.S), VT (b.V)]) [0] [] [0, 1, 2, 3] rfl) ?_
    apply Yn
    refine W.regionC 7 mixed rfl (by kernel_rfl) ?_
    iterate 7 refine Ym rfl rfl ?_
    refine WD.nil ?_
    refine S.mapUpdate tOk keyS (fD := (fun f : Fl => DV.agg (flD f))) (f) (b.T) rfl rfl rfl rfl rfl rfl rfl rfl (show _ = [FT (setL beqS b.T f.p f), UT (cntU b.U f.p 1), ST (b.S), VT (b.V)] from rfl) ?_
    exact ⟨_, rfl, rfl, LeG.refl _, rfl, rfl, (by rw [put_n hq (by assumption)]; rfl)⟩
   apply Yk
   apply Yn
   refine W.regionC 7 mixed rfl (by kernel_rfl) ?_
   iterate 7 refine Ym rfl rfl ?_
   refine WD.nil ?_
   refine S.mapUpdate tOk keyS (fD := (fun f : Fl => DV.agg (flD f))) (f) (b.T) rfl rfl rfl rfl rfl rfl rfl rfl (show _ = [FT (setL beqS b.T f.p f), UT (b.U), ST (b.S), VT (b.V)] from rfl) ?_
   exact ⟨_, rfl, rfl, LeG.refl _, rfl, rfl, (by rw [put_y hq (by assumption)]; rfl)⟩
  refine OpZ.alloc tOk rfl rfl rfl rfl ?_
  refine AnyZ.one 3 (by kernel_rfl) rfl ?_
  refine OpZ.d ?_
  refine Ym rfl rfl ?_
  refine WD.nil ?_
  refine AnyZ.one 6 (by kernel_rfl) rfl ?_
  refine OpZ.d ?_
  refine D.lookup tOk keyS (fD := (fun f : Fl => DV.agg (flD f))) Fl.z (b.T) rfl rfl rfl rfl rfl rfl rfl rfl rfl rfl (show mapV true _ _ = V.tup [V.agg [_, _, _], _] from rfl) ?_
  refine WD.nil ?_
  refine AnyZ.eager 7 rfl (by kernel_rfl) (Eag.pure tOk zOk rfl (fun _ _ _ => rfl) rfl rfl) ?_
  refine AnyZ.eager 8 rfl (by kernel_rfl) (Eag.pure tOk zOk rfl (fun _ _ _ => rfl) rfl rfl) ?_
  refine AnyZ.eager 9 rfl (by kernel_rfl) (Eag.pure tOk zOk rfl (fun _ _ _ => rfl) rfl rfl) ?_
  refine AnyZ.one 11 (by kernel_rfl) rfl ?_
  refine OpZ.d ?_
  refine D.store tOk rfl rfl rfl rfl rfl rfl rfl rfl ?_
  refine WD.nil ?_
  refine AnyZ.eager 12 rfl (by kernel_rfl) (Eag.pure tOk zOk rfl (fun _ _ _ => rfl) rfl rfl) ?_
  refine AnyZ.nil (by kernel_rfl) ?_
  apply Yn
  apply Ys
  refine W.keepR [(0, .one (.ptr 0 0)), (3, .one (.ptr 1 0)), (5, .one (.d (.bool (hasL beqS b.T f.p))))] [[.d (.vec 2 (b.fa.map stgD)), .map 0, .map 1, .map 2, .map 3], [.d (.str f.p), .d (.str f.d), .d (.bool f.r)]] [_] [] [] [FT (b.T), UT (b.U), ST (b.S), VT (b.V)] [] ⟨rfl, rfl, rfl, trivial⟩ rfl ?_
  apply Yr
  iterate 2 refine Yp rfl ?_
  apply Yn
  refine W.cond rfl (fun c6=>?_) fun c6=>?_
  ·skip
   apply Yr
   iterate 3 refine Yp rfl ?_
   refine S.hcallD rfl rfl rfl rfl ((pc_cnt b 1 f.p hp).fd (B' := [[.d (.vec 2 (b.fa.map stgD)), .map 0, .map 1, .map 2, .map 3], [.d (.str f.p), .d (.str f.d), .d (.bool f.r)]]) (R' := []) (M' := [FT (b.T), UT (cntU b.U f.p 1), ST (b.S), VT (b.V)]) [0] [] [0, 1, 2, 3] rfl) ?_
   apply Yn
   refine W.regionC 7 mixed rfl (by kernel_rfl) ?_
   iterate 7 refine Ym rfl rfl ?_
   refine WD.nil ?_
   refine S.mapUpdate tOk keyS (fD := (fun f : Fl => DV.agg (flD f))) (f) (b.T) rfl rfl rfl rfl rfl rfl rfl rfl (show _ = [FT (setL beqS b.T f.p f), UT (cntU b.U f.p 1), ST (b.S), VT (b.V)] from rfl) ?_
   exact ⟨_, rfl, rfl, LeG.refl _, rfl, rfl, (by rw [put_n hq (by assumption)]; rfl)⟩
  apply Yk
  apply Yn
  refine W.regionC 7 mixed rfl (by kernel_rfl) ?_
  iterate 7 refine Ym rfl rfl ?_
  refine WD.nil ?_
  refine S.mapUpdate tOk keyS (fD := (fun f : Fl => DV.agg (flD f))) (f) (b.T) rfl rfl rfl rfl rfl rfl rfl rfl (show _ = [FT (setL beqS b.T f.p f), UT (b.U), ST (b.S), VT (b.V)] from rfl) ?_
  exact ⟨_, rfl, rfl, LeG.refl _, rfl, rfl, (by rw [put_y hq (by assumption)]; rfl)⟩
 refine OpZ.alloc tOk rfl rfl rfl rfl ?_
 refine AnyZ.two 3 5 (by kernel_rfl) rfl rfl ?_ ?_
 ·skip
  refine OpZ.d ?_
  refine Ym rfl rfl ?_
  refine WD.nil ?_
  refine AnyZ.one 5 (by kernel_rfl) rfl ?_
  refine OpZ.d ?_
  refine Ym rfl rfl ?_
  refine WD.nil ?_
  refine AnyZ.one 6 (by kernel_rfl) rfl ?_
  refine OpZ.d ?_
  refine D.lookup tOk keyS (fD := (fun f : Fl => DV.agg (flD f))) Fl.z (b.T) rfl rfl rfl rfl rfl rfl rfl rfl rfl rfl (show mapV true _ _ = V.tup [V.agg [_, _, _], _] from rfl) ?_
  refine WD.nil ?_
  refine AnyZ.eager 7 rfl (by kernel_rfl) (Eag.pure tOk zOk rfl (fun _ _ _ => rfl) rfl rfl) ?_
  refine AnyZ.eager 8 rfl (by kernel_rfl) (Eag.pure tOk zOk rfl (fun _ _ _ => rfl) rfl rfl) ?_
  refine AnyZ.eager 9 rfl (by kernel_rfl) (Eag.pure tOk zOk rfl (fun _ _ _ => rfl) rfl rfl) ?_
  refine AnyZ.one 11 (by kernel_rfl) rfl ?_
  refine OpZ.d ?_
  refine D.store tOk rfl rfl rfl rfl rfl rfl rfl rfl ?_
  refine WD.nil ?_
  refine AnyZ.eager 12 rfl (by kernel_rfl) (Eag.pure tOk zOk rfl (fun _ _ _ => rfl) rfl rfl) ?_
  refine AnyZ.nil (by kernel_rfl) ?_
  apply Yn
  apply Ys
  refine W.keepR [(0, .one (.ptr 0 0)), (3, .one (.ptr 1 0)), (5, .one (.d (.bool (hasL beqS b.T f.p))))] [[.d (.vec 2 (b.fa.map stgD)), .map 0, .map 1, .map 2, .map 3], [.d (.str f.p), .d (.str f.d), .d (.bool f.r)]] [_] [] [] [FT (b.T), UT (b.U), ST (b.S), VT (b.V)] [] ⟨rfl, rfl, rfl, trivial⟩ rfl ?_
  apply Yr
  iterate 2 refine Yp rfl ?_
  apply Yn
  refine W.cond rfl (fun c7=>?_) fun c7=>?_
  ·skip
   apply Yr
   iterate 3 refine Yp rfl ?_
   refine S.hcallD rfl rfl rfl rfl ((pc_cnt b 1 f.p hp).fd (B' := [[.d (.vec 2 (b.fa.map stgD)), .map 0, .map 1, .map 2, .map 3], [.d (.str f.p), .d (.str f.d), .d (.bool f.r)]]) (R' := []) (M' := [FT (b.T), UT (cntU b.U f.p 1), ST (b.S), VT (b.V)]) [0] [] [0, 1, 2, 3] rfl) ?_
   apply Yn
   refine W.regionC 7 mixed rfl (by kernel_rfl) ?_
   iterate 7 refine Ym rfl rfl ?_
   refine WD.nil ?_
   refine S.mapUpdate tOk keyS (fD := (fun f : Fl => DV.agg (flD f))) (f) (b.T) rfl rfl rfl rfl rfl rfl rfl rfl (show _ = [FT (setL beqS b.T f.p f), UT (cntU b.U f.p 1), ST (b.S), VT (b.V)] from rfl) ?_
   exact ⟨_, rfl, rfl, LeG.refl _, rfl, rfl, (by rw [put_n hq (by assumption)]; rfl)⟩
  apply Yk
  apply Yn
  refine W.regionC 7 mixed rfl (by kernel_rfl) ?_
  iterate 7 refine Ym rfl rfl ?_
  refine WD.nil ?_
  refine S.mapUpdate tOk keyS (fD := (fun f : Fl => DV.agg (flD f))) (f) (b.T) rfl rfl rfl rfl rfl rfl rfl rfl (show _ = [FT (setL beqS b.T f.p f), UT (b.U), ST (b.S), VT (b.V)] from rfl) ?_
  exact ⟨_, rfl, rfl, LeG.refl _, rfl, rfl, (by rw [put_y hq (by assumption)]; rfl)⟩
 refine OpZ.d ?_
 refine Ym rfl rfl ?_
 refine WD.nil ?_
 refine AnyZ.one 3 (by kernel_rfl) rfl ?_
 refine OpZ.d ?_
 refine Ym rfl rfl ?_
 refine WD.nil ?_
 refine AnyZ.one 6 (by kernel_rfl) rfl ?_
 refine OpZ.d ?_
 refine D.lookup tOk keyS (fD := (fun f : Fl => DV.agg (flD f))) Fl.z (b.T) rfl rfl rfl rfl rfl rfl rfl rfl rfl rfl (show mapV true _ _ = V.tup [V.agg [_, _, _], _] from rfl) ?_
 refine WD.nil ?_
 refine AnyZ.eager 7 rfl (by kernel_rfl) (Eag.pure tOk zOk rfl (fun _ _ _ => rfl) rfl rfl) ?_
 refine AnyZ.eager 8 rfl (by kernel_rfl) (Eag.pure tOk zOk rfl (fun _ _ _ => rfl) rfl rfl) ?_
 refine AnyZ.eager 9 rfl (by kernel_rfl) (Eag.pure tOk zOk rfl (fun _ _ _ => rfl) rfl rfl) ?_
 refine AnyZ.one 11 (by kernel_rfl) rfl ?_
 refine OpZ.d ?_
 refine D.store tOk rfl rfl rfl rfl rfl rfl rfl rfl ?_
 refine WD.nil ?_
 refine AnyZ.eager 12 rfl (by kernel_rfl) (Eag.pure tOk zOk rfl (fun _ _ _ => rfl) rfl rfl) ?_
 refine AnyZ.nil (by kernel_rfl) ?_
 apply Yn
 apply Ys
 refine W.keepR [(0, .one (.ptr 0 0)), (3, .one (.ptr 1 0)), (5, .one (.d (.bool (hasL beqS b.T f.p))))] [[.d (.vec 2 (b.fa.map stgD)), .map 0, .map 1, .map 2, .map 3], [.d (.str f.p), .d (.str f.d), .d (.bool f.r)]] [_] [] [] [FT (b.T), UT (b.U), ST (b.S), VT (b.V)] [] ⟨rfl, rfl, rfl, trivial⟩ rfl ?_
 apply Yr
 iterate 2 refine Yp rfl ?_
 apply Yn
 refine W.cond rfl (fun c8=>?_) fun c8=>?_
 ·skip
  apply Yr
  iterate 3 refine Yp rfl ?_
  refine S.hcallD rfl rfl rfl rfl ((pc_cnt b 1 f.p hp).fd (B' := [[.d (.vec 2 (b.fa.map stgD)), .map 0, .map 1, .map 2, .map 3], [.d (.str f.p), .d (.str f.d), .d (.bool f.r)]]) (R' := []) (M' := [FT (b.T), UT (cntU b.U f.p 1), ST (b.S), VT (b.V)]) [0] [] [0, 1, 2, 3] rfl) ?_
  apply Yn
  refine W.regionC 7 mixed rfl (by kernel_rfl) ?_
  iterate 7 refine Ym rfl rfl ?_
  refine WD.nil ?_
  refine S.mapUpdate tOk keyS (fD := (fun f : Fl => DV.agg (flD f))) (f) (b.T) rfl rfl rfl rfl rfl rfl rfl rfl (show _ = [FT (setL beqS b.T f.p f), UT (cntU b.U f.p 1), ST (b.S), VT (b.V)] from rfl) ?_
  exact ⟨_, rfl, rfl, LeG.refl _, rfl, rfl, (by rw [put_n hq (by assumption)]; rfl)⟩
 apply Yk
 apply Yn
 refine W.regionC 7 mixed rfl (by kernel_rfl) ?_
 iterate 7 refine Ym rfl rfl ?_
 refine WD.nil ?_
 refine S.mapUpdate tOk keyS (fD := (fun f : Fl => DV.agg (flD f))) (f) (b.T) rfl rfl rfl rfl rfl rfl rfl rfl (show _ = [FT (setL beqS b.T f.p f), UT (b.U), ST (b.S), VT (b.V)] from rfl) ?_
 exact ⟨_, rfl, rfl, LeG.refl _, rfl, rfl, (by rw [put_y hq (by assumption)]; rfl)⟩
theorem pc_rem (b : Bn) (p : L8) (hp : p.length ≤ 2000000) :
  HCall Tryz.prog J 162 ([.one (.ptr 0 0), .one (.d (.str p))]) ([[.d (.vec 2 (b.fa.map stgD)), .map 0, .map 1, .map 2, .map 3]]) ([]) ([FT (b.T), UT (b.U), ST (b.S), VT (b.V)]) (isH (.tup []) ([[.d (.vec 2 (b.fa.map stgD)), .map 0, .map 1, .map 2, .map 3]]) ([]) ([FT (delL beqS b.T p), UT (cntU b.U p (-1)), ST (b.S), VT (b.V)])) := by
 refine HCall.ofD tOk ⟨1, 0, 4⟩ (fn := Tryz.f162) Tryz.func162 (by kernel_rfl) rfl (Nat.le_of_ble_eq_true rfl) (fun E => ?_)
 apply Y1
 iterate 5 refine Yp rfl ?_
 refine S.mapDelete tOk keyS (fD := (fun f : Fl => DV.agg (flD f))) (b.T) rfl rfl rfl rfl rfl rfl rfl (show _ = [FT (delL beqS b.T p), UT (b.U), ST (b.S), VT (b.V)] from rfl) ?_
 apply Y4
 iterate 2 refine Yp rfl ?_
 refine S.hcallD rfl rfl rfl rfl ((pc_cnt ⟨b.fa, delL beqS b.T p, b.U, b.S, b.V⟩ (-1) p hp).fd [0] [] [0, 1, 2, 3] rfl) ?_
 exact ⟨_, rfl, rfl, LeG.refl _, rfl, rfl, rfl⟩
theorem pc_cfl1 (b : Bn) (d : L8) :
  HCall Tryz.prog J 253 ([.one (.d (.str d)), .one (.ptr 0 0)]) ([[.ptr 1 0], [.d (.vec 2 (b.fa.map stgD)), .map 0, .map 1, .map 2, .map 3]]) ([]) ([FT (b.T), UT (b.U), ST (b.S), VT (b.V)]) (isH (.one (.d (.bool (!hasL beqS b.T d)))) ([[.ptr 1 0], [.d (.vec 2 (b.fa.map stgD)), .map 0, .map 1, .map 2, .map 3]]) ([]) ([FT (b.T), UT (b.U), ST (b.S), VT (b.V)])) := by
 refine HCall.ofD tOk ⟨2, 0, 4⟩ (fn := Tryz.f253) Tryz.func253 (by kernel_rfl) rfl (Nat.le_of_ble_eq_true rfl) (fun E => ?_)
 iterate 8 first|refine Yp rfl ?_|apply Y3|apply Y1
 refine S.lookup tOk keyS (fD := (fun f : Fl => DV.agg (flD f))) Fl.z (b.T) rfl rfl rfl rfl rfl rfl rfl rfl rfl rfl (show mapV true _ _ = V.tup [V.agg [_, _, _], _] from rfl) ?_
 iterate 12 first|refine Yp rfl ?_|apply Yt|refine S.store tOk rfl rfl rfl rfl rfl rfl rfl rfl ?_|refine S.alloc tOk rfl rfl rfl rfl ?_|apply Y3|apply Yn
 exact ⟨_, rfl, rfl, LeG.refl _, rfl, rfl, rfl⟩
theorem pc_cfl (b : Bn) (p : L8) (hp : p.length ≤ 2000000) :
  HCall Tryz.prog J 215 ([.one (.ptr 0 0), .one (.d (.str p))]) ([[.d (.vec 2 (b.fa.map stgD)), .map 0, .map 1, .map 2, .map 3]]) ([]) ([FT (b.T), UT (b.U), ST (b.S), VT (b.V)]) (isH (.one (.d (.bool (confB b p)))) ([[.d (.vec 2 (b.fa.map stgD)), .map 0, .map 1, .map 2, .map 3]]) ([]) ([FT (b.T), UT (b.U), ST (b.S), VT (b.V)])) := by
 refine HCall.ofD tOk ⟨1, 0, 4⟩ (fn := Tryz.f215) Tryz.func215 (by kernel_rfl) rfl (Nat.le_of_ble_eq_true rfl) (fun E => ?_)
 iterate 5 first|refine Yp rfl ?_|refine S.box rfl rfl rfl rfl ?_|apply Y3|apply Y1
 refine S.makeFunc rfl rfl rfl ?_
 refine S.hcallD rfl rfl rfl rfl ((pc_above 253 [.ptr 1 0] [[.d (.vec 2 (b.fa.map stgD)), .map 0, .map 1, .map 2, .map 3], [.ptr 0 0]] [] [FT (b.T), UT (b.U), ST (b.S), VT (b.V)] (fun d => !hasL beqS b.T d) p hp (fun d hd => (pc_cfl1 b d).fd [1, 0] [] [0, 1, 2, 3] rfl))) ?_
 iterate 10 first|refine Yg rfl rfl tg ?_|refine Yp rfl ?_|apply Y3
 refine S.lookupG tOk keyS (fD := (fun n : Int => DV.one (.int .i64 n))) 0 (b.U) rfl rfl rfl rfl rfl rfl rfl rfl tg rfl rfl rfl (show mapV false _ _ = V.one _ from rfl) ?_
 refine Yg rfl rfl tg ?_
 refine S.pickOr tOk zOk rfl rfl tg ?_
 refine Yp rfl ?_
 apply Yn
 apply Yt
 exact ⟨_, rfl, rfl, LeG.refl _, rfl, rfl, rfl⟩
theorem pc_missFile (t : TabG Fl) (key : L8) :
  HCall Tryz.prog J 216 ([.one (.map 0), .one (.d (.str key))]) ([]) ([]) ([FT t]) (isH (.one (.d (.bool (!hasL beqS t key)))) ([]) ([]) ([FT t])) := by
 refine HCall.ofD tOk ⟨0, 0, 1⟩ (fn := Tryz.f216) Tryz.func216 (by kernel_rfl) rfl (Nat.le_of_ble_eq_true rfl) (fun E => ?_)
 iterate 5 first|refine Yp rfl ?_|apply Y3|apply Y1
 refine S.lookup tOk keyS (fD := (fun f : Fl => DV.agg (flD f))) Fl.z (t) rfl rfl rfl rfl rfl rfl rfl rfl rfl rfl (show mapV true _ _ = V.tup [V.agg [_, _, _], _] from rfl) ?_
 iterate 12 first|refine Yp rfl ?_|apply Yt|refine S.store tOk rfl rfl rfl rfl rfl rfl rfl rfl ?_|refine S.alloc tOk rfl rfl rfl rfl ?_|apply Y3|apply Yn
 exact ⟨_, rfl, rfl, LeG.refl _, rfl, rfl, rfl⟩
theorem pc_missSetting (t : TabG Stg) (key : L8) :
  HCall Tryz.prog J 217 ([.one (.map 0), .one (.d (.str key))]) ([]) ([]) ([ST t]) (isH (.one (.d (.bool (!hasL beqS t key)))) ([]) ([]) ([ST t])) := by
 refine HCall.ofD tOk ⟨0, 0, 1⟩ (fn := Tryz.f217) Tryz.func217 (by kernel_rfl) rfl (Nat.le_of_ble_eq_true rfl) (fun E => ?_)
 iterate 5 first|refine Yp rfl ?_|apply Y3|apply Y1
 refine S.lookup tOk keyS (fD := (fun s : Stg => DV.agg (stgD s))) Stg.z (t) rfl rfl rfl rfl rfl rfl rfl rfl rfl rfl (show mapV true _ _ = V.tup [V.agg [_, _], _] from rfl) ?_
 iterate 12 first|refine Yp rfl ?_|apply Yt|refine S.store tOk rfl rfl rfl rfl rfl rfl rfl rfl ?_|refine S.alloc tOk rfl rfl rfl rfl ?_|apply Y3|apply Yn
 exact ⟨_, rfl, rfl, LeG.refl _, rfl, rfl, rfl⟩
theorem pc_missService (t : TabG Svc) (key : L8) :
  HCall Tryz.prog J 218 ([.one (.map 0), .one (.d (.str key))]) ([]) ([]) ([VT t]) (isH (.one (.d (.bool (!hasL beqS t key)))) ([]) ([]) ([VT t])) := by
 refine HCall.ofD tOk ⟨0, 0, 1⟩ (fn := Tryz.f218) Tryz.func218 (by kernel_rfl) rfl (Nat.le_of_ble_eq_true rfl) (fun E => ?_)
 iterate 5 first|refine Yp rfl ?_|apply Y3|apply Y1
 refine S.lookup tOk keyS (fD := (fun s : Svc => DV.agg (svD s))) Svc.z (t) rfl rfl rfl rfl rfl rfl rfl rfl rfl rfl (show mapV true _ _ = V.tup [V.agg [_, _, _, _], _] from rfl) ?_
 iterate 12 first|refine Yp rfl ?_|apply Yt|refine S.store tOk rfl rfl rfl rfl rfl rfl rfl rfl ?_|refine S.alloc tOk rfl rfl rfl rfl ?_|apply Y3|apply Yn
 exact ⟨_, rfl, rfl, LeG.refl _, rfl, rfl, rfl⟩
end
end Go.Proofs.YtpelfildfidnbaaGreatDoor
/-
  DERIVED: THE SHELF's CONTRACTS AT THIS DUMP, IN PLAIN WORDS (tools/lay-plain.mjs out of 'TryzShelfK.lean', which tools/lay-shelf.mjs wrote): THE SAME DECLARATIONS UNDER THE SAME NAMES: 'import', 'namespace', 'open', 'def', 'theorem' AND NOTHING ELSE: no command of the shelf's: FOR A HAND-IN. Each laying: the table of numbers ('.._ren') and one theorem, a field a fact of the dump's own or the kernel's comparison; each contract: ONE APPLICATION.
-/
namespace Go.Proofs
open Go.Shelf
def Tryz.sort206_ren : Go.Shelf.Ren := ⟨fun | 6 => 206 | 8 => 248 | 9 => 247 | 19 => 287 | 20 => 288 | 21 => 278 | 22 => 279 | 23 => 280 | 24 => 281 | 25 => 282 | 26 => 283 | 27 => 284 | 28 => 285 | 29 => 286 | 36 => 306 | 31 => 307 | 32 => 308 | 37 => 309 | 38 => 310 | 39 => 311 | 41 => 322 | n => n, fun | 27 => 82 | 29 => 9 | 3 => 3 | 32 => 122 | 26 => 82 | 0 => 0 | 44 => 294 | 46 => 280 | 4 => 4 | 36 => 321 | 35 => 320 | 41 => 73 | 5 => 5 | 9 => 9 | 53 => 350 | 57 => 354 | 63 => 363 | 64 => 364 | n => n, fun | n => n⟩
theorem Tryz.sort206 : Go.Proofs.SlLaysM.n6 Tryz.prog Tryz.sort206_ren := {
 mixed := by kernel_rfl
 f6 := ⟨Tryz.f206.name, by decide, Tryz.func206.trans (congrArg some (by kernel_rfl))⟩
 f8 := Tryz.func248.trans (congrArg some (by kernel_rfl))
 f9 := ⟨Tryz.f247.name, by decide, Tryz.func247.trans (congrArg some (by kernel_rfl))⟩
 f19 := Tryz.func287.trans (congrArg some (by kernel_rfl))
 f20 := Tryz.func288.trans (congrArg some (by kernel_rfl))
 f21 := ⟨Tryz.f278.name, by decide, Tryz.func278.trans (congrArg some (by kernel_rfl))⟩
 f22 := ⟨Tryz.f279.name, by decide, Tryz.func279.trans (congrArg some (by kernel_rfl))⟩
 f23 := ⟨Tryz.f280.name, by decide, Tryz.func280.trans (congrArg some (by kernel_rfl))⟩
 f24 := ⟨Tryz.f281.name, by decide, Tryz.func281.trans (congrArg some (by kernel_rfl))⟩
 f25 := ⟨Tryz.f282.name, by decide, Tryz.func282.trans (congrArg some (by kernel_rfl))⟩
 f26 := ⟨Tryz.f283.name, by decide, Tryz.func283.trans (congrArg some (by kernel_rfl))⟩
 f27 := ⟨Tryz.f284.name, by decide, Tryz.func284.trans (congrArg some (by kernel_rfl))⟩
 f28 := ⟨Tryz.f285.name, by decide, Tryz.func285.trans (congrArg some (by kernel_rfl))⟩
 f29 := ⟨Tryz.f286.name, by decide, Tryz.func286.trans (congrArg some (by kernel_rfl))⟩
 f31 := Tryz.func307.trans (congrArg some (by kernel_rfl))
 f32 := Tryz.func308.trans (congrArg some (by kernel_rfl))
 f36 := ⟨Tryz.f306.name, by decide, Tryz.func306.trans (congrArg some (by kernel_rfl))⟩
 f37 := ⟨Tryz.f309.name, by decide, Tryz.func309.trans (congrArg some (by kernel_rfl))⟩
 f38 := ⟨Tryz.f310.name, by decide, Tryz.func310.trans (congrArg some (by kernel_rfl))⟩
 f39 := ⟨Tryz.f311.name, by decide, Tryz.func311.trans (congrArg some (by kernel_rfl))⟩
 f41 := ⟨Tryz.f322.name, by decide, Tryz.func322.trans (congrArg some (by kernel_rfl))⟩
 t0 := Tryz.underlying0
 a0 := Tryz.isAgg0
 z0 := Tryz.sizeOf0
 v0 := Tryz.zeroValue0
 t3 := Tryz.underlying3
 a3 := Tryz.isAgg3
 z3 := Tryz.sizeOf3
 v3 := Tryz.zeroValue3
 t4 := Tryz.underlying4
 a4 := Tryz.isAgg4
 z4 := Tryz.sizeOf4
 v4 := Tryz.zeroValue4
 t5 := Tryz.underlying5
 a5 := Tryz.isAgg5
 z5 := Tryz.sizeOf5
 v5 := Tryz.zeroValue5
 t9 := Tryz.underlying9
 a9 := Tryz.isAgg9
 z9 := Tryz.sizeOf9
 v9 := Tryz.zeroValue9
 t26 := Tryz.underlying82
 a26 := Tryz.isAgg82
 z26 := Tryz.sizeOf82
 v26 := Tryz.zeroValue82
 t27 := Tryz.underlying82
 a27 := Tryz.isAgg82
 z27 := Tryz.sizeOf82
 v27 := Tryz.zeroValue82
 t29 := Tryz.underlying9
 a29 := Tryz.isAgg9
 z29 := Tryz.sizeOf9
 v29 := Tryz.zeroValue9
 t32 := Tryz.underlying122
 a32 := Tryz.isAgg122
 z32 := Tryz.sizeOf122
 v32 := Tryz.zeroValue122
 t35 := Tryz.underlying320
 a35 := Tryz.isAgg320
 z35 := Tryz.sizeOf320
 v35 := Tryz.zeroValue320
 t36 := Tryz.underlying321
 a36 := Tryz.isAgg321
 z36 := Tryz.sizeOf321
 v36 := Tryz.zeroValue321
 t41 := Tryz.underlying73
 a41 := Tryz.isAgg73
 z41 := Tryz.sizeOf73
 v41 := Tryz.zeroValue73
 t44 := Tryz.underlying294
 a44 := Tryz.isAgg294
 z44 := Tryz.sizeOf294
 v44 := Tryz.zeroValue294
 t46 := Tryz.underlying280
 a46 := Tryz.isAgg280
 z46 := Tryz.sizeOf280
 v46 := Tryz.zeroValue280
 t53 := Tryz.underlying350
 a53 := Tryz.isAgg350
 z53 := Tryz.sizeOf350
 v53 := Tryz.zeroValue350
 t57 := Tryz.underlying354
 a57 := Tryz.isAgg354
 z57 := Tryz.sizeOf354
 v57 := Tryz.zeroValue354
 t63 := Tryz.underlying363
 a63 := Tryz.isAgg363
 z63 := Tryz.sizeOf363
 v63 := Tryz.zeroValue363
 t64 := Tryz.underlying364
 a64 := Tryz.isAgg364
 z64 := Tryz.sizeOf364
 v64 := Tryz.zeroValue364 }
def Tryz.sorted147_ren : Go.Shelf.Ren := ⟨fun | 6 => 147 | 8 => 205 | 9 => 206 | 11 => 246 | 13 => 248 | 12 => 247 | 23 => 287 | 24 => 288 | 14 => 278 | 15 => 279 | 16 => 280 | 17 => 281 | 18 => 282 | 19 => 283 | 20 => 284 | 21 => 285 | 22 => 286 | 25 => 306 | 26 => 307 | 27 => 308 | 28 => 309 | 29 => 310 | 30 => 311 | 31 => 322 | n => n, fun | 26 => 9 | 28 => 207 | 24 => 82 | 0 => 0 | 3 => 3 | 37 => 122 | 48 => 294 | 50 => 280 | 4 => 4 | 40 => 321 | 39 => 320 | 45 => 73 | 5 => 5 | 9 => 9 | 51 => 350 | 55 => 354 | 57 => 363 | 58 => 364 | 33 => 96 | n => n, fun | n => n⟩
theorem Tryz.sorted147 : Go.Proofs.SlLaysZ.n6 Tryz.prog Tryz.sorted147_ren := {
 mixed := by kernel_rfl
 f6 := ⟨Tryz.f147.name, by decide, Tryz.func147.trans (congrArg some (by kernel_rfl))⟩
 f8 := ⟨Tryz.f205.name, by decide, Tryz.func205.trans (congrArg some (by kernel_rfl))⟩
 f11 := ⟨Tryz.f246.name, by decide, Tryz.func246.trans (congrArg some (by kernel_rfl))⟩
 t0 := Tryz.underlying0
 a0 := Tryz.isAgg0
 z0 := Tryz.sizeOf0
 v0 := Tryz.zeroValue0
 t24 := Tryz.underlying82
 a24 := Tryz.isAgg82
 z24 := Tryz.sizeOf82
 v24 := Tryz.zeroValue82
 t26 := Tryz.underlying9
 a26 := Tryz.isAgg9
 z26 := Tryz.sizeOf9
 v26 := Tryz.zeroValue9
 t28 := Tryz.underlying207
 a28 := Tryz.isAgg207
 z28 := Tryz.sizeOf207
 v28 := Tryz.zeroValue207
 i26 := by kernel_rfl }
def Tryz.keys148_ren : Go.Shelf.Ren := ⟨fun | 7 => 148 | 10 => 207 | n => n, fun | 23 => 112 | 26 => 9 | 3 => 9 | 28 => 207 | 0 => 0 | 27 => 206 | 33 => 96 | 4 => 4 | n => n, fun | n => n⟩
def Tryz.keys219_ren : Go.Shelf.Ren := ⟨fun | 7 => 219 | 10 => 254 | n => n, fun | 23 => 213 | 26 => 9 | 3 => 38 | 28 => 207 | 0 => 0 | 27 => 206 | 33 => 96 | 4 => 4 | n => n, fun | n => n⟩
theorem Tryz.keys219 : Go.Proofs.SlLaysZ.n7 Tryz.prog Tryz.keys219_ren := {
 mixed := by kernel_rfl
 f7 := ⟨Tryz.f219.name, by decide, Tryz.func219.trans (congrArg some (by kernel_rfl))⟩
 f10 := ⟨Tryz.f254.name, by decide, Tryz.func254.trans (congrArg some (by kernel_rfl))⟩
 t0 := Tryz.underlying0
 a0 := Tryz.isAgg0
 z0 := Tryz.sizeOf0
 v0 := Tryz.zeroValue0
 t4 := Tryz.underlying4
 a4 := Tryz.isAgg4
 z4 := Tryz.sizeOf4
 v4 := Tryz.zeroValue4
 t23 := Tryz.underlying213
 a23 := Tryz.isAgg213
 z23 := Tryz.sizeOf213
 v23 := Tryz.zeroValue213
 t26 := Tryz.underlying9
 a26 := Tryz.isAgg9
 z26 := Tryz.sizeOf9
 v26 := Tryz.zeroValue9
 t27 := Tryz.underlying206
 a27 := Tryz.isAgg206
 z27 := Tryz.sizeOf206
 v27 := Tryz.zeroValue206
 t28 := Tryz.underlying207
 a28 := Tryz.isAgg207
 z28 := Tryz.sizeOf207
 v28 := Tryz.zeroValue207
 t33 := Tryz.underlying96
 a33 := Tryz.isAgg96
 z33 := Tryz.sizeOf96
 v33 := Tryz.zeroValue96 }
def Tryz.keys220_ren : Go.Shelf.Ren := ⟨fun | 7 => 220 | 10 => 255 | n => n, fun | 23 => 215 | 26 => 9 | 3 => 40 | 28 => 207 | 0 => 0 | 27 => 206 | 33 => 96 | 4 => 4 | n => n, fun | n => n⟩
theorem Tryz.keys220 : Go.Proofs.SlLaysZ.n7 Tryz.prog Tryz.keys220_ren := {
 mixed := by kernel_rfl
 f7 := ⟨Tryz.f220.name, by decide, Tryz.func220.trans (congrArg some (by kernel_rfl))⟩
 f10 := ⟨Tryz.f255.name, by decide, Tryz.func255.trans (congrArg some (by kernel_rfl))⟩
 t0 := Tryz.underlying0
 a0 := Tryz.isAgg0
 z0 := Tryz.sizeOf0
 v0 := Tryz.zeroValue0
 t4 := Tryz.underlying4
 a4 := Tryz.isAgg4
 z4 := Tryz.sizeOf4
 v4 := Tryz.zeroValue4
 t23 := Tryz.underlying215
 a23 := Tryz.isAgg215
 z23 := Tryz.sizeOf215
 v23 := Tryz.zeroValue215
 t26 := Tryz.underlying9
 a26 := Tryz.isAgg9
 z26 := Tryz.sizeOf9
 v26 := Tryz.zeroValue9
 t27 := Tryz.underlying206
 a27 := Tryz.isAgg206
 z27 := Tryz.sizeOf206
 v27 := Tryz.zeroValue206
 t28 := Tryz.underlying207
 a28 := Tryz.isAgg207
 z28 := Tryz.sizeOf207
 v28 := Tryz.zeroValue207
 t33 := Tryz.underlying96
 a33 := Tryz.isAgg96
 z33 := Tryz.sizeOf96
 v33 := Tryz.zeroValue96 }
def Tryz.keys221_ren : Go.Shelf.Ren := ⟨fun | 7 => 221 | 10 => 256 | n => n, fun | 23 => 216 | 26 => 9 | 3 => 42 | 28 => 207 | 0 => 0 | 27 => 206 | 33 => 96 | 4 => 4 | n => n, fun | n => n⟩
theorem Tryz.keys221 : Go.Proofs.SlLaysZ.n7 Tryz.prog Tryz.keys221_ren := {
 mixed := by kernel_rfl
 f7 := ⟨Tryz.f221.name, by decide, Tryz.func221.trans (congrArg some (by kernel_rfl))⟩
 f10 := ⟨Tryz.f256.name, by decide, Tryz.func256.trans (congrArg some (by kernel_rfl))⟩
 t0 := Tryz.underlying0
 a0 := Tryz.isAgg0
 z0 := Tryz.sizeOf0
 v0 := Tryz.zeroValue0
 t4 := Tryz.underlying4
 a4 := Tryz.isAgg4
 z4 := Tryz.sizeOf4
 v4 := Tryz.zeroValue4
 t23 := Tryz.underlying216
 a23 := Tryz.isAgg216
 z23 := Tryz.sizeOf216
 v23 := Tryz.zeroValue216
 t26 := Tryz.underlying9
 a26 := Tryz.isAgg9
 z26 := Tryz.sizeOf9
 v26 := Tryz.zeroValue9
 t27 := Tryz.underlying206
 a27 := Tryz.isAgg206
 z27 := Tryz.sizeOf206
 v27 := Tryz.zeroValue206
 t28 := Tryz.underlying207
 a28 := Tryz.isAgg207
 z28 := Tryz.sizeOf207
 v28 := Tryz.zeroValue207
 t33 := Tryz.underlying96
 a33 := Tryz.isAgg96
 z33 := Tryz.sizeOf96
 v33 := Tryz.zeroValue96 }
end Go.Proofs
namespace Go.Proofs.YtpelfildfidnbaaGreatDoor
section
open Go Go.RowKit Go.Maps Go.Sort Go.Shelf
theorem sorts_in (m : Nat) : AnyZ.SortsIn Tryz.prog Tryz.sorted147_ren Fence.wide m :=
 ⟨fun blk off cap ss W hH hblk hsz => callsIn_wide.2 (AnyM.slices_Sort_string Tryz.sort206 blk off cap ss W hH hblk hsz), fun p cap W => callsIn_wide.2 (AnyM.slices_Sort_string_none Tryz.sort206 p cap W)⟩
set_option maxHeartbeats 1000000 in
theorem so_219 : SortedOk Tryz.prog 147 254 9 := fun b nn Bm D0 R w hB hc hown hmax hbytes => by
 have hseq : SeqGives Fence.wide 2 Tryz.prog 254 #[.pointer (some ⟨Bm, 0, none⟩)] encStr (fun ss => ss.Perm (strKeys D0)) (Maps.size D0) w :=
  AnyZ.keys_gives (ρ := Tryz.keys219_ren) { Tryz.keys219 with } Fence.wide _ trivial rfl (by omega) Bm b nn D0 _ hB hc hown
 refine (callsIn_wide.1 (AnyZ.sorted_in Tryz.sorted147 Fence.wide 5 trivial trivial trivial trivial rfl (by omega) (sorts_in _) (enters_of Tryz.func206 (by kernel_rfl) rfl) 254 #[.pointer (some ⟨Bm, 0, none⟩)] trivial (enters_of Tryz.func254 (by kernel_rfl) rfl) _ _ hmax hbytes _ hseq)).mono ?_
 rintro e w' ⟨v, ss, he, hp, hrow, _, hb⟩
 exact ⟨v, ss, he, hp, hrow, hb⟩
theorem pc_Sorted_219 {β : Type} {fD : β → DV} (tab : List (List UInt8 × β)) (hn : tab.length * 16 ≤ 140737488355328) (hl : ∀ x ∈ tab, x.1.length ≤ maxLen) (hd : (tab.map (·.1)).Nodup) :
  HCall Tryz.prog J 147 [.one (.clo 254 [.ptr 0 0])] [[.map 0]] [] [mapOf D.str fD tab] (isH (.one (.d (strsD (sortS (tab.map (·.1)))))) [[.map 0]] [] [mapOf D.str fD tab]) :=
 HCall.sorted so_219 (by kernel_rfl) Tryz.func147 (by kernel_rfl) (by kernel_rfl) tab hn hl hd
set_option maxHeartbeats 1000000 in
theorem so_220 : SortedOk Tryz.prog 147 255 9 := fun b nn Bm D0 R w hB hc hown hmax hbytes => by
 have hseq : SeqGives Fence.wide 2 Tryz.prog 255 #[.pointer (some ⟨Bm, 0, none⟩)] encStr (fun ss => ss.Perm (strKeys D0)) (Maps.size D0) w :=
  AnyZ.keys_gives (ρ := Tryz.keys220_ren) { Tryz.keys220 with } Fence.wide _ trivial rfl (by omega) Bm b nn D0 _ hB hc hown
 refine (callsIn_wide.1 (AnyZ.sorted_in Tryz.sorted147 Fence.wide 5 trivial trivial trivial trivial rfl (by omega) (sorts_in _) (enters_of Tryz.func206 (by kernel_rfl) rfl) 255 #[.pointer (some ⟨Bm, 0, none⟩)] trivial (enters_of Tryz.func255 (by kernel_rfl) rfl) _ _ hmax hbytes _ hseq)).mono ?_
 rintro e w' ⟨v, ss, he, hp, hrow, _, hb⟩
 exact ⟨v, ss, he, hp, hrow, hb⟩
theorem pc_Sorted_220 {β : Type} {fD : β → DV} (tab : List (List UInt8 × β)) (hn : tab.length * 16 ≤ 140737488355328) (hl : ∀ x ∈ tab, x.1.length ≤ maxLen) (hd : (tab.map (·.1)).Nodup) :
  HCall Tryz.prog J 147 [.one (.clo 255 [.ptr 0 0])] [[.map 0]] [] [mapOf D.str fD tab] (isH (.one (.d (strsD (sortS (tab.map (·.1)))))) [[.map 0]] [] [mapOf D.str fD tab]) :=
 HCall.sorted so_220 (by kernel_rfl) Tryz.func147 (by kernel_rfl) (by kernel_rfl) tab hn hl hd
set_option maxHeartbeats 1000000 in
theorem so_221 : SortedOk Tryz.prog 147 256 9 := fun b nn Bm D0 R w hB hc hown hmax hbytes => by
 have hseq : SeqGives Fence.wide 2 Tryz.prog 256 #[.pointer (some ⟨Bm, 0, none⟩)] encStr (fun ss => ss.Perm (strKeys D0)) (Maps.size D0) w :=
  AnyZ.keys_gives (ρ := Tryz.keys221_ren) { Tryz.keys221 with } Fence.wide _ trivial rfl (by omega) Bm b nn D0 _ hB hc hown
 refine (callsIn_wide.1 (AnyZ.sorted_in Tryz.sorted147 Fence.wide 5 trivial trivial trivial trivial rfl (by omega) (sorts_in _) (enters_of Tryz.func206 (by kernel_rfl) rfl) 256 #[.pointer (some ⟨Bm, 0, none⟩)] trivial (enters_of Tryz.func256 (by kernel_rfl) rfl) _ _ hmax hbytes _ hseq)).mono ?_
 rintro e w' ⟨v, ss, he, hp, hrow, _, hb⟩
 exact ⟨v, ss, he, hp, hrow, hb⟩
theorem pc_Sorted_221 {β : Type} {fD : β → DV} (tab : List (List UInt8 × β)) (hn : tab.length * 16 ≤ 140737488355328) (hl : ∀ x ∈ tab, x.1.length ≤ maxLen) (hd : (tab.map (·.1)).Nodup) :
  HCall Tryz.prog J 147 [.one (.clo 256 [.ptr 0 0])] [[.map 0]] [] [mapOf D.str fD tab] (isH (.one (.d (strsD (sortS (tab.map (·.1)))))) [[.map 0]] [] [mapOf D.str fD tab]) :=
 HCall.sorted so_221 (by kernel_rfl) Tryz.func147 (by kernel_rfl) (by kernel_rfl) tab hn hl hd
end
end Go.Proofs.YtpelfildfidnbaaGreatDoor
