/- Part 3 of a proof: V14, V15, V16, W14, W15, W16, A27, A28, A29, ShelfG, L4, V17, W17, A30, N1, N2, N3, N4, N5, N6, A31, W18, A32, A33, A34, V18, W19. -/
import Derived.Shelf.Spec.SlicesGrow
import Derived.Shelf.SlGeneric
import Derived.Shelf.SlSortCmp.NoneTotal
import Derived.Ground.Names8Prog
import Derived.Ground.SlsfProg
import Derived.Test.YtnphejkeflngcaaGreatDoorProg
import Derived.Calls
import Derived.Lib.QuietBelow
import Derived.Laws.BytesArg
import Derived.MapKept
import Derived.Test.YtnphejkeflngcaaGreatDoorMCRangesMatch2
/- Plain words: the order of versions is a total order. -/
set_option linter.unusedVariables false
set_option linter.unusedSimpArgs false
namespace Go.Proofs.YtnphejkeflngcaaGreatDoor
open Go
structure Pre {α : Type} (c : α → α → Int) : Prop where
  neg : ∀ x y, c y x = -c x y
  trans : ∀ x y z, c x y ≤ 0 → c y z ≤ 0 → c x z ≤ 0
theorem Pre.on {α β : Type} {c : β → β → Int} (h : Pre c) (f : α → β) : Pre (fun x y => c (f x) (f y)) := ⟨fun x y => h.neg _ _, fun x y z => h.trans _ _ _⟩
theorem firstB_le {a b : Int} : firstB a b ≤ 0 ↔ a < 0 ∨ (a = 0 ∧ b ≤ 0) := by
  unfold firstB
  split
  · rename_i h; simp at h; omega
  · rename_i h; simp at h; omega
theorem Pre.lex {α : Type} {c d : α → α → Int} (h : Pre c) (k : Pre d) : Pre (fun x y => firstB (c x y) (d x y)) where
  neg x y := by
    show firstB (c y x) (d y x) = -firstB (c x y) (d x y)
    rw [h.neg x y, k.neg x y]
    unfold firstB
    by_cases h0 : c x y = 0
    · rw [h0]; rfl
    · rw [if_pos (by simpa using h0), if_pos (by simpa using h0)]
  trans x y z h1 h2 := by
    have h1 := firstB_le.1 h1
    have h2 := firstB_le.1 h2
    refine firstB_le.2 ?_
    have a1 := h.trans x y z
    have a2 := h.trans y z x
    have a3 := h.trans z x y
    have a4 := k.trans x y z
    have n1 := h.neg x y
    have n2 := h.neg y z
    have n3 := h.neg x z
    omega
theorem pre_int : Pre Lib.compareInt where
  neg x y := cmpInt_neg x y
  trans x y z := by
    unfold Lib.compareInt
    repeat' split
    all_goals omega
theorem cmpInt_0 {x y : Int} (h : Lib.compareInt x y = 0) : x = y := by
  unfold Lib.compareInt at h
  split at h
  · omega
  · split at h
    · omega
    · omega
/-- Lists in the order of their words. -/
def lexL {α : Type} (c : α → α → Int) : List α → List α → Int
  | [], [] => 0
  | [], _ :: _ => -1
  | _ :: _, [] => 1
  | x :: xs, y :: ys => firstB (c x y) (lexL c xs ys)
theorem lexL_pre {α : Type} {c : α → α → Int} (h : Pre c) : Pre (lexL c) where
  neg := by
    intro xs
    induction xs with
    | nil => intro ys; cases ys <;> rfl
    | cons x xs ih =>
      intro ys
      cases ys with
      | nil => rfl
      | cons y ys =>
        show firstB (c y x) (lexL c ys xs) = -firstB (c x y) (lexL c xs ys)
        rw [h.neg x y, ih ys]
        unfold firstB
        by_cases h0 : c x y = 0
        · rw [h0]; rfl
        · rw [if_pos (by simpa using h0), if_pos (by simpa using h0)]
  trans := by
    intro xs
    induction xs with
    | nil => intro ys zs h1 h2; cases zs <;> simp [lexL]
    | cons x xs ih =>
      intro ys zs h1 h2
      cases ys with
      | nil => simp [lexL] at h1
      | cons y ys =>
        cases zs with
        | nil => simp [lexL] at h2
        | cons z zs =>
          have h1 := firstB_le.1 h1
          have h2 := firstB_le.1 h2
          refine firstB_le.2 ?_
          have a1 := h.trans x y z
          have a2 := h.trans y z x
          have a3 := h.trans z x y
          have a4 := ih ys zs
          have n1 := h.neg x y
          have n2 := h.neg y z
          have n3 := h.neg x z
          omega
theorem firstB_0 {a b : Int} (h : firstB a b = 0) : a = 0 ∧ b = 0 := by
  unfold firstB at h
  by_cases h0 : a = 0
  · subst h0; exact ⟨rfl, h⟩
  · rw [if_pos (by simpa using h0)] at h; exact absurd h h0
theorem lexL_0 {α : Type} {c : α → α → Int} (h : ∀ x y, c x y = 0 → x = y) : ∀ {xs ys : List α}, lexL c xs ys = 0 → xs = ys
  | [], [], _ => rfl
  | [], _ :: _, e => by simp [lexL] at e
  | _ :: _, [], e => by simp [lexL] at e
  | x :: xs, y :: ys, e => by
    have e := firstB_0 e
    rw [h x y e.1, lexL_0 h e.2]
theorem bytes_lex : ∀ (a b : List UInt8), Lib.compareBytes a b = lexL (fun a b => Lib.compareInt (bI a) (bI b)) a b
  | [], [] => rfl
  | [], _ :: _ => rfl
  | _ :: _, [] => rfl
  | a :: l, b :: m => by
    have ih := bytes_lex l m
    show _ = firstB (Lib.compareInt (bI a) (bI b)) _
    by_cases h1 : a < b
    · have h1' : a.toNat < b.toNat := h1
      simp only [Lib.compareBytes, h1, if_true]
      rw [cmp_lt (show bI a < bI b by unfold bI; omega)]; rfl
    · have h1' : ¬ a.toNat < b.toNat := h1
      by_cases h2 : b < a
      · have h2' : b.toNat < a.toNat := h2
        simp only [Lib.compareBytes, h1, h2, if_true, if_false]
        rw [cmp_gt (show bI b < bI a by unfold bI; omega)]; rfl
      · have h2' : ¬ b.toNat < a.toNat := h2
        simp only [Lib.compareBytes, h1, h2, if_false]
        rw [show bI a = bI b by unfold bI; omega, cmp_refl]; exact ih
theorem bI_inj {a b : UInt8} (h : bI a = bI b) : a = b := by
  unfold bI at h
  exact UInt8.toNat_inj.1 (by omega)
theorem pre_bytes : Pre Lib.compareBytes := by
  have h : Lib.compareBytes = lexL (fun a b => Lib.compareInt (bI a) (bI b)) := funext fun a => funext fun b => bytes_lex a b
  rw [h]
  exact lexL_pre (pre_int.on bI)
theorem bytes_0 {a b : List UInt8} (h : Lib.compareBytes a b = 0) : a = b := by
  rw [bytes_lex] at h
  exact lexL_0 (fun x y e => bI_inj (cmpInt_0 e)) h
def nfl (a : List UInt8) : Int := if numeralB a then 0 else 1
def nln (a : List UInt8) : Int := if numeralB a then (a.length : Int) else 0
theorem cwB_lex (a b : List UInt8) : cwB a b = firstB (Lib.compareInt (nfl a) (nfl b)) (firstB (Lib.compareInt (nln a) (nln b)) (Lib.compareBytes a b)) := by
  unfold cwB nfl nln
  cases ha : numeralB a <;> cases hb : numeralB b <;> simp only [Bool.and_true, Bool.and_false, Bool.false_and, Bool.true_and, if_true, if_false, Bool.false_eq_true]
  · rw [cmp_refl, cmp_refl]; rfl
  · rfl
  · rfl
  · rw [cmp_refl]
    by_cases h : (a.length : Int) = b.length
    · rw [h, cmp_refl]; simp [firstB]
    · rw [if_pos (by simpa using h)]
      have : Lib.compareInt a.length b.length ≠ 0 := fun e => h (cmpInt_0 e)
      unfold firstB
      rw [if_neg (by simp), if_pos (by simpa using this)]
theorem pre_cw : Pre cwB := by
  have h : cwB = fun a b => firstB (Lib.compareInt (nfl a) (nfl b)) (firstB (Lib.compareInt (nln a) (nln b)) (Lib.compareBytes a b)) := funext fun a => funext fun b => cwB_lex a b
  rw [h]
  exact (pre_int.on nfl).lex ((pre_int.on nln).lex pre_bytes)
theorem cw_0 {a b : List UInt8} (h : cwB a b = 0) : a = b := by
  rw [cwB_lex] at h
  exact bytes_0 (firstB_0 (firstB_0 h).2).2
theorem firstNe_cons (a : Int) (l : List Int) : firstNe (a :: l) = firstB a (firstNe l) := by
  unfold firstNe firstB
  rw [List.find?_cons]
  by_cases h : a = 0
  · subst h; simp
  · rw [show (a != 0) = true by simpa using h]; rfl
theorem firstB_assoc (a b c : Int) : firstB (firstB a b) c = firstB a (firstB b c) := by
  unfold firstB
  by_cases h : a = 0
  · subst h; simp
  · simp [h]
theorem rows_first (xs ys : List (List UInt8)) : rowsB xs ys = firstB (firstNe (List.zipWith cwB xs ys)) (Lib.compareInt xs.length ys.length) := rfl
theorem rows_lex : ∀ (xs ys : List (List UInt8)), rowsB xs ys = lexL cwB xs ys
  | [], [] => by decide
  | [], y :: ys => by
    rw [rows_first, List.zipWith_nil_left, show firstNe [] = 0 from rfl, cmp_lt (by simp <;> omega)]; rfl
  | x :: xs, [] => by
    rw [rows_first, List.zipWith_nil_right, show firstNe [] = 0 from rfl, cmp_gt (by simp <;> omega)]; rfl
  | x :: xs, y :: ys => by
    have ih := rows_lex xs ys
    show _ = firstB (cwB x y) (lexL cwB xs ys)
    rw [← ih, rows_first, rows_first, List.zipWith_cons_cons, firstNe_cons, firstB_assoc]
    have e2 : Lib.compareInt ((x :: xs).length : Int) ((y :: ys).length : Int) = Lib.compareInt xs.length ys.length := by
      simp only [List.length_cons]
      unfold Lib.compareInt
      repeat' split
      all_goals omega
    rw [e2]
theorem join_split1 (c : UInt8) : ∀ (n : Nat) (s : List UInt8), s.length ≤ n → Lib.join (Lib.split s [c]) [c] = s
  | n, s, hn => by
    by_cases h : c ∈ s
    · obtain ⟨x, y, e, hx⟩ := first_of h
      subst e
      rw [split_cons hx]
      match n with
      | 0 => simp at hn
      | n + 1 =>
        have ih := join_split1 c n y (by simp at hn; omega)
        have hp := split_pos y [c]
        match hq : Lib.split y [c] with
        | [] => rw [hq] at hp; simp at hp
        | p :: q =>
          rw [hq] at ih
          show Lib.join (x :: p :: q) [c] = _
          rw [show Lib.join (x :: p :: q) [c] = x ++ [c] ++ Lib.join (p :: q) [c] by simp [Lib.join, List.intercalate, List.intersperse], ih]
          simp
    · rw [split_none h]; simp [Lib.join, List.intercalate, List.intersperse]
def efl (a : List UInt8) : Int := if a == [] then 0 else 1
theorem ce_lex (a b : List UInt8) : ceB a b = firstB (Lib.compareInt (efl b) (efl a)) (rowsB (Lib.split a [46]) (Lib.split b [46])) := by
  unfold ceB efl
  by_cases h : a = b
  · subst h; rw [cmp_refl, rows_refl]; simp [firstB]
  · rw [if_neg (by simpa using h)]
    cases ha : (a == []) <;> cases hb : (b == [])
    · simp only [Bool.false_eq_true, if_false]; rw [cmp_refl]; rfl
    · rfl
    · rfl
    · exact absurd ((by simpa using ha : a = []).trans (by simpa using hb : b = []).symm) h
theorem pre_rows : Pre rowsB := by
  rw [show rowsB = lexL cwB from funext fun a => funext fun b => rows_lex a b]
  exact lexL_pre pre_cw
theorem pre_ce : Pre ceB := by
  have h : ceB = fun a b => firstB (Lib.compareInt (efl b) (efl a)) (rowsB (Lib.split a [46]) (Lib.split b [46])) := funext fun a => funext fun b => ce_lex a b
  rw [h]
  refine Pre.lex (c := fun a b => Lib.compareInt (efl b) (efl a)) ⟨fun x y => pre_int.neg _ _, fun x y z h1 h2 => pre_int.trans _ _ _ h2 h1⟩ (pre_rows.on fun a => Lib.split a [46])
theorem ce_0 {a b : List UInt8} (h : ceB a b = 0) : a = b := by
  rw [ce_lex, rows_lex] at h
  have h2 := lexL_0 (fun x y e => cw_0 e) (firstB_0 h).2
  rw [← join_split1 46 _ a (Nat.le_refl _), h2, join_split1 46 _ b (Nat.le_refl _)]
theorem order_lex (v w : Ver) : orderB v w = firstB (Lib.compareInt v.a w.a) (firstB (Lib.compareInt v.b w.b) (firstB (Lib.compareInt v.c w.c) (ceB v.e w.e))) := by
  unfold orderB
  rw [firstNe_cons, firstNe_cons, firstNe_cons, first1]
theorem pre_order : Pre orderB := by
  have h : orderB = fun v w => firstB (Lib.compareInt v.a w.a) (firstB (Lib.compareInt v.b w.b) (firstB (Lib.compareInt v.c w.c) (ceB v.e w.e))) := funext fun a => funext fun b => order_lex a b
  rw [h]
  exact (pre_int.on Ver.a).lex ((pre_int.on Ver.b).lex ((pre_int.on Ver.c).lex (pre_ce.on Ver.e)))
theorem order_0 {v w : Ver} (h : orderB v w = 0) : v = w := by
  rw [order_lex] at h
  have h1 := firstB_0 h
  have h2 := firstB_0 h1.2
  have h3 := firstB_0 h2.2
  have e1 := cmpInt_0 h1.1
  have e2 := cmpInt_0 h2.1
  have e3 := cmpInt_0 h3.1
  have e4 := ce_0 h3.2
  cases v; cases w; simp_all
theorem order_refl (v : Ver) : orderB v v = 0 := by have := pre_order.neg v v; omega
/-- A number for each version of a list, in the versions' order. -/
def keyB (pts : List Ver) (v : Ver) : Int := ((pts.filter fun p => decide (orderB p v < 0)).length : Int)
theorem filter_mono {α : Type} {p q : α → Bool} (h : ∀ x, p x = true → q x = true) : ∀ (l : List α), (l.filter p).length ≤ (l.filter q).length
  | [] => Nat.le_refl _
  | x :: l => by
    have ih := filter_mono h l
    by_cases hp : p x = true
    · rw [List.filter_cons_of_pos hp, List.filter_cons_of_pos (h x hp)]; simpa using ih
    · rw [List.filter_cons_of_neg hp]
      by_cases hq : q x = true
      · rw [List.filter_cons_of_pos hq]; simp; omega
      · rw [List.filter_cons_of_neg hq]; exact ih
theorem filter_strict {α : Type} {p q : α → Bool} (h : ∀ x, p x = true → q x = true) {y : α} (hp : p y = false) (hq : q y = true) : ∀ {l : List α}, y ∈ l → (l.filter p).length < (l.filter q).length
  | x :: l, hy => by
    rcases List.mem_cons.1 hy with rfl | hy
    · rw [List.filter_cons_of_neg (by simp [hp]), List.filter_cons_of_pos hq]
      have := filter_mono h l
      simp; omega
    · have ih := filter_strict h hp hq hy
      by_cases hp' : p x = true
      · rw [List.filter_cons_of_pos hp', List.filter_cons_of_pos (h x hp')]; simpa using ih
      · rw [List.filter_cons_of_neg hp']
        by_cases hq' : q x = true
        · rw [List.filter_cons_of_pos hq']; simp; omega
        · rw [List.filter_cons_of_neg hq']; exact ih
theorem key_lt {pts : List Ver} {v w : Ver} (hv : v ∈ pts) (h : orderB v w < 0) : keyB pts v < keyB pts w := by
  have := filter_strict (p := fun p => decide (orderB p v < 0)) (q := fun p => decide (orderB p w < 0)) (fun x hx => by
    have hx : orderB x v < 0 := by simpa using hx
    have a1 := pre_order.trans x v w (by omega) (by omega)
    have a2 := pre_order.trans v w x (by omega)
    have n1 := pre_order.neg x w
    have n2 := pre_order.neg x v
    have : orderB x w < 0 := by omega
    simpa using this) (by simp [order_refl]) (show decide (orderB v w < 0) = true by simpa using h) hv
  unfold keyB
  omega
theorem key_iff {pts : List Ver} {v w : Ver} (hv : v ∈ pts) (hw : w ∈ pts) : (orderB v w < 0 ↔ keyB pts v < keyB pts w) ∧ (keyB pts v = keyB pts w → v = w) := by
  have n := pre_order.neg v w
  by_cases h : orderB v w < 0
  · have := key_lt hv h
    exact ⟨⟨fun _ => this, fun _ => h⟩, fun e => by omega⟩
  · by_cases h2 : orderB w v < 0
    · have := key_lt hw h2
      exact ⟨⟨fun h' => absurd h' h, fun h' => by omega⟩, fun e => by omega⟩
    · have e : v = w := order_0 (by omega)
      subst e
      exact ⟨⟨fun h' => absurd h' h, fun h' => by omega⟩, fun _ => rfl⟩
theorem key_pos (pts : List Ver) (v : Ver) : 0 ≤ keyB pts v ∧ keyB pts v ≤ pts.length := by
  unfold keyB
  have := List.length_filter_le (fun p => decide (orderB p v < 0)) pts
  omega
end Go.Proofs.YtnphejkeflngcaaGreatDoor

/- Plain words: right ranges aa rows of stretches. -/
set_option linter.unusedVariables false
set_option linter.unusedSimpArgs false
namespace Go.Proofs.YtnphejkeflngcaaGreatDoor
open Go
section
variable (pts : List Ver)
def loK (s : Sp) : Int := if s.hf then keyB pts s.f else -1
def hiK (s : Sp) : Int := if s.ht then keyB pts s.t else (pts.length : Int) + 1
structure SpIn (s : Sp) : Prop where
  f1 : s.hf = true → s.f ∈ pts
  t1 : s.ht = true → s.t ∈ pts
  f0 : s.hf = false → s.f = Ver.z
  t0 : s.ht = false → s.t = Ver.z
  lt : loK pts s < hiK pts s
def memK (l : List Sp) (p : Int) : Bool := l.any fun s => decide (loK pts s ≤ p) && decide (p < hiK pts s)
structure Norm (l : List Sp) : Prop where
  sp : ∀ s ∈ l, SpIn pts s
  row : l.Pairwise fun x y => hiK pts x < loK pts y
end
variable {pts : List Ver}
theorem ord_lt {v w : Ver} (hv : v ∈ pts) (hw : w ∈ pts) : orderB v w < 0 ↔ keyB pts v < keyB pts w := (key_iff hv hw).1
theorem ord_gt {v w : Ver} (hv : v ∈ pts) (hw : w ∈ pts) : orderB v w > 0 ↔ keyB pts w < keyB pts v := by
  have := ord_lt hw hv
  have n := pre_order.neg v w
  omega
theorem lo_ge (s : Sp) : -1 ≤ loK pts s := by unfold loK; split; have := key_pos pts s.f; omega; omega
theorem hi_le (s : Sp) : hiK pts s ≤ pts.length + 1 := by unfold hiK; split; have := key_pos pts s.t; omega; omega
theorem hi_ge (s : Sp) : 0 ≤ hiK pts s := by unfold hiK; split; have := key_pos pts s.t; omega; omega
theorem lo_m {s : Sp} : loK pts s = -1 ↔ s.hf = false := by
  unfold loK
  have := key_pos pts s.f
  cases s.hf <;> simp; omega
theorem hi_m {s : Sp} : hiK pts s = pts.length + 1 ↔ s.ht = false := by
  unfold hiK
  have := key_pos pts s.t
  cases s.ht <;> simp; omega
theorem sp_same {s u : Sp} (hs : SpIn pts s) (hu : SpIn pts u) (h1 : loK pts s = loK pts u) (h2 : hiK pts s = hiK pts u) : s = u := by
  have e1 : s.hf = u.hf := by
    have a := lo_m (pts := pts) (s := s)
    have b := lo_m (pts := pts) (s := u)
    rw [h1] at a
    cases h : s.hf <;> cases h' : u.hf <;> simp_all
  have e2 : s.ht = u.ht := by
    have a := hi_m (pts := pts) (s := s)
    have b := hi_m (pts := pts) (s := u)
    rw [h2] at a
    cases h : s.ht <;> cases h' : u.ht <;> simp_all
  have e3 : s.f = u.f := by
    cases h : s.hf with
    | false => rw [hs.f0 h, hu.f0 (e1 ▸ h)]
    | true =>
      refine (key_iff (hs.f1 h) (hu.f1 (e1 ▸ h))).2 ?_
      have := h1
      unfold loK at this
      rw [if_pos h, if_pos (e1 ▸ h)] at this
      exact this
  have e4 : s.t = u.t := by
    cases h : s.ht with
    | false => rw [hs.t0 h, hu.t0 (e2 ▸ h)]
    | true =>
      refine (key_iff (hs.t1 h) (hu.t1 (e2 ▸ h))).2 ?_
      have := h2
      unfold hiK at this
      rw [if_pos h, if_pos (e2 ▸ h)] at this
      exact this
  cases s; cases u; simp_all
theorem lo_true {s : Sp} (h : s.hf = true) : loK pts s = keyB pts s.f := by unfold loK; rw [if_pos h]
theorem hi_true {s : Sp} (h : s.ht = true) : hiK pts s = keyB pts s.t := by unfold hiK; rw [if_pos h]
theorem lo_false {s : Sp} (h : s.hf = false) : loK pts s = -1 := lo_m.2 h
theorem hi_false {s : Sp} (h : s.ht = false) : hiK pts s = pts.length + 1 := hi_m.2 h
theorem meet_f {s u : Sp} (hs : SpIn pts s) (hu : SpIn pts u) :
    (meetF s u = true → u.hf = true ∧ loK pts s < loK pts u) ∧ (meetF s u = false → loK pts u ≤ loK pts s) := by
  have g1 := lo_ge (pts := pts) s
  have kf := key_pos pts u.f
  unfold meetF
  cases h1 : u.hf with
  | false =>
    rw [lo_false h1]
    simpa using g1
  | true =>
    have m1 := hu.f1 h1
    cases h2 : s.hf with
    | false => rw [lo_false h2, lo_true h1]; simp; omega
    | true =>
      have o := ord_gt m1 (hs.f1 h2)
      rw [lo_true h1, lo_true h2]
      simp
      exact ⟨fun h => o.1 h, fun h => by omega⟩
theorem meet_t {s u : Sp} (hs : SpIn pts s) (hu : SpIn pts u) :
    (meetT s u = true → u.ht = true ∧ hiK pts u < hiK pts s) ∧ (meetT s u = false → hiK pts s ≤ hiK pts u) := by
  have g1 := hi_le (pts := pts) s
  have kf := key_pos pts u.t
  unfold meetT
  cases h1 : u.ht with
  | false =>
    rw [hi_false h1]
    simpa using g1
  | true =>
    have m1 := hu.t1 h1
    cases h2 : s.ht with
    | false => rw [hi_false h2, hi_true h1]; simp; omega
    | true =>
      have o := ord_lt m1 (hs.t1 h2)
      rw [hi_true h1, hi_true h2]
      simp
      exact ⟨fun h => o.1 h, fun h => by omega⟩
theorem meet_lo {s u : Sp} (hs : SpIn pts s) (hu : SpIn pts u) : loK pts (meetS s u) = max (loK pts s) (loK pts u) := by
  have h := meet_f hs hu
  cases e : meetF s u with
  | true =>
    have h := h.1 e
    rw [lo_true (s := meetS s u) (by simp [meetS, e]), show (meetS s u).f = u.f by simp [meetS, e], ← lo_true h.1]
    omega
  | false =>
    have h := h.2 e
    have e2 : loK pts (meetS s u) = loK pts s := by unfold loK; simp [meetS, e]
    omega
theorem meet_hi {s u : Sp} (hs : SpIn pts s) (hu : SpIn pts u) : hiK pts (meetS s u) = min (hiK pts s) (hiK pts u) := by
  have h := meet_t hs hu
  cases e : meetT s u with
  | true =>
    have h := h.1 e
    rw [hi_true (s := meetS s u) (by simp [meetS, e]), show (meetS s u).t = u.t by simp [meetS, e], ← hi_true h.1]
    omega
  | false =>
    have h := h.2 e
    have e2 : hiK pts (meetS s u) = hiK pts s := by unfold hiK; simp [meetS, e]
    omega
theorem meet_parts {s u : Sp} (hs : SpIn pts s) (hu : SpIn pts u) :
    ((meetS s u).hf = true → (meetS s u).f ∈ pts) ∧ ((meetS s u).ht = true → (meetS s u).t ∈ pts) ∧ ((meetS s u).hf = false → (meetS s u).f = Ver.z) ∧ ((meetS s u).ht = false → (meetS s u).t = Ver.z) := by
  have a := meet_f hs hu
  have b := meet_t hs hu
  refine ⟨?_, ?_, ?_, ?_⟩
  · cases e : meetF s u <;> simp [meetS, e]
    · exact hs.f1
    · exact hu.f1 (a.1 e).1
  · cases e : meetT s u <;> simp [meetS, e]
    · exact hs.t1
    · exact hu.t1 (b.1 e).1
  · cases e : meetF s u <;> simp [meetS, e]
    exact hs.f0
  · cases e : meetT s u <;> simp [meetS, e]
    exact hs.t0
theorem meet_ok {s u : Sp} (hs : SpIn pts s) (hu : SpIn pts u) : meetOk s u = decide (loK pts (meetS s u) < hiK pts (meetS s u)) := by
  have p := meet_parts hs hu
  have g1 := lo_ge (pts := pts) (meetS s u)
  have g2 := hi_le (pts := pts) (meetS s u)
  have g3 := hi_ge (pts := pts) (meetS s u)
  unfold meetOk
  cases h1 : (meetS s u).hf with
  | false => rw [lo_false h1]; simp; omega
  | true =>
    cases h2 : (meetS s u).ht with
    | false =>
      rw [hi_false h2, lo_true h1]
      have := key_pos pts (meetS s u).f
      simp; omega
    | true =>
      have o := ord_lt (p.1 h1) (p.2.1 h2)
      rw [lo_true h1, hi_true h2]
      simp only [Bool.not_true, Bool.false_or]
      exact decide_eq_decide.2 o
theorem meet_in {s u : Sp} (hs : SpIn pts s) (hu : SpIn pts u) (h : meetOk s u = true) : SpIn pts (meetS s u) := by
  have p := meet_parts hs hu
  rw [meet_ok hs hu] at h
  exact ⟨p.1, p.2.1, p.2.2.1, p.2.2.2, by simpa using h⟩
theorem memK_iff {l : List Sp} {p : Int} : memK pts l p = true ↔ ∃ s ∈ l, loK pts s ≤ p ∧ p < hiK pts s := by
  unfold memK; simp [List.any_eq_true]
theorem pairs_mem {aa bb : List Sp} {x : Sp} : x ∈ pairs aa bb ↔ ∃ s ∈ aa, ∃ u ∈ bb, meetOk s u = true ∧ x = meetS s u := by
  unfold pairs meets
  constructor
  · intro h
    obtain ⟨l, hl, hx⟩ := List.mem_flatten.1 h
    obtain ⟨s, hs, rfl⟩ := List.mem_map.1 hl
    obtain ⟨u, hu, rfl⟩ := List.mem_map.1 hx
    have := List.mem_filter.1 hu
    exact ⟨s, hs, u, this.1, this.2, rfl⟩
  · rintro ⟨s, hs, u, hu, ho, rfl⟩
    exact List.mem_flatten.2 ⟨_, List.mem_map.2 ⟨s, hs, rfl⟩, List.mem_map.2 ⟨u, List.mem_filter.2 ⟨hu, ho⟩, rfl⟩⟩
theorem pairs_norm {aa bb : List Sp} (ha : Norm pts aa) (hb : Norm pts bb) : Norm pts (pairs aa bb) := by
  refine ⟨fun x hx => ?_, ?_⟩
  · obtain ⟨s, hs, u, hu, ho, rfl⟩ := pairs_mem.1 hx
    exact meet_in (ha.sp s hs) (hb.sp u hu) ho
  · obtain ⟨sa, ra⟩ := ha
    induction aa with
    | nil => exact List.Pairwise.nil
    | cons s aa ih =>
      have hs := sa s List.mem_cons_self
      have ra' := List.pairwise_cons.1 ra
      show List.Pairwise _ (meets s bb ++ pairs aa bb)
      refine List.pairwise_append.2 ⟨?_, ih (fun x hx => sa x (List.mem_cons_of_mem _ hx)) ra'.2, ?_⟩
      · unfold meets
        refine List.pairwise_map.2 ?_
        refine List.Pairwise.imp_of_mem ?_ (hb.row.filter _)
        intro x y hx hy hxy
        have hx := hb.sp x (List.mem_filter.1 hx).1
        have hy := hb.sp y (List.mem_filter.1 hy).1
        rw [meet_hi hs hx, meet_lo hs hy]
        omega
      · intro x hx y hy
        unfold meets at hx
        obtain ⟨u, hu, rfl⟩ := List.mem_map.1 hx
        obtain ⟨s', hs', u', hu', ho, rfl⟩ := pairs_mem.1 hy
        have h1 := ra'.1 s' hs'
        have hu2 := hb.sp u (List.mem_filter.1 hu).1
        have hs2 := sa s' (List.mem_cons_of_mem _ hs')
        have hu3 := hb.sp u' hu'
        rw [meet_hi hs hu2, meet_lo hs2 hu3]
        omega
theorem pairs_memK {aa bb : List Sp} (ha : Norm pts aa) (hb : Norm pts bb) (p : Int) : memK pts (pairs aa bb) p = (memK pts aa p && memK pts bb p) := by
  rw [Bool.eq_iff_iff, Bool.and_eq_true, memK_iff, memK_iff, memK_iff]
  constructor
  · rintro ⟨x, hx, h1, h2⟩
    obtain ⟨s, hs, u, hu, ho, rfl⟩ := pairs_mem.1 hx
    rw [meet_lo (ha.sp s hs) (hb.sp u hu)] at h1
    rw [meet_hi (ha.sp s hs) (hb.sp u hu)] at h2
    exact ⟨⟨s, hs, by omega, by omega⟩, ⟨u, hu, by omega, by omega⟩⟩
  · rintro ⟨⟨s, hs, h1, h2⟩, ⟨u, hu, h3, h4⟩⟩
    have e1 := meet_lo (ha.sp s hs) (hb.sp u hu)
    have e2 := meet_hi (ha.sp s hs) (hb.sp u hu)
    refine ⟨meetS s u, pairs_mem.2 ⟨s, hs, u, hu, ?_, rfl⟩, by omega, by omega⟩
    rw [meet_ok (ha.sp s hs) (hb.sp u hu)]
    simp; omega
def scanS : Option Sp → List (Ver × Bool) → List Sp
  | none, [] => []
  | some s, [] => [s]
  | none, (e, true) :: r => scanS (some ⟨true, false, e, Ver.z⟩) r
  | none, (e, false) :: r => scanS none r
  | some s, (e, true) :: r => scanS (some s) r
  | some s, (e, false) :: r => ⟨s.hf, true, s.f, e⟩ :: scanS none r
def flags (pts : List Ver) (l : List Sp) (E : List Ver) : List (Ver × Bool) := E.map fun e => (e, memK pts l (keyB pts e))
def Sorted (pts : List Ver) (E : List Ver) : Prop := E.Pairwise fun x y => keyB pts x < keyB pts y
def EndsIn (E : List Ver) (l : List Sp) : Prop := ∀ s ∈ l, (s.hf = true → s.f ∈ E) ∧ (s.ht = true → s.t ∈ E)
theorem memK_cons (s : Sp) (l : List Sp) (p : Int) : memK pts (s :: l) p = ((decide (loK pts s ≤ p) && decide (p < hiK pts s)) || memK pts l p) := rfl
theorem memK_low {l : List Sp} {p : Int} (h : ∀ s ∈ l, p < loK pts s) : memK pts l p = false := by
  rw [← Bool.not_eq_true, memK_iff]
  rintro ⟨s, hs, h1, _⟩
  have := h s hs
  omega
theorem flags_congr {l m : List Sp} {E : List Ver} (h : ∀ e ∈ E, memK pts l (keyB pts e) = memK pts m (keyB pts e)) : flags pts l E = flags pts m E :=
  List.map_congr_left fun e he => by rw [h e he]
/-- What stands in a row is rebuilt from the ends: `open'`: the first span is open already. -/
theorem scan_both : ∀ (E : List Ver), (∀ e ∈ E, e ∈ pts) → Sorted pts E →
    (∀ l, Norm pts l → EndsIn E l → (∀ s ∈ l, s.hf = true) → scanS none (flags pts l E) = l) ∧
    (∀ s l, Norm pts (s :: l) → (s.ht = true → s.t ∈ E) → EndsIn E l → (∀ e ∈ E, loK pts s < keyB pts e) → scanS (some ⟨s.hf, false, s.f, Ver.z⟩) (flags pts (s :: l) E) = s :: l)
  | [], _, _ => by
    refine ⟨fun l hl hE hf => ?_, fun s l hn ht hE _ => ?_⟩
    · cases l with
      | nil => rfl
      | cons s l => have := (hE s List.mem_cons_self).1 (hf s List.mem_cons_self); cases this
    · have hs := hn.sp s List.mem_cons_self
      have h0 : s.ht = false := by cases h : s.ht; rfl; exact absurd (ht h) (by simp)
      have hl : l = [] := by
        cases l with
        | nil => rfl
        | cons x l =>
          have h1 := (List.pairwise_cons.1 hn.row).1 x List.mem_cons_self
          have h2 := hi_false (pts := pts) h0
          have hx := hn.sp x (List.mem_cons_of_mem _ List.mem_cons_self)
          have h3 := hx.lt
          have h4 := hi_le (pts := pts) x
          omega
      subst hl
      show [_] = [s]
      have := hs.t0 h0
      cases s; simp_all
  | e :: E, hp, hE0 => by
    have hE1 := List.pairwise_cons.1 hE0
    have ih := scan_both E (fun x hx => hp x (List.mem_cons_of_mem _ hx)) hE1.2
    have kp : ∀ v, 0 ≤ keyB pts v ∧ keyB pts v ≤ pts.length := key_pos pts
    refine ⟨fun l hl hE hf => ?_, fun s l hn ht hE hlo => ?_⟩
    · cases l with
      | nil => exact ih.1 [] hl (fun _ h => by cases h) (fun _ h => by cases h)
      | cons s l =>
        have hs := hl.sp s List.mem_cons_self
        have hf1 := hf s List.mem_cons_self
        have hEs := hE s List.mem_cons_self
        have row := List.pairwise_cons.1 hl.row
        by_cases he : s.f = e
        · have l1 : loK pts s = keyB pts e := by rw [lo_true hf1, he]
          have hm : memK pts (s :: l) (keyB pts e) = true := memK_iff.2 ⟨s, List.mem_cons_self, by omega, by have := hs.lt; omega⟩
          show scanS none ((e, memK pts (s :: l) (keyB pts e)) :: flags pts (s :: l) E) = _
          rw [hm]
          show scanS (some ⟨true, false, e, Ver.z⟩) _ = _
          have := ih.2 s l hl ?_ ?_ ?_
          · rw [hf1, he] at this; exact this
          · intro h
            rcases List.mem_cons.1 (hEs.2 h) with h' | h'
            · have := hs.lt
              rw [hi_true h, h'] at this
              omega
            · exact h'
          · intro x hx
            have hx0 := hE x (List.mem_cons_of_mem _ hx)
            have hx1 := row.1 x hx
            have hx2 := hl.sp x (List.mem_cons_of_mem _ hx)
            have := hs.lt
            have := hx2.lt
            refine ⟨fun h => ?_, fun h => ?_⟩
            · rcases List.mem_cons.1 (hx0.1 h) with h' | h'
              · rw [lo_true h, h'] at hx1; omega
              · exact h'
            · rcases List.mem_cons.1 (hx0.2 h) with h' | h'
              · have := hi_true (pts := pts) h
                rw [h'] at this; omega
              · exact h'
          · intro x hx
            have := hE1.1 x hx
            omega
        · have hfE : s.f ∈ E := (List.mem_cons.1 (hEs.1 hf1)).resolve_left he
          have h1 := hE1.1 _ hfE
          have l1 := lo_true (pts := pts) hf1
          have hlow : ∀ x ∈ s :: l, keyB pts e < loK pts x := by
            intro x hx
            rcases List.mem_cons.1 hx with rfl | hx
            · omega
            · have := row.1 x hx
              have := hs.lt
              omega
          show scanS none ((e, memK pts (s :: l) (keyB pts e)) :: flags pts (s :: l) E) = _
          rw [memK_low hlow]
          refine ih.1 (s :: l) hl (fun x hx => ?_) hf
          have hx0 := hE x hx
          have hx2 := hlow x hx
          have hx3 := (hl.sp x hx).lt
          refine ⟨fun h => (List.mem_cons.1 (hx0.1 h)).resolve_left fun h' => ?_, fun h => (List.mem_cons.1 (hx0.2 h)).resolve_left fun h' => ?_⟩
          · rw [lo_true h, h'] at hx2; omega
          · have := hi_true (pts := pts) h
            rw [h'] at this; omega
    · have hs := hn.sp s List.mem_cons_self
      have row := List.pairwise_cons.1 hn.row
      have hl : Norm pts l := ⟨fun x hx => hn.sp x (List.mem_cons_of_mem _ hx), row.2⟩
      have h0 := hlo e List.mem_cons_self
      have hrest : ∀ {p : Int}, (∀ x ∈ l, p < loK pts x) → ∀ x ∈ l, p < hiK pts x := fun h x hx => by
        have := h x hx; have := (hl.sp x hx).lt; omega
      by_cases h1 : keyB pts e < hiK pts s
      · have hm : memK pts (s :: l) (keyB pts e) = true := memK_iff.2 ⟨s, List.mem_cons_self, by omega, h1⟩
        show scanS (some _) ((e, memK pts (s :: l) (keyB pts e)) :: flags pts (s :: l) E) = _
        rw [hm]
        refine ih.2 s l hn ?_ ?_ (fun x hx => hlo x (List.mem_cons_of_mem _ hx))
        · intro h
          refine (List.mem_cons.1 (ht h)).resolve_left fun h' => ?_
          rw [hi_true h, h'] at h1; omega
        · intro x hx
          have hx0 := hE x hx
          have hx1 := row.1 x hx
          have hx3 := (hl.sp x hx).lt
          refine ⟨fun h => (List.mem_cons.1 (hx0.1 h)).resolve_left fun h' => ?_, fun h => (List.mem_cons.1 (hx0.2 h)).resolve_left fun h' => ?_⟩
          · rw [lo_true h, h'] at hx1; omega
          · have := hi_true (pts := pts) h
            rw [h'] at this; omega
      · have ht1 : s.ht = true := by
          cases h : s.ht with
          | true => rfl
          | false => have := hi_false (pts := pts) h; have := kp e; omega
        have hte : s.t = e := by
          rcases List.mem_cons.1 (ht ht1) with h' | h'
          · exact h'
          · have := hE1.1 _ h'
            rw [hi_true ht1] at h1
            omega
        have hek : hiK pts s = keyB pts e := by rw [hi_true ht1, hte]
        have hm : memK pts (s :: l) (keyB pts e) = false := by
          rw [memK_cons, show decide (keyB pts e < hiK pts s) = false by simp; omega, Bool.and_false, Bool.false_or]
          exact memK_low fun x hx => by have := row.1 x hx; omega
        show scanS (some _) ((e, memK pts (s :: l) (keyB pts e)) :: flags pts (s :: l) E) = _
        rw [hm]
        show ⟨s.hf, true, s.f, e⟩ :: scanS none (flags pts (s :: l) E) = _
        rw [flags_congr (m := l) (fun x hx => by
          have := hE1.1 x hx
          rw [memK_cons, show decide (keyB pts x < hiK pts s) = false by simp; omega, Bool.and_false, Bool.false_or])]
        rw [ih.1 l hl ?_ ?_]
        · cases s; simp_all
        · intro x hx
          have hx0 := hE x hx
          have hx1 := row.1 x hx
          have hx3 := (hl.sp x hx).lt
          refine ⟨fun h => (List.mem_cons.1 (hx0.1 h)).resolve_left fun h' => ?_, fun h => (List.mem_cons.1 (hx0.2 h)).resolve_left fun h' => ?_⟩
          · rw [lo_true h, h'] at hx1; omega
          · have := hi_true (pts := pts) h
            rw [h'] at this; omega
        · intro x hx
          cases h : x.hf with
          | true => rfl
          | false =>
            have := row.1 x hx
            rw [lo_false h] at this
            have := hi_ge (pts := pts) s
            omega
/-- The whole scan, from before all ends. -/
theorem scan_all {E : List Ver} {l : List Sp} (hp : ∀ e ∈ E, e ∈ pts) (hE : Sorted pts E) (hl : Norm pts l) (he : EndsIn E l) :
    scanS (if memK pts l (-1) then some Sp.z else none) (flags pts l E) = l := by
  have h := scan_both E hp hE
  have kp : ∀ v, 0 ≤ keyB pts v ∧ keyB pts v ≤ pts.length := key_pos pts
  cases l with
  | nil => exact h.1 [] hl he (fun _ h => by cases h)
  | cons s l =>
    have row := List.pairwise_cons.1 hl.row
    have hs := hl.sp s List.mem_cons_self
    cases hf : s.hf with
    | true =>
      rw [memK_low, if_neg (by simp)]
      · refine h.1 _ hl he fun x hx => ?_
        rcases List.mem_cons.1 hx with rfl | hx
        · exact hf
        · cases h' : x.hf with
          | true => rfl
          | false =>
            have := row.1 x hx
            rw [lo_false h'] at this
            have := hi_ge (pts := pts) s
            omega
      · intro x hx
        have := kp s.f
        rcases List.mem_cons.1 hx with rfl | hx
        · rw [lo_true hf]; omega
        · have := row.1 x hx
          have := hs.lt
          rw [lo_true hf] at this
          omega
    | false =>
      have hm : memK pts (s :: l) (-1) = true := memK_iff.2 ⟨s, List.mem_cons_self, by rw [lo_false hf]; omega, by have := hi_ge (pts := pts) s; omega⟩
      rw [hm, if_pos rfl]
      have := h.2 s l hl (fun h' => (he s List.mem_cons_self).2 h') (fun x hx => he x (List.mem_cons_of_mem _ hx)) (fun x hx => by rw [lo_false hf]; have := kp x; omega)
      rw [hf, hs.f0 hf] at this
      exact this
end Go.Proofs.YtnphejkeflngcaaGreatDoor

/- Plain words: what two ranges have in common, step by step. -/
set_option linter.unusedVariables false
set_option linter.unusedSimpArgs false
namespace Go.Proofs.YtnphejkeflngcaaGreatDoor
open Go
def pairsTo (aa bb : List Sp) (i j : Nat) : List Sp := pairs (aa.take i) bb ++ meets (aa.getD i Sp.z) (bb.take j)
theorem meets_nil (s : Sp) : meets s [] = [] := rfl
theorem take_getD {α : Type} {l : List α} {i : Nat} {d : α} (h : i < l.length) : l.take (i + 1) = l.take i ++ [l.getD i d] := by
  rw [List.take_succ_eq_append_getElem h, List.getD_eq_getElem?_getD, List.getElem?_eq_getElem h]; rfl
theorem pairs_snoc {β : Type} {f : Sp → β} {aa bb : List Sp} {i j : Nat} (hj : j < bb.length) (h : meetOk (aa.getD i Sp.z) (bb.getD j Sp.z) = true) :
    (pairsTo aa bb i j).map f ++ [f (meetS (aa.getD i Sp.z) (bb.getD j Sp.z))] = (pairsTo aa bb i (j + 1)).map f := by
  unfold pairsTo meets
  rw [take_getD (d := Sp.z) hj, List.filter_append, List.filter_cons_of_pos h]
  simp
theorem pairs_skip {aa bb : List Sp} {i j : Nat} (hj : j < bb.length) (h : meetOk (aa.getD i Sp.z) (bb.getD j Sp.z) = false) : pairsTo aa bb i j = pairsTo aa bb i (j + 1) := by
  unfold pairsTo meets
  rw [take_getD (d := Sp.z) hj, List.filter_append, List.filter_cons_of_neg (by rw [h]; simp)]
  simp
theorem pairs_row {aa bb : List Sp} {i j : Nat} (hi : i < aa.length) (hj : bb.length ≤ j) : pairsTo aa bb i j = pairsTo aa bb (i + 1) 0 := by
  unfold pairsTo
  rw [List.take_of_length_le hj, take_getD (d := Sp.z) hi]
  unfold pairs
  simp [meets_nil]
theorem pairs_end {aa bb : List Sp} {i : Nat} (hi : aa.length ≤ i) : pairsTo aa bb i 0 = pairs aa bb := by
  unfold pairsTo
  rw [List.take_of_length_le hi]
  simp [meets_nil]
theorem meets_len (s : Sp) (bb : List Sp) : (meets s bb).length ≤ bb.length := by
  unfold meets
  rw [List.length_map]
  exact List.length_filter_le _ _
theorem pairs_len (bb : List Sp) : ∀ (aa : List Sp), (pairs aa bb).length ≤ aa.length * bb.length
  | [] => by simp [pairs]
  | s :: aa => by
    have ih := pairs_len bb aa
    have h := meets_len s bb
    show (meets s bb ++ pairs aa bb).length ≤ (aa.length + 1) * bb.length
    rw [List.length_append, Nat.add_mul]
    omega
theorem range_10 {ss : List Sp} (h : rangeE ss = 0) : ss.length ≤ 10 := by
  unfold rangeE at h
  split at h
  · exact absurd h (by decide)
  · rename_i h'; simp at h'; omega
theorem firstR_2 {aa bb : List Sp} (h : (firstR [aa, bb] != 0) = false) : rangeE aa = 0 ∧ rangeE bb = 0 := by
  have h : firstR [aa, bb] = 0 := by simpa using h
  unfold firstR at h
  rw [List.map_cons, List.map_cons, List.map_nil, first2] at h
  exact firstB_0 h
theorem pairsTo_len {aa bb : List Sp} (h : (firstR [aa, bb] != 0) = false) (i j : Nat) : (pairsTo aa bb i j).length ≤ 1000 := by
  have h1 := range_10 (firstR_2 h).1
  have h2 := range_10 (firstR_2 h).2
  have a := pairs_len bb (aa.take i)
  have b := meets_len (aa.getD i Sp.z) (bb.take j)
  have c : (aa.take i).length * bb.length ≤ 10 * 10 := Nat.mul_le_mul (by simp; omega) (by omega)
  unfold pairsTo
  rw [List.length_append]
  rw [List.length_take] at b
  omega
theorem cB_err {aa bb : List Sp} (h : (firstR [aa, bb] != 0) = true) : CommonB aa bb = ([], firstR [aa, bb]) := if_pos h
theorem cB_large {aa bb : List Sp} (h : (firstR [aa, bb] != 0) = false) (h2 : decide (((pairs aa bb).length : Int) > 10) = true) : CommonB aa bb = ([], 4) := by
  unfold CommonB; rw [if_neg (Bool.eq_false_iff.1 h), if_pos h2]
theorem cB_ok {aa bb : List Sp} (h : (firstR [aa, bb] != 0) = false) (h2 : decide (((pairs aa bb).length : Int) > 10) = false) : CommonB aa bb = (pairs aa bb, 0) := by
  unfold CommonB; rw [if_neg (Bool.eq_false_iff.1 h), if_neg (Bool.eq_false_iff.1 h2)]
theorem wB_err {aa bb : List Sp} (h : (firstR [aa, bb] != 0) = true) : WithinB aa bb = (false, firstR [aa, bb]) := if_pos h
theorem wB_ok {aa bb : List Sp} (h : (firstR [aa, bb] != 0) = false) : WithinB aa bb = (aa.all (fun s => bb.any (insB s)), 0) := if_neg (Bool.eq_false_iff.1 h)
theorem any_step {α : Type} {xs : List α} {p : α → Bool} {i : Nat} {d : α} (hi : i < xs.length) : (xs.take (i + 1)).any p = ((xs.take i).any p || p (xs.getD i d)) := by
  rw [take_getD (d := d) hi, List.any_append]; simp
theorem bestTo_0 (ss : List Sp) (l : List Ver) : bestTo ss l 0 = -1 := rfl
theorem bestTo_s (ss : List Sp) (l : List Ver) (i : Nat) : bestTo ss l (i + 1) = bestStep ss l (bestTo ss l i) i := rfl
theorem gB_1 {ss : List Sp} {l : List Ver} (h : (rangeE ss != 0) = true) : GreatestB ss l = (0, rangeE ss) := if_pos h
theorem gB_2 {ss : List Sp} {l : List Ver} (h : (rangeE ss != 0) = false) (h2 : decide ((l.length : Int) > 1000) = true) : GreatestB ss l = (0, 4) := by
  unfold GreatestB; rw [if_neg (Bool.eq_false_iff.1 h), if_pos h2]
theorem gB_3 {ss : List Sp} {l : List Ver} {n : Int} (h : (rangeE ss != 0) = false) (h2 : decide ((l.length : Int) > 1000) = false) (h3 : firstNe (l.map Ver.check) = n) (hn : (n != 0) = true) : GreatestB ss l = (0, n) := by
  unfold GreatestB; rw [if_neg (Bool.eq_false_iff.1 h), if_neg (Bool.eq_false_iff.1 h2), if_pos (by rw [h3]; exact hn), h3]
theorem gB_4 {ss : List Sp} {l : List Ver} (h : (rangeE ss != 0) = false) (h2 : decide ((l.length : Int) > 1000) = false) (h3 : firstNe (l.map Ver.check) = 0) (h4 : decide (bestTo ss l l.length < 0) = true) : GreatestB ss l = (0, 10) := by
  unfold GreatestB; rw [if_neg (Bool.eq_false_iff.1 h), if_neg (Bool.eq_false_iff.1 h2), if_neg (by rw [h3]; simp), if_pos h4]
theorem gB_5 {ss : List Sp} {l : List Ver} (h : (rangeE ss != 0) = false) (h2 : decide ((l.length : Int) > 1000) = false) (h3 : firstNe (l.map Ver.check) = 0) (h4 : decide (bestTo ss l l.length < 0) = false) : GreatestB ss l = (bestTo ss l l.length, 0) := by
  unfold GreatestB; rw [if_neg (Bool.eq_false_iff.1 h), if_neg (Bool.eq_false_iff.1 h2), if_neg (by rw [h3]; simp), if_neg (Bool.eq_false_iff.1 h4)]
end Go.Proofs.YtnphejkeflngcaaGreatDoor

set_option linter.unusedVariables false
set_option linter.unusedSimpArgs false
set_option maxRecDepth 100000
set_option maxHeartbeats 4000000
namespace Go.Proofs.YtnphejkeflngcaaGreatDoor
open Go
open Go.RowKit
attribute [local irreducible] rangeE orderB compareR Lib.split meetOk meetS
theorem pc_ver_Common (ys zs : List Sp) (la : ys.length ≤ 2000000) (lb : zs.length ≤ 2000000) (ha : ∀ s ∈ ys, SpLen s) (hb : ∀ s ∈ zs, SpLen s) :
  PureCall Tryz.prog J 23 [rgV ys, rgV zs] (.tup [rgV (CommonB ys zs).1, .one (.d (.int .i64 (CommonB ys zs).2))]) := by
 refine PureCall.of_body tOk (fn := Tryz.f23) Tryz.func23 (by kernel_rfl) rfl (Nat.le_of_ble_eq_true rfl) (fun E => ?_)
 refine W.seq ?_
 refine W.region ?_
 refine S.box rfl rfl rfl rfl ?_
 refine S.box rfl rfl rfl rfl ?_
 refine S.alloc tOk rfl rfl rfl rfl ?_
 refine S.pure tOk zOk rfl rfl rfl ?_
 refine thenK_n ?_
 refine W.seq ?_
 refine W.seq ?_
 refine W.region ?_
 refine S.pure tOk zOk rfl rfl rfl ?_
 refine S.pure tOk zOk rfl rfl rfl ?_
 refine S.slice tOk rfl rfl ?_
 refine S.call rfl rfl rfl rfl rfl (pc_ver_ranges [ys, zs] (by simp) (by intro l hl; simp at hl; rcases hl with rfl | rfl <;> omega) (by intro l hl; simp at hl; rcases hl with rfl | rfl <;> assumption)) ?_
 refine S.pure tOk zOk rfl rfl rfl ?_
 refine thenK_n ?_
 refine W.seq ?_
 refine W.region ?_
 refine S.pure tOk zOk rfl rfl rfl ?_
 refine S.pure tOk zOk rfl rfl rfl ?_
 refine thenK_n ?_
 refine W.cond rfl (fun c1 => ?_) (fun c1 => ?_)
 ·skip
  refine W.seq ?_
  refine W.region ?_
  refine S.pure tOk zOk rfl rfl rfl ?_
  refine S.pure tOk zOk rfl rfl rfl ?_
  refine S.store tOk rfl rfl rfl rfl rfl rfl rfl rfl ?_
  refine S.pure tOk zOk rfl rfl rfl ?_
  refine thenK_n ?_
  refine W.ret ?_
  refine thenK_r ?_
  exact ⟨_, rfl, rfl, le_rgNil (cB_err c1)⟩
 ·skip
  refine W.skip ?_
  refine thenK_n ?_
  refine W.seq ?_
  refine W.region ?_
  refine S.pure tOk zOk rfl rfl rfl ?_
  refine S.alloc tOk rfl rfl rfl rfl ?_
  refine S.store tOk rfl rfl rfl rfl rfl rfl rfl rfl ?_
  refine thenK_n ?_
  refine W.seq ?_
  refine W.seq ?_
  refine W.newRowB 3 0 10 81 rfl rfl rfl ?_
  refine W.region ?_
  refine S.pure tOk zOk rfl rfl rfl ?_
  refine S.pure tOk zOk rfl rfl rfl ?_
  refine S.pure tOk zOk rfl rfl rfl ?_
  refine S.pure tOk zOk rfl rfl rfl ?_
  refine thenK_n ?_
  refine W.block ?_
  refine W.loop (fun k st => ∃ i : Nat, ∃ v : Nat, ∃ al : Bool, i ≤ ys.length ∧ k = ys.length - i ∧ ∃ t b2 r2 m2, st = ⟨t, [[.d (.vec 10 (ys.map spD))], [.d (.vec 10 (zs.map spD))], [.d .nilsl], [.row 0 v 0 ((pairsTo ys zs i 0).map spD).length]] ++ b2, [some ⟨al, v, 10, 81, ((pairsTo ys zs i 0).map spD)⟩] ++ r2, [] ++ m2⟩ ∧ holdsL t [(2, .one (.ptr 0 0)), (3, .one (.ptr 1 0)), (4, .one (.ptr 2 0)), (7, .one (.ptr 3 0)), (24, .one (.d (.vec 10 (ys.map spD)))), (25, .one (.d (.int .i64 ((ys.map spD).length : Int)))), (26, .one (.d (.int .i64 (i : Int))))]) (ys.length) ⟨0, 0, false, Nat.zero_le _, rfl, _, _, _, _, rfl, rfl, rfl, rfl, rfl, rfl, rfl, rfl, trivial⟩ ?_
  rintro k0 _ ⟨i, v, al, f0_0, rfl, t0, bb0, rr0, mm0, rfl, hh0⟩
  refine W.keepR _ _ _ _ _ _ _ hh0 rfl ?_
  refine W.seq ?_
  refine W.region ?_
  refine S.pure tOk zOk rfl rfl rfl ?_
  refine thenK_n ?_
  refine W.seq ?_
  refine W.cond rfl (fun c2 => ?_) (fun c2 => ?_)
  ·skip
   have hi := row_lt c2
   have hsa := sp_at ha hi
   refine W.skip ?_
   refine thenK_n ?_
   refine W.seq ?_
   refine W.block ?_
   refine W.seq ?_
   refine W.region ?_
   refine S.pureE tOk zOk rfl (row_ok hi) (row_at Sp.z hi) rfl ?_
   refine S.pure tOk zOk rfl rfl rfl ?_
   refine S.alloc tOk rfl rfl rfl rfl ?_
   refine S.store tOk rfl rfl rfl rfl rfl rfl rfl rfl ?_
   refine thenK_n ?_
   refine W.seq ?_
   refine W.region ?_
   refine S.pure tOk zOk rfl rfl rfl ?_
   refine S.pure tOk zOk rfl rfl rfl ?_
   refine S.pure tOk zOk rfl rfl rfl ?_
   refine S.pure tOk zOk rfl rfl rfl ?_
   refine thenK_n ?_
   refine W.block ?_
   refine W.loop (fun k st => ∃ j : Nat, ∃ v2 : Nat, ∃ al2 : Bool, j ≤ zs.length ∧ k = zs.length - j ∧ ∃ t b2 r2 m2, st = ⟨t, [[.d (.vec 10 (ys.map spD))], [.d (.vec 10 (zs.map spD))], [.d .nilsl], [.row 0 v2 0 ((pairsTo ys zs i j).map spD).length], [.d (.bool (ys.getD i Sp.z).hf), .d (.bool (ys.getD i Sp.z).ht), .d (.int .i64 (ys.getD i Sp.z).f.a), .d (.int .i64 (ys.getD i Sp.z).f.b), .d (.int .i64 (ys.getD i Sp.z).f.c), .d (.str (ys.getD i Sp.z).f.e), .d (.int .i64 (ys.getD i Sp.z).t.a), .d (.int .i64 (ys.getD i Sp.z).t.b), .d (.int .i64 (ys.getD i Sp.z).t.c), .d (.str (ys.getD i Sp.z).t.e)]] ++ b2, [some ⟨al2, v2, 10, 81, ((pairsTo ys zs i j).map spD)⟩] ++ r2, [] ++ m2⟩ ∧ holdsL t [(2, .one (.ptr 0 0)), (3, .one (.ptr 1 0)), (4, .one (.ptr 2 0)), (7, .one (.ptr 3 0)), (9, .one (.ptr 4 0)), (24, .one (.d (.vec 10 (ys.map spD)))), (25, .one (.d (.int .i64 ((ys.map spD).length : Int)))), (26, .one (.d (.int .i64 (i : Int)))), (31, .one (.d (.vec 10 (zs.map spD)))), (32, .one (.d (.int .i64 ((zs.map spD).length : Int)))), (33, .one (.d (.int .i64 (j : Int))))]) (zs.length) ⟨0, v, al, Nat.zero_le _, rfl, _, _, _, _, rfl, rfl, rfl, rfl, rfl, rfl, rfl, rfl, rfl, rfl, rfl, rfl, trivial⟩ ?_
   rintro k2 _ ⟨j, v2, al2, f2_0, rfl, t2, bb2, rr2, mm2, rfl, hh2⟩
   refine W.keepR _ _ _ _ _ _ _ hh2 rfl ?_
   refine W.seq ?_
   refine W.region ?_
   refine S.pure tOk zOk rfl rfl rfl ?_
   refine thenK_n ?_
   refine W.seq ?_
   refine W.cond rfl (fun c3 => ?_) (fun c3 => ?_)
   ·skip
    have hj := row_lt c3
    have hsb := sp_at hb hj
    refine W.skip ?_
    refine thenK_n ?_
    refine W.seq ?_
    refine W.block ?_
    refine W.seq ?_
    refine W.region ?_
    refine S.pureE tOk zOk rfl (row_ok hj) (row_at Sp.z hj) rfl ?_
    refine S.pure tOk zOk rfl rfl rfl ?_
    refine S.alloc tOk rfl rfl rfl rfl ?_
    refine S.store tOk rfl rfl rfl rfl rfl rfl rfl rfl ?_
    refine thenK_n ?_
    refine W.seq ?_
    refine W.region ?_
    refine S.pure tOk zOk rfl rfl rfl ?_
    refine S.pure tOk zOk rfl rfl rfl ?_
    refine S.call rfl rfl rfl rfl rfl (pc_ver_meet (ys.getD i Sp.z) (zs.getD j Sp.z) hsa.1 hsa.2 hsb.1 hsb.2) ?_
    refine S.pure tOk zOk rfl rfl rfl ?_
    refine S.pure tOk zOk rfl rfl rfl ?_
    refine S.pure tOk zOk rfl rfl rfl ?_
    refine S.alloc tOk rfl rfl rfl rfl ?_
    refine S.store tOk rfl rfl rfl rfl rfl rfl rfl rfl ?_
    refine S.pure tOk zOk rfl rfl rfl ?_
    refine thenK_n ?_
    refine W.seq ?_
    refine W.region ?_
    refine S.pure tOk zOk rfl rfl rfl ?_
    refine thenK_n ?_
    refine W.cond rfl (fun c4 => ?_) (fun c4 => ?_)
    ·skip
     refine W.region ?_
     refine S.pure tOk zOk rfl rfl rfl ?_
     refine S.pure tOk zOk rfl rfl rfl ?_
     refine S.pure tOk zOk rfl rfl rfl ?_
     refine S.slice tOk rfl rfl ?_
     refine S.append tOk rfl rfl rfl rfl rfl rfl rfl rfl rfl rfl rfl rfl (by have hq := pairsTo_len c1 i j; show _ + 1 ≤ _; simp; omega) rfl (pairs_snoc hj c4) rfl ?_
     refine S.pure tOk zOk rfl rfl rfl ?_
     refine S.store tOk rfl rfl rfl rfl rfl rfl rfl rfl ?_
     refine blockK_n ?_
     refine thenK_n ?_
     refine W.region ?_
     refine S.pure tOk zOk rfl rfl rfl ?_
     refine S.pure tOk zOk rfl rfl rfl ?_
     refine loop_n (zs.length - (j + 1)) (by omega) ⟨j + 1, _, _, hj, rfl, _, _, _, _, rfl, rfl, rfl, rfl, rfl, rfl, rfl, rfl, rfl, rfl, rfl, inc_i64 (by omega), trivial⟩
    ·skip
     rw [pairs_skip hj c4]
     refine W.skip ?_
     refine blockK_n ?_
     refine thenK_n ?_
     refine W.region ?_
     refine S.pure tOk zOk rfl rfl rfl ?_
     refine S.pure tOk zOk rfl rfl rfl ?_
     refine loop_n (zs.length - (j + 1)) (by omega) ⟨j + 1, _, _, hj, rfl, _, _, _, _, rfl, rfl, rfl, rfl, rfl, rfl, rfl, rfl, rfl, rfl, rfl, inc_i64 (by omega), trivial⟩
   ·skip
    have hj := row_ge c3
    refine W.exit ?_
    refine thenK_e ?_
    refine thenK_e ?_
    refine blockK_x ?_
    refine blockK_n ?_
    refine thenK_n ?_
    refine W.region ?_
    refine S.pure tOk zOk rfl rfl rfl ?_
    refine S.pure tOk zOk rfl rfl rfl ?_
    rw [pairs_row hi hj]
    refine loop_n (ys.length - (i + 1)) (by omega) ⟨i + 1, _, _, hi, rfl, _, _, _, _, rfl, rfl, rfl, rfl, rfl, rfl, rfl, inc_i64 (by omega), trivial⟩
  ·skip
   have hi := row_ge c2
   refine W.exit ?_
   refine thenK_e ?_
   refine thenK_e ?_
   refine blockK_x ?_
   refine thenK_n ?_
   refine W.seq ?_
   refine W.seq ?_
   rw [pairs_end hi]
   refine W.freezeB (ri := 0) (q := ⟨_, _, _, _, _⟩) 3 0 rfl rfl rfl rfl ?_
   refine W.region ?_
   refine S.pure tOk zOk rfl rfl rfl ?_
   refine S.pure tOk zOk rfl rfl rfl ?_
   refine S.pure tOk zOk rfl rfl rfl ?_
   refine S.pure tOk zOk rfl rfl rfl ?_
   refine thenK_n ?_
   refine W.cond rfl (fun c5 => ?_) (fun c5 => ?_)
   ·skip
    refine W.seq ?_
    refine W.region ?_
    refine S.pure tOk zOk rfl rfl rfl ?_
    refine S.store tOk rfl rfl rfl rfl rfl rfl rfl rfl ?_
    refine S.pure tOk zOk rfl rfl rfl ?_
    refine thenK_n ?_
    refine W.ret ?_
    refine thenK_r ?_
    exact ⟨_, rfl, rfl, le_rgNil (cB_large c1 (by have h := c5; rw [List.length_map] at h; exact h))⟩
   ·skip
    refine W.skip ?_
    refine thenK_n ?_
    refine W.seq ?_
    refine W.region ?_
    refine S.pure tOk zOk rfl rfl rfl ?_
    refine S.store tOk rfl rfl rfl rfl rfl rfl rfl rfl ?_
    refine S.pure tOk zOk rfl rfl rfl ?_
    refine thenK_n ?_
    refine W.ret ?_
    exact ⟨_, rfl, rfl, le_rg (cB_ok c1 (by have h := c5; rw [List.length_map] at h; exact h))⟩
theorem pc_ver_Within (ys zs : List Sp) (la : ys.length ≤ 2000000) (lb : zs.length ≤ 2000000) (ha : ∀ s ∈ ys, SpLen s) (hb : ∀ s ∈ zs, SpLen s) :
  PureCall Tryz.prog J 24 [rgV ys, rgV zs] (.tup [.one (.d (.bool (WithinB ys zs).1)), .one (.d (.int .i64 (WithinB ys zs).2))]) := by
 refine PureCall.of_body tOk (fn := Tryz.f24) Tryz.func24 (by kernel_rfl) rfl (Nat.le_of_ble_eq_true rfl) (fun E => ?_)
 refine W.seq ?_
 refine W.region ?_
 refine S.box rfl rfl rfl rfl ?_
 refine S.box rfl rfl rfl rfl ?_
 refine S.pure tOk zOk rfl rfl rfl ?_
 refine S.pure tOk zOk rfl rfl rfl ?_
 refine thenK_n ?_
 refine W.seq ?_
 refine W.seq ?_
 refine W.region ?_
 refine S.pure tOk zOk rfl rfl rfl ?_
 refine S.pure tOk zOk rfl rfl rfl ?_
 refine S.slice tOk rfl rfl ?_
 refine S.call rfl rfl rfl rfl rfl (pc_ver_ranges [ys, zs] (by simp) (by intro l hl; simp at hl; rcases hl with rfl | rfl <;> omega) (by intro l hl; simp at hl; rcases hl with rfl | rfl <;> assumption)) ?_
 refine S.pure tOk zOk rfl rfl rfl ?_
 refine thenK_n ?_
 refine W.seq ?_
 refine W.region ?_
 refine S.pure tOk zOk rfl rfl rfl ?_
 refine S.pure tOk zOk rfl rfl rfl ?_
 refine thenK_n ?_
 refine W.cond rfl (fun c1 => ?_) (fun c1 => ?_)
 ·skip
  refine W.seq ?_
  refine W.region ?_
  refine S.pure tOk zOk rfl rfl rfl ?_
  refine S.pure tOk zOk rfl rfl rfl ?_
  refine S.pure tOk zOk rfl rfl rfl ?_
  refine thenK_n ?_
  refine W.ret ?_
  refine thenK_r ?_
  exact ⟨_, rfl, rfl, LeV.of_force rfl (by rw [wB_err c1]; rfl)⟩
 ·skip
  refine W.skip ?_
  refine thenK_n ?_
  refine W.seq ?_
  refine W.seq ?_
  refine W.region ?_
  refine S.pure tOk zOk rfl rfl rfl ?_
  refine S.pure tOk zOk rfl rfl rfl ?_
  refine S.pure tOk zOk rfl rfl rfl ?_
  refine S.pure tOk zOk rfl rfl rfl ?_
  refine thenK_n ?_
  refine W.block ?_
  refine W.loop (fun k st => ∃ i : Nat, i ≤ ys.length ∧ (ys.take i).all (fun s => zs.any (insB s)) = true ∧ k = ys.length - i ∧ ∃ t b2 r2 m2, st = ⟨t, [[.d (.vec 10 (ys.map spD))], [.d (.vec 10 (zs.map spD))]] ++ b2, [] ++ r2, [] ++ m2⟩ ∧ holdsL t [(2, .one (.ptr 0 0)), (3, .one (.ptr 1 0)), (22, .one (.d (.vec 10 (ys.map spD)))), (23, .one (.d (.int .i64 ((ys.map spD).length : Int)))), (24, .one (.d (.int .i64 (i : Int))))]) (ys.length) ⟨0, Nat.zero_le _, by simp, rfl, _, _, _, _, rfl, rfl, rfl, rfl, rfl, rfl, trivial⟩ ?_
  rintro k0 _ ⟨i, f0_0, f0_1, rfl, t0, bb0, rr0, mm0, rfl, hh0⟩
  refine W.keepR _ _ _ _ _ _ _ hh0 rfl ?_
  refine W.seq ?_
  refine W.region ?_
  refine S.pure tOk zOk rfl rfl rfl ?_
  refine thenK_n ?_
  refine W.seq ?_
  refine W.cond rfl (fun c2 => ?_) (fun c2 => ?_)
  ·skip
   have hi := row_lt c2
   have hsa := sp_at ha hi
   refine W.skip ?_
   refine thenK_n ?_
   refine W.seq ?_
   refine W.block ?_
   refine W.seq ?_
   refine W.region ?_
   refine S.pureE tOk zOk rfl (row_ok hi) (row_at Sp.z hi) rfl ?_
   refine S.pure tOk zOk rfl rfl rfl ?_
   refine S.alloc tOk rfl rfl rfl rfl ?_
   refine S.store tOk rfl rfl rfl rfl rfl rfl rfl rfl ?_
   refine thenK_n ?_
   refine W.seq ?_
   refine W.region ?_
   refine S.pure tOk zOk rfl rfl rfl ?_
   refine thenK_n ?_
   refine W.seq ?_
   refine W.seq ?_
   refine W.region ?_
   refine S.pure tOk zOk rfl rfl rfl ?_
   refine S.pure tOk zOk rfl rfl rfl ?_
   refine S.pure tOk zOk rfl rfl rfl ?_
   refine S.pure tOk zOk rfl rfl rfl ?_
   refine thenK_n ?_
   refine W.block ?_
   refine W.loop (fun k st => ∃ j : Nat, j ≤ zs.length ∧ k = zs.length - j ∧ ∃ t b2 r2 m2, st = ⟨t, [[.d (.vec 10 (ys.map spD))], [.d (.vec 10 (zs.map spD))], [.d (.bool (ys.getD i Sp.z).hf), .d (.bool (ys.getD i Sp.z).ht), .d (.int .i64 (ys.getD i Sp.z).f.a), .d (.int .i64 (ys.getD i Sp.z).f.b), .d (.int .i64 (ys.getD i Sp.z).f.c), .d (.str (ys.getD i Sp.z).f.e), .d (.int .i64 (ys.getD i Sp.z).t.a), .d (.int .i64 (ys.getD i Sp.z).t.b), .d (.int .i64 (ys.getD i Sp.z).t.c), .d (.str (ys.getD i Sp.z).t.e)]] ++ b2, [] ++ r2, [] ++ m2⟩ ∧ holdsL t [(2, .one (.ptr 0 0)), (3, .one (.ptr 1 0)), (8, .one (.ptr 2 0)), (9, .one (.d (.bool ((zs.take j).any (insB (ys.getD i Sp.z)))))), (22, .one (.d (.vec 10 (ys.map spD)))), (23, .one (.d (.int .i64 ((ys.map spD).length : Int)))), (24, .one (.d (.int .i64 (i : Int)))), (29, .one (.d (.vec 10 (zs.map spD)))), (30, .one (.d (.int .i64 ((zs.map spD).length : Int)))), (31, .one (.d (.int .i64 (j : Int))))]) (zs.length) ⟨0, Nat.zero_le _, rfl, _, _, _, _, rfl, rfl, rfl, rfl, rfl, rfl, rfl, rfl, rfl, rfl, rfl, trivial⟩ ?_
   rintro k2 _ ⟨j, f2_0, rfl, t2, bb2, rr2, mm2, rfl, hh2⟩
   refine W.keepR _ _ _ _ _ _ _ hh2 rfl ?_
   refine W.seq ?_
   refine W.region ?_
   refine S.pure tOk zOk rfl rfl rfl ?_
   refine thenK_n ?_
   refine W.seq ?_
   refine W.cond rfl (fun c3 => ?_) (fun c3 => ?_)
   ·skip
    have hj := row_lt c3
    have hsb := sp_at hb hj
    refine W.skip ?_
    refine thenK_n ?_
    refine W.seq ?_
    refine W.block ?_
    refine W.seq ?_
    refine W.region ?_
    refine S.pureE tOk zOk rfl (row_ok hj) (row_at Sp.z hj) rfl ?_
    refine S.pure tOk zOk rfl rfl rfl ?_
    refine S.alloc tOk rfl rfl rfl rfl ?_
    refine S.store tOk rfl rfl rfl rfl rfl rfl rfl rfl ?_
    refine thenK_n ?_
    refine W.seq ?_
    refine W.region ?_
    refine S.pure tOk zOk rfl rfl rfl ?_
    refine S.pure tOk zOk rfl rfl rfl ?_
    refine S.call rfl rfl rfl rfl rfl (pc_ver_meet (ys.getD i Sp.z) (zs.getD j Sp.z) hsa.1 hsa.2 hsb.1 hsb.2) ?_
    refine S.pure tOk zOk rfl rfl rfl ?_
    refine S.pure tOk zOk rfl rfl rfl ?_
    refine S.pure tOk zOk rfl rfl rfl ?_
    refine S.alloc tOk rfl rfl rfl rfl ?_
    refine S.store tOk rfl rfl rfl rfl rfl rfl rfl rfl ?_
    refine S.pure tOk zOk rfl rfl rfl ?_
    refine thenK_n ?_
    refine W.region ?_
    refine S.pure tOk zOk rfl rfl rfl ?_
    refine S.pure tOk zOk rfl rfl rfl ?_
    refine S.pureG tOk zOk rfl rfl (by repeat first | exact allT_nil | refine allT_cons (fun h => h) ?_ | refine allT_cons (fun h => andl h) ?_ | refine allT_cons (fun h => andl (andl h)) ?_ | refine allT_cons (fun _ => rfl) ?_) (fun _ => rfl) rfl ?_
    refine S.pureG tOk zOk rfl rfl (by repeat first | exact allT_nil | refine allT_cons (fun h => h) ?_ | refine allT_cons (fun h => andl h) ?_ | refine allT_cons (fun h => andl (andl h)) ?_ | refine allT_cons (fun _ => rfl) ?_) (fun _ => rfl) rfl ?_
    refine S.pureG tOk zOk rfl rfl (by repeat first | exact allT_nil | refine allT_cons (fun h => h) ?_ | refine allT_cons (fun h => andl h) ?_ | refine allT_cons (fun h => andl (andl h)) ?_ | refine allT_cons (fun _ => rfl) ?_) (fun _ => rfl) rfl ?_
    refine S.pureG tOk zOk rfl rfl (by repeat first | exact allT_nil | refine allT_cons (fun h => h) ?_ | refine allT_cons (fun h => andl h) ?_ | refine allT_cons (fun h => andl (andl h)) ?_ | refine allT_cons (fun _ => rfl) ?_) (fun _ => rfl) rfl ?_
    refine S.pureG tOk zOk rfl rfl (by repeat first | exact allT_nil | refine allT_cons (fun h => h) ?_ | refine allT_cons (fun h => andl h) ?_ | refine allT_cons (fun h => andl (andl h)) ?_ | refine allT_cons (fun _ => rfl) ?_) (fun _ => rfl) rfl ?_
    refine S.pickAndG tOk zOk rfl rfl rfl (by repeat first | exact allT_nil | refine allT_cons (fun h => h) ?_ | refine allT_cons (fun h => andl h) ?_ | refine allT_cons (fun h => andl (andl h)) ?_ | refine allT_cons (fun _ => rfl) ?_) (by repeat first | exact allT_nil | refine allT_cons (fun h => h) ?_ | refine allT_cons (fun h => andl h) ?_ | refine allT_cons (fun h => andl (andl h)) ?_ | refine allT_cons (fun _ => rfl) ?_) ?_
    refine S.pickOr tOk zOk rfl rfl (by repeat first | exact allT_nil | refine allT_cons (fun h => h) ?_ | refine allT_cons (fun h => andl h) ?_ | refine allT_cons (fun h => andl (andl h)) ?_ | refine allT_cons (fun _ => rfl) ?_) ?_
    refine S.pure tOk zOk rfl rfl rfl ?_
    refine blockK_n ?_
    refine thenK_n ?_
    refine W.region ?_
    refine S.pure tOk zOk rfl rfl rfl ?_
    refine S.pure tOk zOk rfl rfl rfl ?_
    refine loop_n (zs.length - (j + 1)) (by omega) ⟨j + 1, hj, rfl, _, _, _, _, rfl, rfl, rfl, rfl, by show V.one (.d (.bool _)) = V.one (.d (.bool _)); rw [any_step (d := Sp.z) hj]; rfl, rfl, rfl, rfl, rfl, rfl, inc_i64 (by omega), trivial⟩
   ·skip
    have hj := row_ge c3
    refine W.exit ?_
    refine thenK_e ?_
    refine thenK_e ?_
    refine blockK_x ?_
    refine thenK_n ?_
    refine W.seq ?_
    refine W.region ?_
    refine S.pure tOk zOk rfl rfl rfl ?_
    refine S.pure tOk zOk rfl rfl rfl ?_
    refine thenK_n ?_
    refine W.cond rfl (fun c4 => ?_) (fun c4 => ?_)
    ·skip
     refine W.seq ?_
     refine W.region ?_
     refine S.pure tOk zOk rfl rfl rfl ?_
     refine S.pure tOk zOk rfl rfl rfl ?_
     refine thenK_n ?_
     refine W.ret ?_
     refine blockK_r ?_
     refine thenK_r ?_
     refine thenK_r ?_
     refine blockK_r ?_
     refine thenK_r ?_
     exact ⟨_, rfl, rfl, LeV.of_force rfl (by rw [wB_ok c1, all_false_of (d := Sp.z) hi (by have h := c4; rw [List.take_of_length_le hj] at h; simpa using h)]; rfl)⟩
    ·skip
     refine W.skip ?_
     refine blockK_n ?_
     refine thenK_n ?_
     refine W.region ?_
     refine S.pure tOk zOk rfl rfl rfl ?_
     refine S.pure tOk zOk rfl rfl rfl ?_
     refine loop_n (ys.length - (i + 1)) (by omega) ⟨i + 1, hi, all_take_succ (d := Sp.z) hi f0_1 (by have h := c4; rw [List.take_of_length_le hj] at h; simpa using h), rfl, _, _, _, _, rfl, rfl, rfl, rfl, rfl, inc_i64 (by omega), trivial⟩
  ·skip
   have hi := row_ge c2
   refine W.exit ?_
   refine thenK_e ?_
   refine thenK_e ?_
   refine blockK_x ?_
   refine thenK_n ?_
   refine W.seq ?_
   refine W.region ?_
   refine S.pure tOk zOk rfl rfl rfl ?_
   refine S.pure tOk zOk rfl rfl rfl ?_
   refine thenK_n ?_
   refine W.ret ?_
   exact ⟨_, rfl, rfl, LeV.of_force rfl (by rw [wB_ok c1, all_of_take hi f0_1]; rfl)⟩
end Go.Proofs.YtnphejkeflngcaaGreatDoor

set_option linter.unusedVariables false
set_option linter.unusedSimpArgs false
set_option maxRecDepth 100000
set_option maxHeartbeats 4000000
namespace Go.Proofs.YtnphejkeflngcaaGreatDoor
open Go
open Go.RowKit
attribute [local irreducible] rangeE orderB compareR Lib.split hasB bestTo
theorem best_lt {ss : List Sp} {l : List Ver} {i : Nat} (hi : i < l.length) : (bestTo ss l i).toNat < l.length := by
  have := bestTo_range ss l i
  omega
theorem best_ok {ss : List Sp} {l : List Ver} {i : Nat} (hi : i < l.length) (h : decide (bestTo ss l i < 0) = false) : (decide (0 ≤ bestTo ss l i) && decide (bestTo ss l i < ((l.map verD).length : Int))) = true := by
  have := bestTo_range ss l i
  have h := of_decide_eq_false h
  rw [List.length_map, Bool.and_eq_true, decide_eq_true_iff, decide_eq_true_iff]
  omega
theorem best_at {ss : List Sp} {l : List Ver} {i : Nat} (hi : i < l.length) : V.one (C.eptr ((l.map verD).getD (bestTo ss l i).toNat [])) = V.one (C.eptr (verD (l.getD (bestTo ss l i).toNat Ver.z))) := by
  have h := best_lt (ss := ss) hi
  rw [List.getD_eq_getElem?_getD, List.getD_eq_getElem?_getD, List.getElem?_eq_getElem h, List.getElem?_eq_getElem (by simpa using h), List.getElem_map]; rfl
theorem best_t {ss : List Sp} {l : List Ver} {i : Nat} (c : (hasB ss (l.getD i Ver.z) && (decide (bestTo ss l i < 0) || decide (orderB (l.getD i Ver.z) (l.getD (bestTo ss l i).toNat Ver.z) > 0))) = true) :
    V.one (.d (.int .i64 (i : Int))) = V.one (.d (.int .i64 (bestTo ss l (i + 1)))) := by
  rw [bestTo_s, bestStep, if_pos c]
theorem best_f {ss : List Sp} {l : List Ver} {i : Nat} (c : (hasB ss (l.getD i Ver.z) && (decide (bestTo ss l i < 0) || decide (orderB (l.getD i Ver.z) (l.getD (bestTo ss l i).toNat Ver.z) > 0))) = false) :
    V.one (.d (.int .i64 (bestTo ss l i))) = V.one (.d (.int .i64 (bestTo ss l (i + 1)))) := by
  rw [bestTo_s, bestStep, if_neg (Bool.eq_false_iff.1 c)]
theorem hits_end {l : List Ver} {i : Nat} (hi : l.length ≤ i) (h : ((l.map Ver.check).take i).all (· == 0) = true) : firstNe (l.map Ver.check) = 0 := firstNe_none (by simpa using hi) h
theorem pc_ver_Greatest (ss : List Sp) (hl : ss.length ≤ 1000000000) (hs : ∀ s ∈ ss, SpLen s) (l : List Ver) (hn : l.length ≤ 1000000000) (hv : ∀ v ∈ l, v.e.length < 4294967281) :
  PureCall Tryz.prog J 27 [rgV ss, .one (.d (.vec 4 (l.map verD)))] (.tup [.one (.d (.int .i64 (GreatestB ss l).1)), .one (.d (.int .i64 (GreatestB ss l).2))]) := by
 refine PureCall.of_body tOk (fn := Tryz.f27) Tryz.func27 (by kernel_rfl) rfl (Nat.le_of_ble_eq_true rfl) (fun E => ?_)
 refine W.seq ?_
 refine W.region ?_
 refine S.box rfl rfl rfl rfl ?_
 refine S.pure tOk zOk rfl rfl rfl ?_
 refine S.pure tOk zOk rfl rfl rfl ?_
 refine thenK_n ?_
 refine W.seq ?_
 refine W.seq ?_
 refine W.region ?_
 refine S.pure tOk zOk rfl rfl rfl ?_
 refine S.call rfl rfl rfl rfl rfl (pc_ver_CheckRange ss hl hs) ?_
 refine S.pure tOk zOk rfl rfl rfl ?_
 refine thenK_n ?_
 refine W.seq ?_
 refine W.region ?_
 refine S.pure tOk zOk rfl rfl rfl ?_
 refine S.pure tOk zOk rfl rfl rfl ?_
 refine thenK_n ?_
 refine W.cond rfl (fun c1 => ?_) (fun c1 => ?_)
 ·skip
  refine W.seq ?_
  refine W.region ?_
  refine S.pure tOk zOk rfl rfl rfl ?_
  refine S.pure tOk zOk rfl rfl rfl ?_
  refine S.pure tOk zOk rfl rfl rfl ?_
  refine thenK_n ?_
  refine W.ret ?_
  refine thenK_r ?_
  exact ⟨_, rfl, rfl, LeV.of_force rfl (by rw [gB_1 c1]; rfl)⟩
 ·skip
  refine W.skip ?_
  refine thenK_n ?_
  refine W.seq ?_
  refine W.seq ?_
  refine W.region ?_
  refine S.pure tOk zOk rfl rfl rfl ?_
  refine S.pure tOk zOk rfl rfl rfl ?_
  refine S.pure tOk zOk rfl rfl rfl ?_
  refine thenK_n ?_
  refine W.cond rfl (fun c2 => ?_) (fun c2 => ?_)
  ·skip
   refine W.seq ?_
   refine W.region ?_
   refine S.pure tOk zOk rfl rfl rfl ?_
   refine S.pure tOk zOk rfl rfl rfl ?_
   refine thenK_n ?_
   refine W.ret ?_
   refine thenK_r ?_
   exact ⟨_, rfl, rfl, LeV.of_force rfl (by rw [gB_2 c1 (by have h := c2; rw [List.length_map] at h; exact h)]; rfl)⟩
  ·skip
   refine W.skip ?_
   refine thenK_n ?_
   refine W.seq ?_
   refine W.seq ?_
   refine W.region ?_
   refine S.pure tOk zOk rfl rfl rfl ?_
   refine S.pure tOk zOk rfl rfl rfl ?_
   refine S.pure tOk zOk rfl rfl rfl ?_
   refine thenK_n ?_
   refine W.block ?_
   refine W.loop (fun k st => ∃ i : Nat, i ≤ l.length ∧ ((l.map Ver.check).take i).all (· == 0) = true ∧ k = l.length - i ∧ ∃ t b2 r2 m2, st = ⟨t, [[.d (.vec 10 (ss.map spD))]] ++ b2, [] ++ r2, [] ++ m2⟩ ∧ holdsL t [(1, .one (.d (.vec 4 (l.map verD)))), (2, .one (.ptr 0 0)), (21, .one (.d (.vec 4 (l.map verD)))), (22, .one (.d (.int .i64 ((l.map verD).length : Int)))), (23, .one (.d (.int .i64 (i : Int))))]) (l.length) ⟨0, Nat.zero_le _, by simp, rfl, _, _, _, _, rfl, rfl, rfl, rfl, rfl, rfl, trivial⟩ ?_
   rintro k0 _ ⟨i, f0_0, f0_1, rfl, t0, bb0, rr0, mm0, rfl, hh0⟩
   refine W.keepR _ _ _ _ _ _ _ hh0 rfl ?_
   refine W.seq ?_
   refine W.region ?_
   refine S.pure tOk zOk rfl rfl rfl ?_
   refine thenK_n ?_
   refine W.seq ?_
   refine W.cond rfl (fun c3 => ?_) (fun c3 => ?_)
   ·skip
    have hi := row_lt c3
    refine W.skip ?_
    refine thenK_n ?_
    refine W.seq ?_
    refine W.block ?_
    refine W.seq ?_
    refine W.region ?_
    refine S.pureE tOk zOk rfl (row_ok hi) (row_at Ver.z hi) rfl ?_
    refine S.pure tOk zOk rfl rfl rfl ?_
    refine S.alloc tOk rfl rfl rfl rfl ?_
    refine S.store tOk rfl rfl rfl rfl rfl rfl rfl rfl ?_
    refine thenK_n ?_
    refine W.seq ?_
    refine W.region ?_
    refine S.pure tOk zOk rfl rfl rfl ?_
    refine S.call rfl rfl rfl rfl rfl (pc_ver_Check (l.getD i Ver.z) (ver_at hv hi)) ?_
    refine S.pure tOk zOk rfl rfl rfl ?_
    refine thenK_n ?_
    refine W.seq ?_
    refine W.region ?_
    refine S.pure tOk zOk rfl rfl rfl ?_
    refine S.pure tOk zOk rfl rfl rfl ?_
    refine thenK_n ?_
    refine W.cond rfl (fun c4 => ?_) (fun c4 => ?_)
    ·skip
     refine W.seq ?_
     refine W.region ?_
     refine S.pure tOk zOk rfl rfl rfl ?_
     refine S.pure tOk zOk rfl rfl rfl ?_
     refine S.pure tOk zOk rfl rfl rfl ?_
     refine thenK_n ?_
     refine W.ret ?_
     refine blockK_r ?_
     refine thenK_r ?_
     refine thenK_r ?_
     refine blockK_r ?_
     refine thenK_r ?_
     exact ⟨_, rfl, rfl, LeV.of_force rfl (by rw [gB_3 c1 (by have h := c2; rw [List.length_map] at h; exact h) (verr_hit hi f0_1 rfl (by simpa using c4)) c4]; rfl)⟩
    ·skip
     refine W.skip ?_
     refine blockK_n ?_
     refine thenK_n ?_
     refine W.region ?_
     refine S.pure tOk zOk rfl rfl rfl ?_
     refine S.pure tOk zOk rfl rfl rfl ?_
     refine loop_n (l.length - (i + 1)) (by omega) ⟨i + 1, hi, all_take_succ (d := 0) (by simpa using hi) f0_1 (verr_go hi (by simpa using c4)), rfl, _, _, _, _, rfl, rfl, rfl, rfl, rfl, inc_i64 (by omega), trivial⟩
   ·skip
    have hi := row_ge c3
    have hz := hits_end hi f0_1
    refine W.exit ?_
    refine thenK_e ?_
    refine thenK_e ?_
    refine blockK_x ?_
    refine thenK_n ?_
    refine W.seq ?_
    refine W.region ?_
    refine S.pure tOk zOk rfl rfl rfl ?_
    refine thenK_n ?_
    refine W.seq ?_
    refine W.seq ?_
    refine W.region ?_
    refine S.pure tOk zOk rfl rfl rfl ?_
    refine S.pure tOk zOk rfl rfl rfl ?_
    refine S.pure tOk zOk rfl rfl rfl ?_
    refine thenK_n ?_
    refine W.block ?_
    refine W.loop (fun k st => ∃ i : Nat, i ≤ l.length ∧ k = l.length - i ∧ ∃ t b2 r2 m2, st = ⟨t, [[.d (.vec 10 (ss.map spD))]] ++ b2, [] ++ r2, [] ++ m2⟩ ∧ holdsL t [(1, .one (.d (.vec 4 (l.map verD)))), (2, .one (.ptr 0 0)), (10, .one (.d (.int .i64 (bestTo ss l i)))), (33, .one (.d (.vec 4 (l.map verD)))), (34, .one (.d (.int .i64 ((l.map verD).length : Int)))), (35, .one (.d (.int .i64 (i : Int))))]) (l.length) ⟨0, Nat.zero_le _, rfl, _, _, _, _, rfl, rfl, rfl, by rw [bestTo_0]; rfl, rfl, rfl, rfl, trivial⟩ ?_
    rintro k2 _ ⟨i, f2_0, rfl, t2, bb2, rr2, mm2, rfl, hh2⟩
    refine W.keepR _ _ _ _ _ _ _ hh2 rfl ?_
    refine W.seq ?_
    refine W.region ?_
    refine S.pure tOk zOk rfl rfl rfl ?_
    refine thenK_n ?_
    refine W.seq ?_
    refine W.cond rfl (fun c5 => ?_) (fun c5 => ?_)
    ·skip
     have hi := row_lt c5
     refine W.skip ?_
     refine thenK_n ?_
     refine W.seq ?_
     refine W.block ?_
     refine W.seq ?_
     refine W.region ?_
     refine S.pure tOk zOk rfl rfl rfl ?_
     refine S.pureE tOk zOk rfl (row_ok hi) (row_at Ver.z hi) rfl ?_
     refine S.pure tOk zOk rfl rfl rfl ?_
     refine S.alloc tOk rfl rfl rfl rfl ?_
     refine S.pure tOk zOk rfl rfl rfl ?_
     refine S.store tOk rfl rfl rfl rfl rfl rfl rfl rfl ?_
     refine thenK_n ?_
     refine W.seq ?_
     refine W.regionD mixed (by kernel_rfl) ?_
     refine D.pure tOk zOk rfl rfl rfl rfl ?_
     refine D.pure tOk zOk rfl rfl rfl rfl ?_
     refine D.call rfl rfl rfl rfl rfl (pc_ver_has ss hl hs (l.getD i Ver.z) (ver_at hv hi)) ?_
     refine D.pure tOk zOk rfl rfl rfl rfl ?_
     refine D.pureG tOk zOk rfl rfl rfl (by repeat first | exact allT_nil | refine allT_cons (fun h => h) ?_ | refine allT_cons (fun h => andl h) ?_ | refine allT_cons (fun h => andl (andl h)) ?_ | refine allT_cons (fun _ => rfl) ?_) (fun _ => rfl) rfl ?_
     refine D.pureG tOk zOk rfl rfl rfl (by repeat first | exact allT_nil | refine allT_cons (fun h => h) ?_ | refine allT_cons (fun h => andl h) ?_ | refine allT_cons (fun h => andl (andl h)) ?_ | refine allT_cons (fun _ => rfl) ?_) (fun _ => rfl) rfl ?_
     refine D.pureG tOk zOk rfl rfl rfl (by repeat first | exact allT_nil | refine allT_cons (fun h => h) ?_ | refine allT_cons (fun h => andl h) ?_ | refine allT_cons (fun h => andl (andl h)) ?_ | refine allT_cons (fun _ => rfl) ?_) (fun _ => rfl) rfl ?_
     refine D.pureG tOk zOk rfl rfl rfl (by repeat first | exact allT_nil | refine allT_cons (fun h => h) ?_ | refine allT_cons (fun h => andl h) ?_ | refine allT_cons (fun h => andl (andl h)) ?_ | refine allT_cons (fun _ => rfl) ?_) (fun _ => rfl) rfl ?_
     refine D.pureG tOk zOk rfl rfl rfl (by repeat first | exact allT_nil | refine allT_cons (fun h => h) ?_ | refine allT_cons (fun h => andl h) ?_ | refine allT_cons (fun h => andl (andl h)) ?_ | refine allT_cons (fun _ => rfl) ?_) (fun _ => rfl) rfl ?_
     refine D.pureG tOk zOk rfl rfl rfl (by repeat first | exact allT_nil | refine allT_cons (fun h => h) ?_ | refine allT_cons (fun h => andl h) ?_ | refine allT_cons (fun h => andl (andl h)) ?_ | refine allT_cons (fun _ => rfl) ?_) (fun _ => rfl) rfl ?_
     refine D.pureEG tOk zOk rfl rfl rfl (by repeat first | exact allT_nil | refine allT_cons (fun h => h) ?_ | refine allT_cons (fun h => andl h) ?_ | refine allT_cons (fun h => andl (andl h)) ?_ | refine allT_cons (fun _ => rfl) ?_) (fun h => best_ok hi (by have q := andr h; simpa using q)) (best_at hi) rfl ?_
     refine D.pureG tOk zOk rfl rfl rfl (by repeat first | exact allT_nil | refine allT_cons (fun h => h) ?_ | refine allT_cons (fun h => andl h) ?_ | refine allT_cons (fun h => andl (andl h)) ?_ | refine allT_cons (fun _ => rfl) ?_) (fun _ => rfl) rfl ?_
     refine D.callG rfl rfl rfl rfl (by repeat first | exact allT_nil | refine allT_cons (fun h => h) ?_ | refine allT_cons (fun h => andl h) ?_ | refine allT_cons (fun h => andl (andl h)) ?_ | refine allT_cons (fun _ => rfl) ?_) rfl rfl (fun _ => pc_ver_Order (l.getD i Ver.z) (l.getD (bestTo ss l i).toNat Ver.z) (ver_at hv hi) (ver_at hv (best_lt hi))) ?_
     refine D.pureG tOk zOk rfl rfl rfl (by repeat first | exact allT_nil | refine allT_cons (fun h => h) ?_ | refine allT_cons (fun h => andl h) ?_ | refine allT_cons (fun h => andl (andl h)) ?_ | refine allT_cons (fun _ => rfl) ?_) (fun _ => rfl) rfl ?_
     refine D.pickOrG tOk zOk rfl rfl rfl (by repeat first | exact allT_nil | refine allT_cons (fun h => h) ?_ | refine allT_cons (fun h => andl h) ?_ | refine allT_cons (fun h => andl (andl h)) ?_ | refine allT_cons (fun _ => rfl) ?_) (by repeat first | exact allT_nil | refine allT_cons (fun h => h) ?_ | refine allT_cons (fun h => andl h) ?_ | refine allT_cons (fun h => andl (andl h)) ?_ | refine allT_cons (fun _ => rfl) ?_) ?_
     refine D.pickAnd tOk zOk rfl rfl (by repeat first | exact allT_nil | refine allT_cons (fun h => h) ?_ | refine allT_cons (fun h => andl h) ?_ | refine allT_cons (fun h => andl (andl h)) ?_ | refine allT_cons (fun _ => rfl) ?_) ?_
     refine thenK_n ?_
     refine W.cond rfl (fun c6 => ?_) (fun c6 => ?_)
     ·skip
      refine W.region ?_
      refine S.pure tOk zOk rfl rfl rfl ?_
      refine S.pure tOk zOk rfl rfl rfl ?_
      refine blockK_n ?_
      refine thenK_n ?_
      refine W.region ?_
      refine S.pure tOk zOk rfl rfl rfl ?_
      refine S.pure tOk zOk rfl rfl rfl ?_
      refine loop_n (l.length - (i + 1)) (by omega) ⟨i + 1, hi, rfl, _, _, _, _, rfl, rfl, rfl, by first | exact best_t c6 | exact best_f c6, rfl, rfl, inc_i64 (by omega), trivial⟩
     ·skip
      refine W.skip ?_
      refine blockK_n ?_
      refine thenK_n ?_
      refine W.region ?_
      refine S.pure tOk zOk rfl rfl rfl ?_
      refine S.pure tOk zOk rfl rfl rfl ?_
      refine loop_n (l.length - (i + 1)) (by omega) ⟨i + 1, hi, rfl, _, _, _, _, rfl, rfl, rfl, by first | exact best_t c6 | exact best_f c6, rfl, rfl, inc_i64 (by omega), trivial⟩
    ·skip
     have hi := row_ge c5
     obtain rfl : i = l.length := by omega
     refine W.exit ?_
     refine thenK_e ?_
     refine thenK_e ?_
     refine blockK_x ?_
     refine thenK_n ?_
     refine W.seq ?_
     refine W.seq ?_
     refine W.region ?_
     refine S.pure tOk zOk rfl rfl rfl ?_
     refine S.pure tOk zOk rfl rfl rfl ?_
     refine thenK_n ?_
     refine W.cond rfl (fun c7 => ?_) (fun c7 => ?_)
     ·skip
      refine W.seq ?_
      refine W.region ?_
      refine S.pure tOk zOk rfl rfl rfl ?_
      refine S.pure tOk zOk rfl rfl rfl ?_
      refine thenK_n ?_
      refine W.ret ?_
      refine thenK_r ?_
      exact ⟨_, rfl, rfl, LeV.of_force rfl (by rw [gB_4 c1 (by have h := c2; rw [List.length_map] at h; exact h) hz c7]; rfl)⟩
     ·skip
      refine W.skip ?_
      refine thenK_n ?_
      refine W.seq ?_
      refine W.region ?_
      refine S.pure tOk zOk rfl rfl rfl ?_
      refine S.pure tOk zOk rfl rfl rfl ?_
      refine S.pure tOk zOk rfl rfl rfl ?_
      refine thenK_n ?_
      refine W.ret ?_
      exact ⟨_, rfl, rfl, LeV.of_force rfl (by rw [gB_5 c1 (by have h := c2; rw [List.length_map] at h; exact h) hz c7]; rfl)⟩
end Go.Proofs.YtnphejkeflngcaaGreatDoor

set_option linter.unusedVariables false
set_option linter.unusedSimpArgs false
set_option maxRecDepth 100000
set_option maxHeartbeats 4000000
namespace Go.Proofs.YtnphejkeflngcaaGreatDoor
open Go
open Go.RowKit
attribute [local irreducible] rangeE orderB compareR Lib.split
theorem pc_outref2_Inside (s : Sp) (v : Ver) (h1 : s.f.e.length < 4294967281) (h2 : s.t.e.length < 4294967281) (hv : v.e.length < 4294967281) :
  PureCall Tryz.prog J 72 [spV s, verV v] (.one (.d (.bool (insideR s v)))) := by
 refine PureCall.of_body tOk (fn := Tryz.f72) Tryz.func72 (by kernel_rfl) rfl (Nat.le_of_ble_eq_true rfl) (fun E => ?_)
 refine W.seq ?_
 refine W.region ?_
 refine S.box rfl rfl rfl rfl ?_
 refine S.box rfl rfl rfl rfl ?_
 refine S.pure tOk zOk rfl rfl rfl ?_
 refine thenK_n ?_
 refine W.seq ?_
 refine W.region ?_
 refine S.pure tOk zOk rfl rfl rfl ?_
 refine S.pure tOk zOk rfl rfl rfl ?_
 refine S.pure tOk zOk rfl rfl rfl ?_
 refine S.pureG tOk zOk rfl rfl (by repeat first | exact allT_nil | refine allT_cons (fun h => h) ?_ | refine allT_cons (fun h => andl h) ?_ | refine allT_cons (fun h => andl (andl h)) ?_ | refine allT_cons (fun _ => rfl) ?_) (fun _ => rfl) rfl ?_
 refine S.pureG tOk zOk rfl rfl (by repeat first | exact allT_nil | refine allT_cons (fun h => h) ?_ | refine allT_cons (fun h => andl h) ?_ | refine allT_cons (fun h => andl (andl h)) ?_ | refine allT_cons (fun _ => rfl) ?_) (fun _ => rfl) rfl ?_
 refine S.pureG tOk zOk rfl rfl (by repeat first | exact allT_nil | refine allT_cons (fun h => h) ?_ | refine allT_cons (fun h => andl h) ?_ | refine allT_cons (fun h => andl (andl h)) ?_ | refine allT_cons (fun _ => rfl) ?_) (fun _ => rfl) rfl ?_
 refine S.callG rfl rfl rfl rfl (by repeat first | exact allT_nil | refine allT_cons (fun h => h) ?_ | refine allT_cons (fun h => andl h) ?_ | refine allT_cons (fun h => andl (andl h)) ?_ | refine allT_cons (fun _ => rfl) ?_) rfl rfl (fun _ => pc_outref2_CompareOf v s.f hv h1) ?_
 refine S.pureG tOk zOk rfl rfl (by repeat first | exact allT_nil | refine allT_cons (fun h => h) ?_ | refine allT_cons (fun h => andl h) ?_ | refine allT_cons (fun h => andl (andl h)) ?_ | refine allT_cons (fun _ => rfl) ?_) (fun _ => rfl) rfl ?_
 refine S.pickAnd tOk zOk rfl rfl (by repeat first | exact allT_nil | refine allT_cons (fun h => h) ?_ | refine allT_cons (fun h => andl h) ?_ | refine allT_cons (fun h => andl (andl h)) ?_ | refine allT_cons (fun _ => rfl) ?_) ?_
 refine S.pure tOk zOk rfl rfl rfl ?_
 refine S.pure tOk zOk rfl rfl rfl ?_
 refine S.pureG tOk zOk rfl rfl (by repeat first | exact allT_nil | refine allT_cons (fun h => h) ?_ | refine allT_cons (fun h => andl h) ?_ | refine allT_cons (fun h => andl (andl h)) ?_ | refine allT_cons (fun _ => rfl) ?_) (fun _ => rfl) rfl ?_
 refine S.pureG tOk zOk rfl rfl (by repeat first | exact allT_nil | refine allT_cons (fun h => h) ?_ | refine allT_cons (fun h => andl h) ?_ | refine allT_cons (fun h => andl (andl h)) ?_ | refine allT_cons (fun _ => rfl) ?_) (fun _ => rfl) rfl ?_
 refine S.pureG tOk zOk rfl rfl (by repeat first | exact allT_nil | refine allT_cons (fun h => h) ?_ | refine allT_cons (fun h => andl h) ?_ | refine allT_cons (fun h => andl (andl h)) ?_ | refine allT_cons (fun _ => rfl) ?_) (fun _ => rfl) rfl ?_
 refine S.pureG tOk zOk rfl rfl (by repeat first | exact allT_nil | refine allT_cons (fun h => h) ?_ | refine allT_cons (fun h => andl h) ?_ | refine allT_cons (fun h => andl (andl h)) ?_ | refine allT_cons (fun _ => rfl) ?_) (fun _ => rfl) rfl ?_
 refine S.pureG tOk zOk rfl rfl (by repeat first | exact allT_nil | refine allT_cons (fun h => h) ?_ | refine allT_cons (fun h => andl h) ?_ | refine allT_cons (fun h => andl (andl h)) ?_ | refine allT_cons (fun _ => rfl) ?_) (fun _ => rfl) rfl ?_
 refine S.pureG tOk zOk rfl rfl (by repeat first | exact allT_nil | refine allT_cons (fun h => h) ?_ | refine allT_cons (fun h => andl h) ?_ | refine allT_cons (fun h => andl (andl h)) ?_ | refine allT_cons (fun _ => rfl) ?_) (fun _ => rfl) rfl ?_
 refine S.callG rfl rfl rfl rfl (by repeat first | exact allT_nil | refine allT_cons (fun h => h) ?_ | refine allT_cons (fun h => andl h) ?_ | refine allT_cons (fun h => andl (andl h)) ?_ | refine allT_cons (fun _ => rfl) ?_) rfl rfl (fun _ => pc_outref2_CompareOf v s.t hv h2) ?_
 refine S.pureG tOk zOk rfl rfl (by repeat first | exact allT_nil | refine allT_cons (fun h => h) ?_ | refine allT_cons (fun h => andl h) ?_ | refine allT_cons (fun h => andl (andl h)) ?_ | refine allT_cons (fun _ => rfl) ?_) (fun _ => rfl) rfl ?_
 refine S.pickAndG tOk zOk rfl rfl rfl (by repeat first | exact allT_nil | refine allT_cons (fun h => h) ?_ | refine allT_cons (fun h => andl h) ?_ | refine allT_cons (fun h => andl (andl h)) ?_ | refine allT_cons (fun _ => rfl) ?_) (by repeat first | exact allT_nil | refine allT_cons (fun h => h) ?_ | refine allT_cons (fun h => andl h) ?_ | refine allT_cons (fun h => andl (andl h)) ?_ | refine allT_cons (fun _ => rfl) ?_) ?_
 refine S.pureG tOk zOk rfl rfl (by repeat first | exact allT_nil | refine allT_cons (fun h => h) ?_ | refine allT_cons (fun h => andl h) ?_ | refine allT_cons (fun h => andl (andl h)) ?_ | refine allT_cons (fun _ => rfl) ?_) (fun _ => rfl) rfl ?_
 refine S.pickAnd tOk zOk rfl rfl (by repeat first | exact allT_nil | refine allT_cons (fun h => h) ?_ | refine allT_cons (fun h => andl h) ?_ | refine allT_cons (fun h => andl (andl h)) ?_ | refine allT_cons (fun _ => rfl) ?_) ?_
 refine S.pure tOk zOk rfl rfl rfl ?_
 refine thenK_n ?_
 refine W.ret ?_
 exact ⟨_, rfl, rfl, LeV.refl _⟩
theorem pc_near (h : Bool) (e v : Ver) :
  HCall Tryz.prog J 69 ([.one (.d (.bool h)), verV e, .one (.ptr 0 0)]) ([[.d (.int .i64 v.a), .d (.int .i64 v.b), .d (.int .i64 v.c), .d (.str v.e)]]) ([]) ([]) (isH (.one (.d (.bool (namesB h e v)))) ([[.d (.int .i64 v.a), .d (.int .i64 v.b), .d (.int .i64 v.c), .d (.str v.e)]]) ([]) ([])) := by
 refine HCall.ofD tOk ⟨1, 0, 0⟩ (fn := Tryz.f69) Tryz.func69 (by kernel_rfl) rfl (Nat.le_of_ble_eq_true rfl) (fun E => ?_)
 refine W.seq ?_
 refine W.region ?_
 refine S.box rfl rfl rfl rfl ?_
 refine S.pure tOk zOk rfl rfl rfl ?_
 refine thenK_n ?_
 refine W.seq ?_
 refine W.region ?_
 refine S.pure tOk zOk rfl rfl rfl ?_
 refine S.pure tOk zOk rfl rfl rfl ?_
 refine S.pureG tOk zOk rfl rfl (by repeat first | exact allT_nil | refine allT_cons (fun h => h) ?_ | refine allT_cons (fun h => andl h) ?_ | refine allT_cons (fun h => andl (andl h)) ?_ | refine allT_cons (fun _ => rfl) ?_) (fun _ => rfl) rfl ?_
 refine S.pureG tOk zOk rfl rfl (by repeat first | exact allT_nil | refine allT_cons (fun h => h) ?_ | refine allT_cons (fun h => andl h) ?_ | refine allT_cons (fun h => andl (andl h)) ?_ | refine allT_cons (fun _ => rfl) ?_) (fun _ => rfl) rfl ?_
 refine S.pureG tOk zOk rfl rfl (by repeat first | exact allT_nil | refine allT_cons (fun h => h) ?_ | refine allT_cons (fun h => andl h) ?_ | refine allT_cons (fun h => andl (andl h)) ?_ | refine allT_cons (fun _ => rfl) ?_) (fun _ => rfl) rfl ?_
 refine S.pickAnd tOk zOk rfl rfl (by repeat first | exact allT_nil | refine allT_cons (fun h => h) ?_ | refine allT_cons (fun h => andl h) ?_ | refine allT_cons (fun h => andl (andl h)) ?_ | refine allT_cons (fun _ => rfl) ?_) ?_
 refine S.pure tOk zOk rfl rfl rfl ?_
 refine S.pureG tOk zOk rfl rfl (by repeat first | exact allT_nil | refine allT_cons (fun h => h) ?_ | refine allT_cons (fun h => andl h) ?_ | refine allT_cons (fun h => andl (andl h)) ?_ | refine allT_cons (fun _ => rfl) ?_) (fun _ => rfl) rfl ?_
 refine S.pureG tOk zOk rfl rfl (by repeat first | exact allT_nil | refine allT_cons (fun h => h) ?_ | refine allT_cons (fun h => andl h) ?_ | refine allT_cons (fun h => andl (andl h)) ?_ | refine allT_cons (fun _ => rfl) ?_) (fun _ => rfl) rfl ?_
 refine S.pureG tOk zOk rfl rfl (by repeat first | exact allT_nil | refine allT_cons (fun h => h) ?_ | refine allT_cons (fun h => andl h) ?_ | refine allT_cons (fun h => andl (andl h)) ?_ | refine allT_cons (fun _ => rfl) ?_) (fun _ => rfl) rfl ?_
 refine S.pureG tOk zOk rfl rfl (by repeat first | exact allT_nil | refine allT_cons (fun h => h) ?_ | refine allT_cons (fun h => andl h) ?_ | refine allT_cons (fun h => andl (andl h)) ?_ | refine allT_cons (fun _ => rfl) ?_) (fun _ => rfl) rfl ?_
 refine S.pureG tOk zOk rfl rfl (by repeat first | exact allT_nil | refine allT_cons (fun h => h) ?_ | refine allT_cons (fun h => andl h) ?_ | refine allT_cons (fun h => andl (andl h)) ?_ | refine allT_cons (fun _ => rfl) ?_) (fun _ => rfl) rfl ?_
 refine S.pickAnd tOk zOk rfl rfl (by repeat first | exact allT_nil | refine allT_cons (fun h => h) ?_ | refine allT_cons (fun h => andl h) ?_ | refine allT_cons (fun h => andl (andl h)) ?_ | refine allT_cons (fun _ => rfl) ?_) ?_
 refine S.pure tOk zOk rfl rfl rfl ?_
 refine S.pureG tOk zOk rfl rfl (by repeat first | exact allT_nil | refine allT_cons (fun h => h) ?_ | refine allT_cons (fun h => andl h) ?_ | refine allT_cons (fun h => andl (andl h)) ?_ | refine allT_cons (fun _ => rfl) ?_) (fun _ => rfl) rfl ?_
 refine S.pureG tOk zOk rfl rfl (by repeat first | exact allT_nil | refine allT_cons (fun h => h) ?_ | refine allT_cons (fun h => andl h) ?_ | refine allT_cons (fun h => andl (andl h)) ?_ | refine allT_cons (fun _ => rfl) ?_) (fun _ => rfl) rfl ?_
 refine S.pureG tOk zOk rfl rfl (by repeat first | exact allT_nil | refine allT_cons (fun h => h) ?_ | refine allT_cons (fun h => andl h) ?_ | refine allT_cons (fun h => andl (andl h)) ?_ | refine allT_cons (fun _ => rfl) ?_) (fun _ => rfl) rfl ?_
 refine S.pureG tOk zOk rfl rfl (by repeat first | exact allT_nil | refine allT_cons (fun h => h) ?_ | refine allT_cons (fun h => andl h) ?_ | refine allT_cons (fun h => andl (andl h)) ?_ | refine allT_cons (fun _ => rfl) ?_) (fun _ => rfl) rfl ?_
 refine S.pureG tOk zOk rfl rfl (by repeat first | exact allT_nil | refine allT_cons (fun h => h) ?_ | refine allT_cons (fun h => andl h) ?_ | refine allT_cons (fun h => andl (andl h)) ?_ | refine allT_cons (fun _ => rfl) ?_) (fun _ => rfl) rfl ?_
 refine S.pickAnd tOk zOk rfl rfl (by repeat first | exact allT_nil | refine allT_cons (fun h => h) ?_ | refine allT_cons (fun h => andl h) ?_ | refine allT_cons (fun h => andl (andl h)) ?_ | refine allT_cons (fun _ => rfl) ?_) ?_
 refine S.pure tOk zOk rfl rfl rfl ?_
 refine S.pureG tOk zOk rfl rfl (by repeat first | exact allT_nil | refine allT_cons (fun h => h) ?_ | refine allT_cons (fun h => andl h) ?_ | refine allT_cons (fun h => andl (andl h)) ?_ | refine allT_cons (fun _ => rfl) ?_) (fun _ => rfl) rfl ?_
 refine S.pureG tOk zOk rfl rfl (by repeat first | exact allT_nil | refine allT_cons (fun h => h) ?_ | refine allT_cons (fun h => andl h) ?_ | refine allT_cons (fun h => andl (andl h)) ?_ | refine allT_cons (fun _ => rfl) ?_) (fun _ => rfl) rfl ?_
 refine S.pureG tOk zOk rfl rfl (by repeat first | exact allT_nil | refine allT_cons (fun h => h) ?_ | refine allT_cons (fun h => andl h) ?_ | refine allT_cons (fun h => andl (andl h)) ?_ | refine allT_cons (fun _ => rfl) ?_) (fun _ => rfl) rfl ?_
 refine S.pureG tOk zOk rfl rfl (by repeat first | exact allT_nil | refine allT_cons (fun h => h) ?_ | refine allT_cons (fun h => andl h) ?_ | refine allT_cons (fun h => andl (andl h)) ?_ | refine allT_cons (fun _ => rfl) ?_) (fun _ => rfl) rfl ?_
 refine S.pureG tOk zOk rfl rfl (by repeat first | exact allT_nil | refine allT_cons (fun h => h) ?_ | refine allT_cons (fun h => andl h) ?_ | refine allT_cons (fun h => andl (andl h)) ?_ | refine allT_cons (fun _ => rfl) ?_) (fun _ => rfl) rfl ?_
 refine S.pickAnd tOk zOk rfl rfl (by repeat first | exact allT_nil | refine allT_cons (fun h => h) ?_ | refine allT_cons (fun h => andl h) ?_ | refine allT_cons (fun h => andl (andl h)) ?_ | refine allT_cons (fun _ => rfl) ?_) ?_
 refine S.pure tOk zOk rfl rfl rfl ?_
 refine thenK_n ?_
 refine W.ret ?_
 exact ⟨_, rfl, rfl, LeG.refl _, rfl, rfl, rfl⟩
theorem pc_hasAt (s : Sp) (v : Ver) (al : Bool) (h1 : s.f.e.length < 4294967281) (h2 : s.t.e.length < 4294967281) (hv : v.e.length < 4294967281) :
  HCall Tryz.prog J 71 ([spV s, .one (.ptr 0 0), .one (.ptr 1 0), .one (.ptr 2 0)]) ([[.d (.int .i64 v.a), .d (.int .i64 v.b), .d (.int .i64 v.c), .d (.str v.e)], [.d (.bool al)], [.clo 69 [.ptr 0 0]]]) ([]) ([]) (isH (.one (.d (.bool (hasAtR al v s)))) ([[.d (.int .i64 v.a), .d (.int .i64 v.b), .d (.int .i64 v.c), .d (.str v.e)], [.d (.bool al)], [.clo 69 [.ptr 0 0]]]) ([]) ([])) := by
 refine HCall.ofD tOk ⟨3, 0, 0⟩ (fn := Tryz.f71) Tryz.func71 (by kernel_rfl) rfl (Nat.le_of_ble_eq_true rfl) (fun E => ?_)
 refine W.seq ?_
 refine W.region ?_
 refine S.box rfl rfl rfl rfl ?_
 refine S.pure tOk zOk rfl rfl rfl ?_
 refine thenK_n ?_
 refine W.seq ?_
 refine W.region ?_
 refine S.pure tOk zOk rfl rfl rfl ?_
 refine S.pure tOk zOk rfl rfl rfl ?_
 refine S.call rfl rfl rfl rfl rfl (pc_outref2_Inside s v h1 h2 hv) ?_
 refine S.pure tOk zOk rfl rfl rfl ?_
 refine S.pureG tOk zOk rfl rfl (by repeat first | exact allT_nil | refine allT_cons (fun h => h) ?_ | refine allT_cons (fun h => andl h) ?_ | refine allT_cons (fun h => andl (andl h)) ?_ | refine allT_cons (fun _ => rfl) ?_) (fun _ => rfl) rfl ?_
 refine S.pureG tOk zOk rfl rfl (by repeat first | exact allT_nil | refine allT_cons (fun h => h) ?_ | refine allT_cons (fun h => andl h) ?_ | refine allT_cons (fun h => andl (andl h)) ?_ | refine allT_cons (fun _ => rfl) ?_) (fun _ => rfl) rfl ?_
 refine S.pureG tOk zOk rfl rfl (by repeat first | exact allT_nil | refine allT_cons (fun h => h) ?_ | refine allT_cons (fun h => andl h) ?_ | refine allT_cons (fun h => andl (andl h)) ?_ | refine allT_cons (fun _ => rfl) ?_) (fun _ => rfl) rfl ?_
 refine S.pureG tOk zOk rfl rfl (by repeat first | exact allT_nil | refine allT_cons (fun h => h) ?_ | refine allT_cons (fun h => andl h) ?_ | refine allT_cons (fun h => andl (andl h)) ?_ | refine allT_cons (fun _ => rfl) ?_) (fun _ => rfl) rfl ?_
 refine S.pureG tOk zOk rfl rfl (by repeat first | exact allT_nil | refine allT_cons (fun h => h) ?_ | refine allT_cons (fun h => andl h) ?_ | refine allT_cons (fun h => andl (andl h)) ?_ | refine allT_cons (fun _ => rfl) ?_) (fun _ => rfl) rfl ?_
 refine S.pickOrG tOk zOk rfl rfl rfl (by repeat first | exact allT_nil | refine allT_cons (fun h => h) ?_ | refine allT_cons (fun h => andl h) ?_ | refine allT_cons (fun h => andl (andl h)) ?_ | refine allT_cons (fun _ => rfl) ?_) (by repeat first | exact allT_nil | refine allT_cons (fun h => h) ?_ | refine allT_cons (fun h => andl h) ?_ | refine allT_cons (fun h => andl (andl h)) ?_ | refine allT_cons (fun _ => rfl) ?_) ?_
 refine S.pureG tOk zOk rfl rfl (by repeat first | exact allT_nil | refine allT_cons (fun h => h) ?_ | refine allT_cons (fun h => andl h) ?_ | refine allT_cons (fun h => andl (andl h)) ?_ | refine allT_cons (fun _ => rfl) ?_) (fun _ => rfl) rfl ?_
 refine S.pureG tOk zOk rfl rfl (by repeat first | exact allT_nil | refine allT_cons (fun h => h) ?_ | refine allT_cons (fun h => andl h) ?_ | refine allT_cons (fun h => andl (andl h)) ?_ | refine allT_cons (fun _ => rfl) ?_) (fun _ => rfl) rfl ?_
 refine S.pureG tOk zOk rfl rfl (by repeat first | exact allT_nil | refine allT_cons (fun h => h) ?_ | refine allT_cons (fun h => andl h) ?_ | refine allT_cons (fun h => andl (andl h)) ?_ | refine allT_cons (fun _ => rfl) ?_) (fun _ => rfl) rfl ?_
 refine S.pureG tOk zOk rfl rfl (by repeat first | exact allT_nil | refine allT_cons (fun h => h) ?_ | refine allT_cons (fun h => andl h) ?_ | refine allT_cons (fun h => andl (andl h)) ?_ | refine allT_cons (fun _ => rfl) ?_) (fun _ => rfl) rfl ?_
 refine S.pureG tOk zOk rfl rfl (by repeat first | exact allT_nil | refine allT_cons (fun h => h) ?_ | refine allT_cons (fun h => andl h) ?_ | refine allT_cons (fun h => andl (andl h)) ?_ | refine allT_cons (fun _ => rfl) ?_) (fun _ => rfl) rfl ?_
 refine S.pureG tOk zOk rfl rfl (by repeat first | exact allT_nil | refine allT_cons (fun h => h) ?_ | refine allT_cons (fun h => andl h) ?_ | refine allT_cons (fun h => andl (andl h)) ?_ | refine allT_cons (fun _ => rfl) ?_) (fun _ => rfl) rfl ?_
 refine S.hcallG rfl rfl rfl rfl (by repeat first | exact allT_nil | refine allT_cons (fun h => h) ?_ | refine allT_cons (fun h => andl h) ?_ | refine allT_cons (fun h => andl (andl h)) ?_ | refine allT_cons (fun _ => rfl) ?_) rfl (fun _ => (pc_near s.hf s.f v).frameD [0] [] [] rfl rfl rfl rfl rfl rfl rfl rfl rfl) ?_
 refine S.pickOrG tOk zOk rfl rfl rfl (by repeat first | exact allT_nil | refine allT_cons (fun h => h) ?_ | refine allT_cons (fun h => andl h) ?_ | refine allT_cons (fun h => andl (andl h)) ?_ | refine allT_cons (fun _ => rfl) ?_) (by repeat first | exact allT_nil | refine allT_cons (fun h => h) ?_ | refine allT_cons (fun h => andl h) ?_ | refine allT_cons (fun h => andl (andl h)) ?_ | refine allT_cons (fun _ => rfl) ?_) ?_
 refine S.pureG tOk zOk rfl rfl (by repeat first | exact allT_nil | refine allT_cons (fun h => h) ?_ | refine allT_cons (fun h => andl h) ?_ | refine allT_cons (fun h => andl (andl h)) ?_ | refine allT_cons (fun _ => rfl) ?_) (fun _ => rfl) rfl ?_
 refine S.pureG tOk zOk rfl rfl (by repeat first | exact allT_nil | refine allT_cons (fun h => h) ?_ | refine allT_cons (fun h => andl h) ?_ | refine allT_cons (fun h => andl (andl h)) ?_ | refine allT_cons (fun _ => rfl) ?_) (fun _ => rfl) rfl ?_
 refine S.pureG tOk zOk rfl rfl (by repeat first | exact allT_nil | refine allT_cons (fun h => h) ?_ | refine allT_cons (fun h => andl h) ?_ | refine allT_cons (fun h => andl (andl h)) ?_ | refine allT_cons (fun _ => rfl) ?_) (fun _ => rfl) rfl ?_
 refine S.pureG tOk zOk rfl rfl (by repeat first | exact allT_nil | refine allT_cons (fun h => h) ?_ | refine allT_cons (fun h => andl h) ?_ | refine allT_cons (fun h => andl (andl h)) ?_ | refine allT_cons (fun _ => rfl) ?_) (fun _ => rfl) rfl ?_
 refine S.pureG tOk zOk rfl rfl (by repeat first | exact allT_nil | refine allT_cons (fun h => h) ?_ | refine allT_cons (fun h => andl h) ?_ | refine allT_cons (fun h => andl (andl h)) ?_ | refine allT_cons (fun _ => rfl) ?_) (fun _ => rfl) rfl ?_
 refine S.pureG tOk zOk rfl rfl (by repeat first | exact allT_nil | refine allT_cons (fun h => h) ?_ | refine allT_cons (fun h => andl h) ?_ | refine allT_cons (fun h => andl (andl h)) ?_ | refine allT_cons (fun _ => rfl) ?_) (fun _ => rfl) rfl ?_
 refine S.hcallG rfl rfl rfl rfl (by repeat first | exact allT_nil | refine allT_cons (fun h => h) ?_ | refine allT_cons (fun h => andl h) ?_ | refine allT_cons (fun h => andl (andl h)) ?_ | refine allT_cons (fun _ => rfl) ?_) rfl (fun _ => (pc_near s.ht s.t v).frameD [0] [] [] rfl rfl rfl rfl rfl rfl rfl rfl rfl) ?_
 refine S.pickOrG tOk zOk rfl rfl rfl (by repeat first | exact allT_nil | refine allT_cons (fun h => h) ?_ | refine allT_cons (fun h => andl h) ?_ | refine allT_cons (fun h => andl (andl h)) ?_ | refine allT_cons (fun _ => rfl) ?_) (by repeat first | exact allT_nil | refine allT_cons (fun h => h) ?_ | refine allT_cons (fun h => andl h) ?_ | refine allT_cons (fun h => andl (andl h)) ?_ | refine allT_cons (fun _ => rfl) ?_) ?_
 refine S.pickAnd tOk zOk rfl rfl (by repeat first | exact allT_nil | refine allT_cons (fun h => h) ?_ | refine allT_cons (fun h => andl h) ?_ | refine allT_cons (fun h => andl (andl h)) ?_ | refine allT_cons (fun _ => rfl) ?_) ?_
 refine S.pure tOk zOk rfl rfl rfl ?_
 refine thenK_n ?_
 refine W.ret ?_
 exact ⟨_, rfl, rfl, LeG.refl _, rfl, rfl, rfl⟩
theorem mem_at {α : Type} {l : List α} {i : Nat} {d : α} (h : i < l.length) : l.getD i d ∈ l := by
  rw [List.getD_eq_getElem?_getD, List.getElem?_eq_getElem h]; exact List.getElem_mem h
theorem pc_IndexFunc_Span (f : Nat) (caps : List C) (b : List (List C)) (r : List (Option RowO)) (m : List (List (DV × DV))) (φ : Sp → Bool) (ss : List Sp) (hl : ss.length ≤ 1000000000) (hc : ∀ s ∈ ss, HCall Tryz.prog J f (spV s :: caps.map V.one) b r m (isH (.one (.d (.bool (φ s)))) b r m)) :
  HCall Tryz.prog J 148 ([.one (.d (.vec 10 (ss.map spD))), .one (.clo f caps)]) (b) (r) (m) (isH (.one (.d (.int .i64 (idxOf φ ss)))) (b) (r) (m)) := by
 refine HCall.ofN tOk (fn := Tryz.f148) Tryz.func148 (by kernel_rfl) rfl (Nat.le_of_ble_eq_true rfl) (fun E => ?_)
 refine W.seq ?_
 refine W.region ?_
 refine S.pure tOk zOk rfl rfl rfl ?_
 refine thenK_n ?_
 refine W.seq ?_
 refine W.seq ?_
 refine W.region ?_
 refine S.pure tOk zOk rfl rfl rfl ?_
 refine S.pure tOk zOk rfl rfl rfl ?_
 refine S.pure tOk zOk rfl rfl rfl ?_
 refine thenK_n ?_
 refine W.block ?_
 refine W.loop (fun k st => ∃ i : Nat, i ≤ ss.length ∧ (ss.take i).any φ = false ∧ k = ss.length - i ∧ ∃ t, st = ⟨t, b, r, m⟩ ∧ holdsL t [(0, .one (.d (.vec 10 (ss.map spD)))), (1, .one (.clo f caps)), (6, .one (.d (.vec 10 (ss.map spD)))), (7, .one (.d (.int .i64 ((ss.map spD).length : Int)))), (8, .one (.d (.int .i64 (i : Int))))]) (ss.length) ⟨0, Nat.zero_le _, by simp, rfl, _, rfl, rfl, rfl, rfl, rfl, rfl, trivial⟩ ?_
 rintro k0 _ ⟨i, f0_0, f0_1, rfl, t0, rfl, hh0⟩
 refine W.keep _ hh0 ?_
 refine W.seq ?_
 refine W.region ?_
 refine S.pure tOk zOk rfl rfl rfl ?_
 refine thenK_n ?_
 refine W.seq ?_
 refine W.cond rfl (fun c1 => ?_) (fun c1 => ?_)
 ·skip
  have hi := row_lt c1
  refine W.skip ?_
  refine thenK_n ?_
  refine W.seq ?_
  refine W.block ?_
  refine W.seq ?_
  refine W.region ?_
  refine S.pure tOk zOk rfl rfl rfl ?_
  refine S.pure tOk zOk rfl rfl rfl ?_
  refine thenK_n ?_
  refine W.seq ?_
  refine W.region ?_
  refine S.pure tOk zOk rfl rfl rfl ?_
  refine S.pure tOk zOk rfl rfl rfl ?_
  refine S.pure tOk zOk rfl rfl rfl ?_
  refine S.pureE tOk zOk rfl (row_ok hi) (row_at Sp.z hi) rfl ?_
  refine S.pure tOk zOk rfl rfl rfl ?_
  refine S.hcallU rfl rfl rfl (hc (ss.getD i Sp.z) (mem_at hi)) ?_
  refine thenK_n ?_
  refine W.cond rfl (fun c2 => ?_) (fun c2 => ?_)
  ·skip
   refine W.seq ?_
   refine W.region ?_
   refine S.pure tOk zOk rfl rfl rfl ?_
   refine S.pure tOk zOk rfl rfl rfl ?_
   refine thenK_n ?_
   refine W.ret ?_
   refine blockK_r ?_
   refine thenK_r ?_
   refine thenK_r ?_
   refine blockK_r ?_
   refine thenK_r ?_
   exact ⟨_, rfl, LeG.of_eq (congrArg (fun x => V.one (C.d (D.int .i64 x))) (idxOf_at (d := Sp.z) hi f0_1 c2).symm), rfl, rfl, rfl⟩
  ·skip
   refine W.skip ?_
   refine blockK_n ?_
   refine thenK_n ?_
   refine W.region ?_
   refine S.pure tOk zOk rfl rfl rfl ?_
   refine S.pure tOk zOk rfl rfl rfl ?_
   refine loop_n (ss.length - (i + 1)) (by omega) ⟨i + 1, hi, any_take (d := Sp.z) hi f0_1 c2, rfl, _, rfl, rfl, rfl, rfl, rfl, inc_i64 (by omega), trivial⟩
 ·skip
  have hi := row_ge c1
  refine W.exit ?_
  refine thenK_e ?_
  refine thenK_e ?_
  refine blockK_x ?_
  refine thenK_n ?_
  refine W.seq ?_
  refine W.region ?_
  refine S.pure tOk zOk rfl rfl rfl ?_
  refine thenK_n ?_
  refine W.ret ?_
  exact ⟨_, rfl, LeG.of_eq (congrArg (fun x => V.one (C.d (D.int .i64 x))) (idxOf_none (any_end hi f0_1)).symm), rfl, rfl, rfl⟩
theorem pc_ContainsFunc_Span (f : Nat) (caps : List C) (b : List (List C)) (r : List (Option RowO)) (m : List (List (DV × DV))) (φ : Sp → Bool) (ss : List Sp) (hl : ss.length ≤ 1000000000) (hc : ∀ s ∈ ss, HCall Tryz.prog J f (spV s :: caps.map V.one) b r m (isH (.one (.d (.bool (φ s)))) b r m)) :
  HCall Tryz.prog J 70 ([.one (.d (.vec 10 (ss.map spD))), .one (.clo f caps)]) (b) (r) (m) (isH (.one (.d (.bool (ss.any φ)))) (b) (r) (m)) := by
 refine HCall.ofN tOk (fn := Tryz.f70) Tryz.func70 (by kernel_rfl) rfl (Nat.le_of_ble_eq_true rfl) (fun E => ?_)
 refine W.seq ?_
 refine W.region ?_
 refine S.pure tOk zOk rfl rfl rfl ?_
 refine thenK_n ?_
 refine W.seq ?_
 refine W.region ?_
 refine S.pure tOk zOk rfl rfl rfl ?_
 refine S.pure tOk zOk rfl rfl rfl ?_
 refine S.hcallD rfl rfl rfl rfl (pc_IndexFunc_Span f caps b r m φ ss hl hc) ?_
 refine S.pure tOk zOk rfl rfl rfl ?_
 refine S.pure tOk zOk rfl rfl rfl ?_
 refine thenK_n ?_
 refine W.ret ?_
 exact ⟨_, rfl, LeG.of_eq (congrArg (fun x => V.one (C.d (D.bool x))) idxOf_ge), rfl, rfl, rfl⟩
theorem zero_ok {x : Sp} {l : List Sp} : (decide (0 ≤ (0 : Int)) && decide ((0 : Int) < (((x :: l).map spD).length : Int))) = true := by simp
theorem pc_HasOf_nil (hl : ([] : List Sp).length ≤ 1000000000) (hs : ∀ s ∈ ([] : List Sp), SpLen s) (v : Ver) (hv : v.e.length < 4294967281) :
  PureCall Tryz.prog J 22 [rgV ([] : List Sp), verV v] (.one (.d (.bool (([] : List Sp).any (hasAtR false v))))) := by
 refine PureCall.of_body tOk (fn := Tryz.f22) Tryz.func22 (by kernel_rfl) rfl (Nat.le_of_ble_eq_true rfl) (fun E => ?_)
 refine W.seq ?_
 refine W.region ?_
 refine S.box rfl rfl rfl rfl ?_
 refine S.box rfl rfl rfl rfl ?_
 refine S.pure tOk zOk rfl rfl rfl ?_
 refine thenK_n ?_
 refine W.seq ?_
 refine W.region ?_
 refine S.makeFunc rfl rfl rfl ?_
 refine S.alloc tOk rfl rfl rfl rfl ?_
 refine S.store tOk rfl rfl rfl rfl rfl rfl rfl rfl ?_
 refine thenK_n ?_
 refine W.seq ?_
 refine W.region ?_
 refine S.pure tOk zOk rfl rfl rfl ?_
 refine S.pure tOk zOk rfl rfl rfl ?_
 refine S.pure tOk zOk rfl rfl rfl ?_
 refine S.pure tOk zOk rfl rfl rfl ?_
 refine S.pure tOk zOk rfl rfl rfl ?_
 refine S.pureG tOk zOk rfl rfl (by repeat first | exact allT_nil | refine allT_cons (fun h => h) ?_ | refine allT_cons (fun h => andl h) ?_ | refine allT_cons (fun h => andl (andl h)) ?_ | refine allT_cons (fun _ => rfl) ?_) (fun _ => rfl) rfl ?_
 refine S.pureG tOk zOk rfl rfl (by repeat first | exact allT_nil | refine allT_cons (fun h => h) ?_ | refine allT_cons (fun h => andl h) ?_ | refine allT_cons (fun h => andl (andl h)) ?_ | refine allT_cons (fun _ => rfl) ?_) (fun _ => rfl) rfl ?_
 refine S.deadG rfl (.one (.eptr (spD Sp.z))) ?_
 refine S.pureG tOk zOk rfl rfl (by repeat first | exact allT_nil | refine allT_cons (fun h => h) ?_ | refine allT_cons (fun h => andl h) ?_ | refine allT_cons (fun h => andl (andl h)) ?_ | refine allT_cons (fun _ => rfl) ?_) (fun _ => rfl) rfl ?_
 refine S.pureG tOk zOk rfl rfl (by repeat first | exact allT_nil | refine allT_cons (fun h => h) ?_ | refine allT_cons (fun h => andl h) ?_ | refine allT_cons (fun h => andl (andl h)) ?_ | refine allT_cons (fun _ => rfl) ?_) (fun _ => rfl) rfl ?_
 refine S.pureG tOk zOk rfl rfl (by repeat first | exact allT_nil | refine allT_cons (fun h => h) ?_ | refine allT_cons (fun h => andl h) ?_ | refine allT_cons (fun h => andl (andl h)) ?_ | refine allT_cons (fun _ => rfl) ?_) (fun _ => rfl) rfl ?_
 refine S.pickAnd tOk zOk rfl rfl (by repeat first | exact allT_nil | refine allT_cons (fun h => h) ?_ | refine allT_cons (fun h => andl h) ?_ | refine allT_cons (fun h => andl (andl h)) ?_ | refine allT_cons (fun _ => rfl) ?_) ?_
 refine S.pure tOk zOk rfl rfl rfl ?_
 refine S.pureG tOk zOk rfl rfl (by repeat first | exact allT_nil | refine allT_cons (fun h => h) ?_ | refine allT_cons (fun h => andl h) ?_ | refine allT_cons (fun h => andl (andl h)) ?_ | refine allT_cons (fun _ => rfl) ?_) (fun _ => rfl) rfl ?_
 refine S.pureG tOk zOk rfl rfl (by repeat first | exact allT_nil | refine allT_cons (fun h => h) ?_ | refine allT_cons (fun h => andl h) ?_ | refine allT_cons (fun h => andl (andl h)) ?_ | refine allT_cons (fun _ => rfl) ?_) (fun _ => rfl) rfl ?_
 refine S.deadG rfl (.one (.eptr (spD Sp.z))) ?_
 refine S.pureG tOk zOk rfl rfl (by repeat first | exact allT_nil | refine allT_cons (fun h => h) ?_ | refine allT_cons (fun h => andl h) ?_ | refine allT_cons (fun h => andl (andl h)) ?_ | refine allT_cons (fun _ => rfl) ?_) (fun _ => rfl) rfl ?_
 refine S.pureG tOk zOk rfl rfl (by repeat first | exact allT_nil | refine allT_cons (fun h => h) ?_ | refine allT_cons (fun h => andl h) ?_ | refine allT_cons (fun h => andl (andl h)) ?_ | refine allT_cons (fun _ => rfl) ?_) (fun _ => rfl) rfl ?_
 refine S.pureG tOk zOk rfl rfl (by repeat first | exact allT_nil | refine allT_cons (fun h => h) ?_ | refine allT_cons (fun h => andl h) ?_ | refine allT_cons (fun h => andl (andl h)) ?_ | refine allT_cons (fun _ => rfl) ?_) (fun _ => rfl) rfl ?_
 refine S.pickAnd tOk zOk rfl rfl (by repeat first | exact allT_nil | refine allT_cons (fun h => h) ?_ | refine allT_cons (fun h => andl h) ?_ | refine allT_cons (fun h => andl (andl h)) ?_ | refine allT_cons (fun _ => rfl) ?_) ?_
 refine S.alloc tOk rfl rfl rfl rfl ?_
 refine S.store tOk rfl rfl rfl rfl rfl rfl rfl rfl ?_
 refine thenK_n ?_
 refine W.seq ?_
 refine W.region ?_
 refine S.pure tOk zOk rfl rfl rfl ?_
 refine S.pure tOk zOk rfl rfl rfl ?_
 refine S.makeFunc rfl rfl rfl ?_
 refine S.hcallD rfl rfl rfl rfl (pc_ContainsFunc_Span 71 [.ptr 1 0, .ptr 3 0, .ptr 2 0] _ _ _ (hasAtR false v) ([] : List Sp) hl (fun s hs' => (pc_hasAt s v false (hs s hs').1 (hs s hs').2 hv).frameD [1, 3, 2] [] [] rfl rfl rfl rfl rfl rfl rfl rfl rfl)) ?_
 refine S.pure tOk zOk rfl rfl rfl ?_
 refine thenK_n ?_
 refine W.ret ?_
 exact ⟨_, rfl, rfl, LeV.refl _⟩
theorem pc_HasOf_cons (x : Sp) (l : List Sp) (hl : (x :: l).length ≤ 1000000000) (hs : ∀ s ∈ x :: l, SpLen s) (v : Ver) (hv : v.e.length < 4294967281) :
  PureCall Tryz.prog J 22 [rgV (x :: l), verV v] (.one (.d (.bool ((x :: l).any (hasAtR ((((((x :: l).map spD).length : Int) == 1 && !x.hf) && !x.ht)) v))))) := by
 refine PureCall.of_body tOk (fn := Tryz.f22) Tryz.func22 (by kernel_rfl) rfl (Nat.le_of_ble_eq_true rfl) (fun E => ?_)
 refine W.seq ?_
 refine W.region ?_
 refine S.box rfl rfl rfl rfl ?_
 refine S.box rfl rfl rfl rfl ?_
 refine S.pure tOk zOk rfl rfl rfl ?_
 refine thenK_n ?_
 refine W.seq ?_
 refine W.region ?_
 refine S.makeFunc rfl rfl rfl ?_
 refine S.alloc tOk rfl rfl rfl rfl ?_
 refine S.store tOk rfl rfl rfl rfl rfl rfl rfl rfl ?_
 refine thenK_n ?_
 refine W.seq ?_
 refine W.region ?_
 refine S.pure tOk zOk rfl rfl rfl ?_
 refine S.pure tOk zOk rfl rfl rfl ?_
 refine S.pure tOk zOk rfl rfl rfl ?_
 refine S.pure tOk zOk rfl rfl rfl ?_
 refine S.pure tOk zOk rfl rfl rfl ?_
 refine S.pureG tOk zOk rfl rfl (by repeat first | exact allT_nil | refine allT_cons (fun h => h) ?_ | refine allT_cons (fun h => andl h) ?_ | refine allT_cons (fun h => andl (andl h)) ?_ | refine allT_cons (fun _ => rfl) ?_) (fun _ => rfl) rfl ?_
 refine S.pureG tOk zOk rfl rfl (by repeat first | exact allT_nil | refine allT_cons (fun h => h) ?_ | refine allT_cons (fun h => andl h) ?_ | refine allT_cons (fun h => andl (andl h)) ?_ | refine allT_cons (fun _ => rfl) ?_) (fun _ => rfl) rfl ?_
 refine S.pureG tOk zOk rfl rfl (by repeat first | exact allT_nil | refine allT_cons (fun h => h) ?_ | refine allT_cons (fun h => andl h) ?_ | refine allT_cons (fun h => andl (andl h)) ?_ | refine allT_cons (fun _ => rfl) ?_) (fun h => zero_ok) rfl ?_
 refine S.pureG tOk zOk rfl rfl (by repeat first | exact allT_nil | refine allT_cons (fun h => h) ?_ | refine allT_cons (fun h => andl h) ?_ | refine allT_cons (fun h => andl (andl h)) ?_ | refine allT_cons (fun _ => rfl) ?_) (fun _ => rfl) rfl ?_
 refine S.pureG tOk zOk rfl rfl (by repeat first | exact allT_nil | refine allT_cons (fun h => h) ?_ | refine allT_cons (fun h => andl h) ?_ | refine allT_cons (fun h => andl (andl h)) ?_ | refine allT_cons (fun _ => rfl) ?_) (fun _ => rfl) rfl ?_
 refine S.pureG tOk zOk rfl rfl (by repeat first | exact allT_nil | refine allT_cons (fun h => h) ?_ | refine allT_cons (fun h => andl h) ?_ | refine allT_cons (fun h => andl (andl h)) ?_ | refine allT_cons (fun _ => rfl) ?_) (fun _ => rfl) rfl ?_
 refine S.pickAnd tOk zOk rfl rfl (by repeat first | exact allT_nil | refine allT_cons (fun h => h) ?_ | refine allT_cons (fun h => andl h) ?_ | refine allT_cons (fun h => andl (andl h)) ?_ | refine allT_cons (fun _ => rfl) ?_) ?_
 refine S.pure tOk zOk rfl rfl rfl ?_
 refine S.pureG tOk zOk rfl rfl (by repeat first | exact allT_nil | refine allT_cons (fun h => h) ?_ | refine allT_cons (fun h => andl h) ?_ | refine allT_cons (fun h => andl (andl h)) ?_ | refine allT_cons (fun _ => rfl) ?_) (fun _ => rfl) rfl ?_
 refine S.pureG tOk zOk rfl rfl (by repeat first | exact allT_nil | refine allT_cons (fun h => h) ?_ | refine allT_cons (fun h => andl h) ?_ | refine allT_cons (fun h => andl (andl h)) ?_ | refine allT_cons (fun _ => rfl) ?_) (fun _ => rfl) rfl ?_
 refine S.pureG tOk zOk rfl rfl (by repeat first | exact allT_nil | refine allT_cons (fun h => h) ?_ | refine allT_cons (fun h => andl h) ?_ | refine allT_cons (fun h => andl (andl h)) ?_ | refine allT_cons (fun _ => rfl) ?_) (fun h => zero_ok) rfl ?_
 refine S.pureG tOk zOk rfl rfl (by repeat first | exact allT_nil | refine allT_cons (fun h => h) ?_ | refine allT_cons (fun h => andl h) ?_ | refine allT_cons (fun h => andl (andl h)) ?_ | refine allT_cons (fun _ => rfl) ?_) (fun _ => rfl) rfl ?_
 refine S.pureG tOk zOk rfl rfl (by repeat first | exact allT_nil | refine allT_cons (fun h => h) ?_ | refine allT_cons (fun h => andl h) ?_ | refine allT_cons (fun h => andl (andl h)) ?_ | refine allT_cons (fun _ => rfl) ?_) (fun _ => rfl) rfl ?_
 refine S.pureG tOk zOk rfl rfl (by repeat first | exact allT_nil | refine allT_cons (fun h => h) ?_ | refine allT_cons (fun h => andl h) ?_ | refine allT_cons (fun h => andl (andl h)) ?_ | refine allT_cons (fun _ => rfl) ?_) (fun _ => rfl) rfl ?_
 refine S.pickAnd tOk zOk rfl rfl (by repeat first | exact allT_nil | refine allT_cons (fun h => h) ?_ | refine allT_cons (fun h => andl h) ?_ | refine allT_cons (fun h => andl (andl h)) ?_ | refine allT_cons (fun _ => rfl) ?_) ?_
 refine S.alloc tOk rfl rfl rfl rfl ?_
 refine S.store tOk rfl rfl rfl rfl rfl rfl rfl rfl ?_
 refine thenK_n ?_
 refine W.seq ?_
 refine W.region ?_
 refine S.pure tOk zOk rfl rfl rfl ?_
 refine S.pure tOk zOk rfl rfl rfl ?_
 refine S.makeFunc rfl rfl rfl ?_
 refine S.hcallD rfl rfl rfl rfl (pc_ContainsFunc_Span 71 [.ptr 1 0, .ptr 3 0, .ptr 2 0] _ _ _ (hasAtR ((((((x :: l).map spD).length : Int) == 1 && !x.hf) && !x.ht)) v) (x :: l) hl (fun s hs' => (pc_hasAt s v ((((((x :: l).map spD).length : Int) == 1 && !x.hf) && !x.ht)) (hs s hs').1 (hs s hs').2 hv).frameD [1, 3, 2] [] [] rfl rfl rfl rfl rfl rfl rfl rfl rfl)) ?_
 refine S.pure tOk zOk rfl rfl rfl ?_
 refine thenK_n ?_
 refine W.ret ?_
 exact ⟨_, rfl, rfl, LeV.refl _⟩
theorem pc_outref2_HasOf (ss : List Sp) (hl : ss.length ≤ 1000000000) (hs : ∀ s ∈ ss, SpLen s) (v : Ver) (hv : v.e.length < 4294967281) : PureCall Tryz.prog J 22 [rgV ss, verV v] (.one (.d (.bool (hasR ss v)))) := by
  cases ss with
  | nil => exact pc_HasOf_nil hl hs v hv
  | cons x l =>
    have h := pc_HasOf_cons x l hl hs v hv
    rw [List.length_map] at h
    exact h
end Go.Proofs.YtnphejkeflngcaaGreatDoor

/- A row that is given room ahead (slices.Grow of a nil slice). -/
set_option linter.unusedVariables false
set_option linter.unusedSimpArgs false
namespace Go.Proofs.YtnphejkeflngcaaGreatDoor
open Go Go.RowKit
/-- What slices.Grow(nil, k) does. -/
structure GrowOk (P : Program) (f : FuncId) (e : TypeId) (sz bytes : Nat) : Prop where
  enter : ∃ fn, P.funcs[f]? = some fn ∧ (fn.name == "runtime.NumGoroutine") = false ∧ fn.body.isNone = false
  run : ∀ (k : Nat) (w : World), k * bytes ≤ 140737488355328 → k ≤ 4611686018427387904 → Calls P f #[.slice none 0 0, .int .i64 k] w fun x w' =>
    (k = 0 ∧ x = .returned (.slice none 0 0) ∧ w' = w) ∨ (0 < k ∧ ∃ cap vs, x = .returned (.slice (some ⟨w.heap.size, 0, none⟩) 0 cap) ∧ w'.os = w.os ∧ w'.tape = w.tape ∧ w'.output = w.output ∧ w.heap.size ≤ w'.heap.size ∧
      (∀ j, j < w.heap.size → w'.heap[j]? = w.heap[j]?) ∧ w'.heap[w.heap.size]? = some (.cells vs e (0, 0)) ∧ vs.size = cap * sz ∧ cap ≤ maxLen)
section
variable {J : Inv} {k0 : Lens} {E : Env J k0} {P : Program} {n : Nat} {t : Nat → V} {b : List (List C)} {r : List (Option RowO)} {m : List (List (DV × DV))} {ops : Array Oper} {l : List Oper}
  {K : St → Prop} {i : Nat} {ty : TypeId} {pos : String} {after : Array Edge}
theorem S.growRow {fo : Operand} {args : Array Operand} {ats : Array TypeId} {u : V} {f : FuncId} {e : TypeId} {ri ver sz bytes k : Nat} (hu : opd n ⟨t, b, r, m⟩ fo = (true, u)) (hc : calleeV u = some (f, []))
    (ha : allOpdL n ⟨t, b, r, m⟩ args.toList = (true, [.one (.d .nilsl), .one (.d (.int .i64 (k : Int)))])) (gk : GrowOk P f e sz bytes) (hr : r[ri]? = some (some ⟨false, ver, sz, e, []⟩)) (hb : k * bytes ≤ 140737488355328) (h63 : k ≤ 4611686018427387904)
    (h : WL E P n ops l K ⟨upd t i (.one (.row ri (ver + 1) 0 0)), b, r.set ri (some ⟨!Nat.beq k 0, ver + 1, sz, e, []⟩), m⟩) : WL E P n ops (⟨some i, .call ⟨.value fo, args, ats⟩, ty, pos, after, none⟩ :: l) K ⟨t, b, r, m⟩ := by
  intro g a w rel next Qx hn
  obtain ⟨o, ho⟩ : ∃ o : Oper, o = ⟨some i, .call ⟨.value fo, args, ats⟩, ty, pos, after, none⟩ := ⟨_, rfl⟩
  rw [← ho]
  have hg : o.guard = none := by rw [ho]
  have hop : o.op = .call { callee := .value fo, args, argTypes := ats } := by rw [ho]
  have hdst : o.dst = some i := by rw [ho]
  have hw : Region.wanted o (yielded ops a.tmps) = true := by simp [Region.wanted, hg]
  rw [if_pos hw]
  obtain ⟨fn, hf, h1, h2⟩ := gk.enter
  obtain ⟨vs, hl, hx, hrun⟩ := call_run rel hop hu hc hf h1 h2
  obtain ⟨hal, hav⟩ := allOpdL_ok rel _ _ _ ha rfl
  have hvs : vs = [] := List.length_eq_zero_iff.1 (by simpa using hl)
  subst hvs
  have hlt : ri < r.length := (List.getElem?_eq_some_iff.1 hr).1
  unfold Oper.wp
  rw [hrun]
  match hq : args.toList.map a.eval with
  | [x, y] =>
    rw [hq] at hav
    have hx1 := hav 0 _ x rfl rfl
    have hy1 := hav 1 _ y rfl rfl
    have ex : x = .slice none 0 0 := by cases hx1 with | one _ _ hx1 => cases hx1 with | d _ _ hx1 => cases hx1; rfl
    have ey : y = .int .i64 k := by cases hy1 with | one _ _ hx1 => cases hx1 with | d _ _ hx1 => cases hx1; rfl
    subst ex; subst ey
    show Calls P f _ w _
    have hcall := gk.run k w hb h63
    have fin : ∀ (al : Bool) (at' cap' : Nat) (v' : Value) (w' : World), al = (!Nat.beq k 0) → v'.oneCell' = true → (v' = if al then .slice (some ⟨at', 0, none⟩) 0 cap' else .slice none 0 0) →
        Rel E n (g.row ri at' cap') ((⟨t, b, r, m⟩ : St).withRow ri ⟨al, ver + 1, sz, e, []⟩) a w' → next (a.put o.dst v') w' := fun al at' cap' v' w' hal' h1 h2 rel' => by
      have hv : RV (g.row ri at' cap') ((⟨t, b, r, m⟩ : St).withRow ri ⟨al, ver + 1, sz, e, []⟩).sh w' (.one (.row ri (ver + 1) 0 0)) v' := by
        refine .one _ _ (.row _ _ _ _ _ h1 (by simpa [St.sh, St.withRow] using hlt) (fun al' ver' sz' len hh => ?_))
        have hf := rows_get (s := (⟨t, b, r, m⟩ : St).withRow ri ⟨al, ver + 1, sz, e, []⟩) (r := ri) (o := ⟨al, ver + 1, sz, e, []⟩) (by simp [St.withRow, List.getElem?_set, hlt])
        rw [hf] at hh
        simp only [Option.some.injEq, RowO.form, Prod.mk.injEq] at hh
        obtain ⟨rfl, rfl, rfl, rfl⟩ := hh
        refine ⟨Nat.le_refl _, fun _ => ⟨by simp, ?_⟩⟩
        rw [h2]
        simp [Gh.row]
      have hp := rel'.put_same o.dst hv
      rw [hdst] at hp
      rw [hdst]
      subst hal'
      exact hn _ _ _ w' h hp
    refine hcall.mono ?_
    rintro x w' (⟨rfl, rfl, rfl⟩ | ⟨hk, cap, vs, rfl, p1, p2, p3, p4, p5, p6, p7, p8⟩)
    · obtain ⟨rel', ext⟩ := rel.setRow (o' := ⟨false, ver + 1, sz, e, []⟩) (at' := 0) (cap' := 0) hr (Nat.lt_succ_self _) rfl rfl rfl (Nat.le_refl _) (fun _ _ _ => rfl) (fun h => by cases h) rfl
      exact fin false 0 0 _ _ rfl rfl rfl rel'
    · obtain ⟨rel', ext⟩ := rel.setRow (o' := ⟨true, ver + 1, sz, e, []⟩) (at' := w.heap.size) (cap' := cap) hr (Nat.lt_succ_self _) p1 p2 p3 p4 (fun j hj _ => p5 j hj) (fun _ => .inr (Nat.le_refl _))
        ⟨vs, p6, p7, p8, Nat.zero_le _, fun x hx => (by cases hx), fun _ _ => trivial, fun i j x d v h1 => (by simp at h1)⟩
      exact fin true w.heap.size cap _ _ (by cases k with | zero => omega | succ k => rfl) rfl rfl rel'
  | [] => have := congrArg List.length hq; rw [List.length_map, ← hal] at this; simp at this
  | [_] => have := congrArg List.length hq; rw [List.length_map, ← hal] at this; simp at this
  | _ :: _ :: _ :: _ => have := congrArg List.length hq; rw [List.length_map, ← hal] at this; simp at this
end
end Go.Proofs.YtnphejkeflngcaaGreatDoor

/- A row's version told anew. -/
set_option linter.unusedVariables false
set_option linter.unusedSimpArgs false
namespace Go.Proofs.YtnphejkeflngcaaGreatDoor
open Go Go.RowKit
def reC (ri v : Nat) : C → C
  | .row q w off n => bif Nat.beq q ri then .row q v off n else .row q w off n
  | .rptr q w i fo => bif Nat.beq q ri then .rptr q v i fo else .rptr q w i fo
  | c => c
def flatC : C → Bool
  | .row _ _ _ _ => false
  | .rptr _ _ _ _ => false
  | .clo _ _ => false
  | _ => true
def reOkC (ri : Nat) : C → Bool
  | .row q w _ _ => !Nat.beq q ri || Nat.beq w 0
  | .rptr q w _ _ => !Nat.beq q ri || Nat.beq w 0
  | .clo _ caps => caps.all flatC
  | _ => true
def reV (ri v : Nat) : V → V
  | .one c => .one (reC ri v c)
  | .agg cs => .agg (cs.map (reC ri v))
  | u => u
def reOkV (ri : Nat) : V → Bool
  | .one c => reOkC ri c
  | .agg cs => cs.all (reOkC ri)
  | .junk => true
  | _ => false
/-- The forms of rows, but for one row's version. -/
structure ReSh (ri v : Nat) (h h' : Sh) : Prop where
  L : h'.L = h.L
  M : h'.M = h.M
  len : h'.rows.length = h.rows.length
  other : ∀ q, q ≠ ri → h'.rows[q]? = h.rows[q]?
  at_ : ∃ al sz ln, h.rows[ri]? = some (some (al, v, sz, ln)) ∧ h'.rows[ri]? = some (some (al, 0, sz, ln))
theorem RC.re {ri v : Nat} {g : Gh} {h h' : Sh} {w : World} (hs : ReSh ri v h h') {c : C} {x : Value} (hok : reOkC ri c = true) (hc : RC g h w (reC ri v c) x) : RC g h' w c x := by
  have hfl : ∀ {c : C} {x : Value}, flatC c = true → RC g h w c x → RC g h' w c x := fun {c x} hf hc => by
    cases hc with
    | d _ _ hx => exact .d _ _ hx
    | ptr l off hl => exact .ptr _ _ (by rw [hs.L]; exact hl)
    | eptr cells b o u hb h1 h2 => exact .eptr _ _ _ _ hb h1 h2
    | row => cases hf
    | rptr => cases hf
    | map m hm => exact .map _ (by rw [hs.M]; exact hm)
    | clo => cases hf
    | junk _ hv => exact .junk _ hv
  obtain ⟨al, sz, ln, a1, a2⟩ := hs.at_
  cases c with
  | row q w' off n =>
    have hc : RC g h w (bif Nat.beq q ri then .row q v off n else .row q w' off n) x := hc
    cases hb : Nat.beq q ri with
    | true =>
      obtain rfl : q = ri := Nat.eq_of_beq_eq_true hb
      rw [hb] at hc
      have hw0 : w' = 0 := by
        have hok : (!Nat.beq q q || Nat.beq w' 0) = true := hok
        rw [hb] at hok
        exact Nat.eq_of_beq_eq_true (by simpa using hok)
      subst hw0
      cases hc with | row _ _ _ _ _ h1 h2 h3 =>
      refine .row _ _ _ _ _ h1 (by rw [hs.len]; exact h2) (fun al' ver' sz' len' hh => ?_)
      rw [a2] at hh
      simp only [Option.some.injEq, Prod.mk.injEq] at hh
      obtain ⟨rfl, rfl, rfl, rfl⟩ := hh
      exact ⟨Nat.le_refl _, fun _ => (h3 _ _ _ _ a1).2 rfl⟩
    | false =>
      have hne : q ≠ ri := fun e => by rw [e] at hb; simp at hb
      rw [hb] at hc
      cases hc with | row _ _ _ _ _ h1 h2 h3 =>
      exact .row _ _ _ _ _ h1 (by rw [hs.len]; exact h2) (fun al' ver' sz' len' hh => h3 _ _ _ _ (by rw [← hs.other q hne]; exact hh))
  | rptr q w' i fo =>
    have hc : RC g h w (bif Nat.beq q ri then .rptr q v i fo else .rptr q w' i fo) x := hc
    cases hb : Nat.beq q ri with
    | true =>
      obtain rfl : q = ri := Nat.eq_of_beq_eq_true hb
      rw [hb] at hc
      have hw0 : w' = 0 := by
        have hok : (!Nat.beq q q || Nat.beq w' 0) = true := hok
        rw [hb] at hok
        exact Nat.eq_of_beq_eq_true (by simpa using hok)
      subst hw0
      cases hc with | rptr _ _ _ _ _ h1 h2 h3 =>
      refine .rptr _ _ _ _ _ h1 (by rw [hs.len]; exact h2) (fun al' ver' sz' len' hh => ?_)
      rw [a2] at hh
      simp only [Option.some.injEq, Prod.mk.injEq] at hh
      obtain ⟨rfl, rfl, rfl, rfl⟩ := hh
      exact ⟨Nat.le_refl _, fun _ => (h3 _ _ _ _ a1).2 rfl⟩
    | false =>
      have hne : q ≠ ri := fun e => by rw [e] at hb; simp at hb
      rw [hb] at hc
      cases hc with | rptr _ _ _ _ _ h1 h2 h3 =>
      exact .rptr _ _ _ _ _ h1 (by rw [hs.len]; exact h2) (fun al' ver' sz' len' hh => h3 _ _ _ _ (by rw [← hs.other q hne]; exact hh))
  | clo f caps =>
    have hall : ∀ c ∈ caps, flatC c = true := List.all_eq_true.1 hok
    have hc : RC g h w (.clo f caps) x := hc
    cases hc with | clo _ _ vs hl hx =>
    exact .clo _ _ _ hl (fun i c v h1 h2 => hfl (hall c (List.mem_of_getElem? h1)) (hx i c v h1 h2))
  | d x => exact hfl rfl hc
  | ptr l off => exact hfl rfl hc
  | eptr cells => exact hfl rfl hc
  | map m => exact hfl rfl hc
  | junk => exact hfl rfl hc
theorem RV.re {ri v : Nat} {g : Gh} {h h' : Sh} {w : World} (hs : ReSh ri v h h') {u : V} {x : Value} (hok : reOkV ri u = true) (hu : RV g h w (reV ri v u) x) : RV g h' w u x := by
  cases u with
  | one c => cases hu with | one _ _ hc => exact .one _ _ (hc.re hs hok)
  | agg cs =>
    have hu : RV g h w (.agg (cs.map (reC ri v))) x := hu
    cases hu with | agg _ vs hl hx =>
    refine .agg _ _ (by simpa using hl) (fun i c y h1 h2 => (hx i (reC ri v c) y (by simp [h1]) h2).re hs (List.all_eq_true.1 hok c (List.mem_of_getElem? h1)))
  | junk => exact .junk _
  | tup => cases hok
  | when => cases hok
def reL (ri v : Nat) (l : List (Nat × V)) : List (Nat × V) := l.map fun x => (x.1, reV ri v x.2)
theorem ofL_re (ri v : Nat) : ∀ (l : List (Nat × V)) (j : Nat), ofL (reL ri v l) j = reV ri v (ofL l j)
  | [], _ => rfl
  | (k, u) :: l, j => by
    show (bif Nat.beq k j then reV ri v u else ofL (reL ri v l) j) = reV ri v (bif Nat.beq k j then u else ofL l j)
    cases Nat.beq k j with
    | true => rfl
    | false => exact ofL_re ri v l j
theorem ofL_ok {ri : Nat} : ∀ {l : List (Nat × V)}, (l.all fun x => reOkV ri x.2) = true → ∀ j, reOkV ri (ofL l j) = true
  | [], _, _ => rfl
  | (k, u) :: l, h, j => by
    simp only [List.all_cons, Bool.and_eq_true] at h
    show reOkV ri (bif Nat.beq k j then u else ofL l j) = true
    cases Nat.beq k j with
    | true => exact h.1
    | false => exact ofL_ok h.2 j
/-- **An own row's version is told as 0.** -/
theorem W.reVer {J : Inv} {k0 : Lens} {E : Env J k0} {P : Program} {n : Nat} {c : Code} {K : Ex → St → Prop} {l l0 : List (Nat × V)} {b b0 : List (List C)} {r r' : List (Option RowO)} {v sz : Nat} {al : Bool} {e : TypeId} {xs : List (List D)} (ri : Nat)
    (hr : r[ri]? = some (some ⟨al, v, sz, e, xs⟩)) (hl : reL ri v l = l0) (hb : b.map (fun cs => cs.map (reC ri v)) = b0) (hr' : r.set ri (some ⟨al, 0, sz, e, xs⟩) = r')
    (hok : (Nat.ble k0.R ri && ((l.all fun x => reOkV ri x.2) && b.all fun cs => cs.all (reOkC ri))) = true) (h : W E P n c K ⟨ofL l, b, r', []⟩) : W E P n c K ⟨ofL l0, b0, r, []⟩ := by
  subst hl; subst hb; subst hr'
  simp only [Bool.and_eq_true] at hok
  have hR := Nat.le_of_ble_eq_true hok.1
  have hlt : ri < r.length := (List.getElem?_eq_some_iff.1 hr).1
  refine h.weaken fun g a w rel => ⟨g, ?_⟩
  have hs : ReSh ri v (⟨ofL (reL ri v l), b.map (fun cs => cs.map (reC ri v)), r, []⟩ : St).sh (⟨ofL l, b, r.set ri (some ⟨al, 0, sz, e, xs⟩), []⟩ : St).sh := by
    refine ⟨by simp [St.sh], rfl, by simp [St.sh], fun q hq => ?_, al, sz, xs.length, by simp [St.sh, hr, RowO.form], by simp [St.sh, hlt, RowO.form]⟩
    have hq' : ¬ ri = q := fun e => hq e.symm
    simp [St.sh, List.getElem?_set, hq']
  have hlive : ∀ x, (⟨ofL l, b, r.set ri (some ⟨al, 0, sz, e, xs⟩), []⟩ : St).live x → (⟨ofL (reL ri v l), b.map (fun cs => cs.map (reC ri v)), r, []⟩ : St).live x := fun x hx => by
    cases x with
    | b q => have : q < b.length := hx; show q < (b.map _).length; simpa using this
    | m q => exact hx
    | r q =>
      obtain ⟨o, ho, hal⟩ := hx
      have ho : (r.set ri (some ⟨al, 0, sz, e, xs⟩))[q]? = some (some o) := ho
      by_cases hq : ri = q
      · subst hq
        simp [hlt] at ho
        exact ⟨_, hr, by rw [← ho] at hal; exact hal⟩
      · rw [List.getElem?_set, if_neg hq] at ho; exact ⟨o, ho, hal⟩
  refine ⟨rel.below, ?_, rel.imlt, rel.imold, fun x hx => rel.own x (hlive x hx), ⟨fun x hx => rel.heap.lt x (hlive x hx), fun x hx => rel.heap.new x (hlive x hx), fun x y hx hy => rel.heap.inj x y (hlive x hx) (hlive y hy), fun q cs hq => ?_, fun q o hq => ?_, fun q es hq => by cases hq⟩, rel.size, rel.defers, fun i hi => ?_⟩
  · have x := rel.ext
    refine ⟨x.im, x.same, by rw [hs.L]; exact x.lenL, by rw [hs.M]; exact x.lenM, by rw [hs.len]; exact x.lenR, x.atB, x.atM, fun q al' ver' sz' len' hq hh => x.rows q al' ver' sz' len' hq ?_⟩
    rw [← hs.other q (by rw [E.hR] at hq; omega)]; exact hh
  · have hq : b[q]? = some cs := hq
    obtain ⟨vs, t, h1, h2, h3⟩ := rel.heap.box q (cs.map (reC ri v)) (by simp [hq])
    refine ⟨vs, t, h1, by simpa using h2, fun j c x hc hx => (h3 j (reC ri v c) x (by simp [hc]) hx).re hs ?_⟩
    exact List.all_eq_true.1 (List.all_eq_true.1 hok.2.2 cs (List.mem_of_getElem? hq)) c (List.mem_of_getElem? hc)
  · have hq : (r.set ri (some ⟨al, 0, sz, e, xs⟩))[q]? = some (some o) := hq
    by_cases hqe : ri = q
    · subst hqe
      simp [hlt] at hq
      subst hq
      exact rel.heap.row ri ⟨al, v, sz, e, xs⟩ hr
    · rw [List.getElem?_set, if_neg hqe] at hq; exact rel.heap.row q o hq
  · have h1 := rel.tmps i hi
    have e1 : (⟨ofL (reL ri v l), b.map (fun cs => cs.map (reC ri v)), r, []⟩ : St).t i = reV ri v (ofL l i) := ofL_re ri v l i
    rw [e1] at h1
    exact h1.re hs (ofL_ok hok.2.1 i)
end Go.Proofs.YtnphejkeflngcaaGreatDoor

/- slices.Grow of a nil slice, out of the library's contract. -/
set_option linter.unusedVariables false
set_option linter.unusedSimpArgs false
namespace Go.Proofs.YtnphejkeflngcaaGreatDoor
open Go Go.RowKit
theorem GrowOk.of {P : Program} {T : TypeId → Option TI} {ρ : Go.Shelf.Ren} (hT : TabOk P T) (L : Lays8.n4 P ρ) {f : FuncId} {e : TypeId} {ei : TI} (hf : ρ.f 4 = f) (he : ρ.t 25 = e) (hei : T e = some ei) (hpos : Nat.blt 0 ei.size = true)
    (hz : ei.zero.cells.size = ei.size) (enter : ∃ fn, P.funcs[f]? = some fn ∧ (fn.name == "runtime.NumGoroutine") = false ∧ fn.body.isNone = false) : GrowOk P f e ei.size ei.bytes := by
  refine ⟨enter, fun k w hb h63 => ?_⟩
  subst hf
  have hpos : 0 < ei.size := by simpa using hpos
  obtain ⟨_, info, hi1, hi2, hi3, hi4, _⟩ := hT e ei hei
  rcases Nat.eq_zero_or_pos k with rfl | hk
  · refine (Any8.slices_Grow_room L none 0 0 0 w (Nat.le_refl _) (by omega) (by omega) (by omega)).mono ?_
    rintro x w' ⟨rfl, rfl⟩
    exact .inl ⟨rfl, rfl, rfl⟩
  · have h := Any8.slices_Grow_grow L info ei.zero (by rw [he]; exact hi1) hi3 (by omega) none 0 0 k [] w (Nat.le_refl _) (by omega) (by rw [hi4]; simpa using hb) (by omega) (by simp) (fun _ => rfl) (fun a ha => by cases ha)
    refine h.mono ?_
    rintro x w' ⟨rfl, rfl⟩
    have hge : k ≤ grownCap w (0 + k) 0 (ρ.t 25) := by have := grownCap_ge w (0 + k) 0 (ρ.t 25); omega
    have hle : grownCap w (0 + k) 0 (ρ.t 25) ≤ maxLen := grownCap_le_maxLen w (0 + k) 0 (ρ.t 25) (by unfold maxLen; omega)
    generalize hG : grownCap w (0 + k) 0 (ρ.t 25) = G at hge hle ⊢
    refine .inr ⟨hk, G, ([].toArray ++ Builtin.zeroCells ei.zero.cells (0 + k - 0) ++ Builtin.zeroCells ei.zero.cells (G - (0 + k))), rfl, rfl, rfl, rfl, ?_, fun j hj => ?_, ?_, ?_, hle⟩
    · show w.heap.size ≤ (w.heap.push _).size
      rw [Array.size_push]; omega
    · show (w.heap.push _)[j]? = _
      rw [Array.getElem?_push_lt hj, Array.getElem?_eq_getElem hj]
    · show (w.heap.push _)[w.heap.size]? = _
      rw [Array.getElem?_push_size, he]
    · rw [Array.size_append, Array.size_append, size_zeroCells, size_zeroCells, hz]
      show 0 + (0 + k - 0) * ei.size + (G - (0 + k)) * ei.size = G * ei.size
      rw [Nat.zero_add, Nat.zero_add, Nat.sub_zero, ← Nat.add_mul]
      congr 1; omega
end Go.Proofs.YtnphejkeflngcaaGreatDoor

/- The library's generic contracts that this claim needs, at this seat (laid in plain words by the kit's tool). -/
namespace Go.Proofs
open Go.Shelf
def Tryz.lgGrowSpan_ren : Go.Shelf.Ren := ⟨fun | 4 => 203 | n => n, fun | 22 => 22 | 25 => 81 | 3 => 3 | 4 => 4 | 9 => 9 | 20 => 20 | 0 => 0 | n => n, fun | n => n⟩
theorem Tryz.lgGrowSpan : Go.Proofs.Lays8.n4 Tryz.prog Tryz.lgGrowSpan_ren := {
  mixed := by kernel_rfl
  f4 := ⟨Tryz.f203.name, by decide, Tryz.func203.trans (congrArg some (by kernel_rfl))⟩
  t0 := Tryz.underlying0
  a0 := Tryz.isAgg0
  z0 := Tryz.sizeOf0
  v0 := Tryz.zeroValue0
  t3 := Tryz.underlying3
  a3 := Tryz.isAgg3
  z3 := Tryz.sizeOf3
  v3 := Tryz.zeroValue3
  t4 := Tryz.underlying4
  a4 := Tryz.isAgg4
  z4 := Tryz.sizeOf4
  v4 := Tryz.zeroValue4
  t9 := Tryz.underlying9
  a9 := Tryz.isAgg9
  z9 := Tryz.sizeOf9
  v9 := Tryz.zeroValue9
  t20 := Tryz.underlying20
  a20 := Tryz.isAgg20
  z20 := Tryz.sizeOf20
  v20 := Tryz.zeroValue20
  t22 := Tryz.underlying22
  a22 := Tryz.isAgg22
  z22 := Tryz.sizeOf22
  v22 := Tryz.zeroValue22 }
def Tryz.lgSortVer_ren : Go.Shelf.Ren := ⟨fun | 6 => 150 | 15 => 178 | 14 => 204 | 28 => 227 | 29 => 228 | 20 => 240 | 21 => 241 | 22 => 242 | 23 => 243 | 24 => 244 | 25 => 245 | 26 => 246 | 27 => 247 | 46 => 269 | 47 => 254 | 48 => 255 | 49 => 270 | 50 => 271 | 57 => 284 | n => n, fun | 22 => 44 | 24 => 43 | 25 => 56 | 3 => 3 | 39 => 213 | 0 => 0 | 53 => 250 | 55 => 252 | 4 => 4 | 46 => 244 | 45 => 243 | 50 => 183 | 5 => 5 | 9 => 9 | 66 => 286 | 70 => 290 | 76 => 306 | 77 => 307 | n => n, fun | n => n⟩
theorem Tryz.lgSortVer : Go.Proofs.SlLaysF0.n6 Tryz.prog Tryz.lgSortVer_ren := {
  mixed := by kernel_rfl
  f6 := ⟨Tryz.f150.name, by decide, Tryz.func150.trans (congrArg some (by kernel_rfl))⟩
  f14 := ⟨Tryz.f204.name, by decide, Tryz.func204.trans (congrArg some (by kernel_rfl))⟩
  f15 := Tryz.func178.trans (congrArg some (by kernel_rfl))
  f20 := ⟨Tryz.f240.name, by decide, Tryz.func240.trans (congrArg some (by kernel_rfl))⟩
  f21 := ⟨Tryz.f241.name, by decide, Tryz.func241.trans (congrArg some (by kernel_rfl))⟩
  f22 := ⟨Tryz.f242.name, by decide, Tryz.func242.trans (congrArg some (by kernel_rfl))⟩
  f23 := ⟨Tryz.f243.name, by decide, Tryz.func243.trans (congrArg some (by kernel_rfl))⟩
  f24 := ⟨Tryz.f244.name, by decide, Tryz.func244.trans (congrArg some (by kernel_rfl))⟩
  f25 := ⟨Tryz.f245.name, by decide, Tryz.func245.trans (congrArg some (by kernel_rfl))⟩
  f26 := ⟨Tryz.f246.name, by decide, Tryz.func246.trans (congrArg some (by kernel_rfl))⟩
  f27 := ⟨Tryz.f247.name, by decide, Tryz.func247.trans (congrArg some (by kernel_rfl))⟩
  f28 := Tryz.func227.trans (congrArg some (by kernel_rfl))
  f29 := Tryz.func228.trans (congrArg some (by kernel_rfl))
  f46 := ⟨Tryz.f269.name, by decide, Tryz.func269.trans (congrArg some (by kernel_rfl))⟩
  f47 := Tryz.func254.trans (congrArg some (by kernel_rfl))
  f48 := Tryz.func255.trans (congrArg some (by kernel_rfl))
  f49 := ⟨Tryz.f270.name, by decide, Tryz.func270.trans (congrArg some (by kernel_rfl))⟩
  f50 := ⟨Tryz.f271.name, by decide, Tryz.func271.trans (congrArg some (by kernel_rfl))⟩
  f57 := ⟨Tryz.f284.name, by decide, Tryz.func284.trans (congrArg some (by kernel_rfl))⟩
  t0 := Tryz.underlying0
  a0 := Tryz.isAgg0
  z0 := Tryz.sizeOf0
  v0 := Tryz.zeroValue0
  t3 := Tryz.underlying3
  a3 := Tryz.isAgg3
  z3 := Tryz.sizeOf3
  v3 := Tryz.zeroValue3
  t4 := Tryz.underlying4
  a4 := Tryz.isAgg4
  z4 := Tryz.sizeOf4
  v4 := Tryz.zeroValue4
  t5 := Tryz.underlying5
  a5 := Tryz.isAgg5
  z5 := Tryz.sizeOf5
  v5 := Tryz.zeroValue5
  t9 := Tryz.underlying9
  a9 := Tryz.isAgg9
  z9 := Tryz.sizeOf9
  v9 := Tryz.zeroValue9
  t22 := Tryz.underlying44
  a22 := Tryz.isAgg44
  z22 := Tryz.sizeOf44
  v22 := Tryz.zeroValue44
  t25 := Tryz.underlying56
  a25 := Tryz.isAgg56
  z25 := Tryz.sizeOf56
  v25 := Tryz.zeroValue56
  t39 := Tryz.underlying213
  a39 := Tryz.isAgg213
  z39 := Tryz.sizeOf213
  v39 := Tryz.zeroValue213
  t45 := Tryz.underlying243
  a45 := Tryz.isAgg243
  z45 := Tryz.sizeOf243
  v45 := Tryz.zeroValue243
  t46 := Tryz.underlying244
  a46 := Tryz.isAgg244
  z46 := Tryz.sizeOf244
  v46 := Tryz.zeroValue244
  t50 := Tryz.underlying183
  a50 := Tryz.isAgg183
  z50 := Tryz.sizeOf183
  v50 := Tryz.zeroValue183
  t53 := Tryz.underlying250
  a53 := Tryz.isAgg250
  z53 := Tryz.sizeOf250
  v53 := Tryz.zeroValue250
  t55 := Tryz.underlying252
  a55 := Tryz.isAgg252
  z55 := Tryz.sizeOf252
  v55 := Tryz.zeroValue252
  t66 := Tryz.underlying286
  a66 := Tryz.isAgg286
  z66 := Tryz.sizeOf286
  v66 := Tryz.zeroValue286
  t70 := Tryz.underlying290
  a70 := Tryz.isAgg290
  z70 := Tryz.sizeOf290
  v70 := Tryz.zeroValue290
  t76 := Tryz.underlying306
  a76 := Tryz.isAgg306
  z76 := Tryz.sizeOf306
  v76 := Tryz.zeroValue306
  t77 := Tryz.underlying307
  a77 := Tryz.isAgg307
  z77 := Tryz.sizeOf307
  v77 := Tryz.zeroValue307 }
end Go.Proofs

/- slices.Grow at spans. -/
namespace Go.Proofs.YtnphejkeflngcaaGreatDoor
open Go
theorem growSpan : GrowOk Tryz.prog 203 81 10 ty81.bytes :=
  GrowOk.of (ei := ty81) tOk Tryz.lgGrowSpan rfl rfl rfl rfl (by kernel_rfl) ⟨Tryz.f203, Tryz.func203, by kernel_rfl, rfl⟩
end Go.Proofs.YtnphejkeflngcaaGreatDoor

/- Plain words: right ranges are rows of stretches; what the program and the reference say of them. -/
set_option linter.unusedVariables false
set_option linter.unusedSimpArgs false
namespace Go.Proofs.YtnphejkeflngcaaGreatDoor
open Go
theorem spanE_0 {s : Sp} (h : spanE s = 0) : (s.hf = false → s.f = Ver.z) ∧ (s.ht = false → s.t = Ver.z) ∧ s.f.check = 0 ∧ s.t.check = 0 ∧ (s.hf = true → s.ht = true → orderB s.f s.t < 0) := by
  have hc := span_checks h
  have hform : ((!(s.f.eqb Ver.z) && !s.hf) || (!(s.t.eqb Ver.z) && !s.ht)) = false := by
    cases hx : ((!(s.f.eqb Ver.z) && !s.hf) || (!(s.t.eqb Ver.z) && !s.ht)) with
    | false => rfl
    | true => have := spE_form hx; omega
  have hf := form_f hform
  refine ⟨hf.1, hf.2, hc.1, hc.2, fun h1 h2 => ?_⟩
  have e2 : (s.hf && s.f.check != 0) = false := by simp [hc.1]
  have e3 : (s.ht && s.t.check != 0) = false := by simp [hc.2]
  cases h4 : ((s.hf && s.ht) && decide (orderB s.f s.t ≥ 0)) with
  | false => rw [h1, h2] at h4; simpa using h4
  | true => have := spE_o hform e2 e3 h4; omega
theorem spAt_zero {ss : List Sp} (h : rangeE ss = 0) {i : Nat} (hi : i < ss.length) : spAt ss i = 0 := by
  unfold rangeE at h
  split at h
  · exact absurd h (by decide)
  · exact firstNe_zero h _ (List.mem_map.2 ⟨i, List.mem_range.2 hi, rfl⟩)
theorem span_zero {ss : List Sp} (h : rangeE ss = 0) {i : Nat} (hi : i < ss.length) : spanE (ss.getD i Sp.z) = 0 := by
  have h1 := spAt_zero h hi
  cases hx : (spanE (ss.getD i Sp.z) != 0) with
  | false => simpa using hx
  | true => rw [spAt_own hx] at h1; exact h1
theorem span_in {ss : List Sp} (h : rangeE ss = 0) {s : Sp} (hs : s ∈ ss) : spanE s = 0 := by
  obtain ⟨i, hi, rfl⟩ := List.getElem_of_mem hs
  have := span_zero h hi
  rwa [List.getD_eq_getElem?_getD, List.getElem?_eq_getElem hi] at this
theorem behind_zero {ss : List Sp} (h : rangeE ss = 0) {i : Nat} (hi : i + 1 < ss.length) :
    (ss.getD i Sp.z).ht = true ∧ (ss.getD (i + 1) Sp.z).hf = true ∧ orderB (ss.getD i Sp.z).t (ss.getD (i + 1) Sp.z).f < 0 := by
  have h1 := spAt_zero h hi
  have h2 : (spanE (ss.getD (i + 1) Sp.z) != 0) = false := by simpa using span_zero h hi
  have h0 : (((i + 1 : Nat) : Int) == 0) = false := by simp; omega
  have hb : ((!(ss.getD i Sp.z).ht || !(ss.getD (i + 1) Sp.z).hf) || decide (orderB (ss.getD (i + 1) Sp.z).f (ss.getD i Sp.z).t ≤ 0)) = false := by
    cases hx : ((!(ss.getD i Sp.z).ht || !(ss.getD (i + 1) Sp.z).hf) || decide (orderB (ss.getD (i + 1) Sp.z).f (ss.getD i Sp.z).t ≤ 0)) with
    | false => rfl
    | true => have := spAt_bad h2 h0 hx; omega
  have n := pre_order.neg (ss.getD i Sp.z).t (ss.getD (i + 1) Sp.z).f
  simp only [Bool.or_eq_false_iff, Bool.not_eq_false', decide_eq_false_iff_not] at hb
  exact ⟨hb.1.1, hb.1.2, by omega⟩
def endsS (s : Sp) : List Ver := (if s.hf then [s.f] else []) ++ (if s.ht then [s.t] else [])
def endsOf (l : List Sp) : List Ver := (l.map endsS).flatten
theorem ends_in {l : List Sp} {s : Sp} (hs : s ∈ l) : (s.hf = true → s.f ∈ endsOf l) ∧ (s.ht = true → s.t ∈ endsOf l) := by
  unfold endsOf
  refine ⟨fun h => List.mem_flatten.2 ⟨_, List.mem_map.2 ⟨s, hs, rfl⟩, ?_⟩, fun h => List.mem_flatten.2 ⟨_, List.mem_map.2 ⟨s, hs, rfl⟩, ?_⟩⟩
  · unfold endsS; simp [h]
  · unfold endsS; simp [h]
theorem range_norm {pts : List Ver} {ss : List Sp} (h : rangeE ss = 0) (hp : ∀ s ∈ ss, (s.hf = true → s.f ∈ pts) ∧ (s.ht = true → s.t ∈ pts)) : Norm pts ss := by
  have hsp : ∀ s ∈ ss, SpIn pts s := fun s hs => by
    have z := spanE_0 (span_in h hs)
    have p := hp s hs
    refine ⟨p.1, p.2, z.1, z.2.1, ?_⟩
    have k1 := key_pos pts s.f
    have k2 := key_pos pts s.t
    cases h1 : s.hf with
    | false => rw [lo_false h1]; have := hi_ge (pts := pts) s; omega
    | true =>
      cases h2 : s.ht with
      | false => rw [hi_false h2, lo_true h1]; omega
      | true => rw [hi_true h2, lo_true h1]; exact (ord_lt (p.1 h1) (p.2 h2)).1 (z.2.2.2.2 h1 h2)
  have at_ : ∀ {i : Nat} (hi : i < ss.length), ss.getD i Sp.z = ss[i] := fun {i} hi => by rw [List.getD_eq_getElem?_getD, List.getElem?_eq_getElem hi]; rfl
  refine ⟨hsp, List.pairwise_iff_getElem.2 ?_⟩
  have next : ∀ (i : Nat) (hi : i + 1 < ss.length), hiK pts (ss[i]'(by omega)) < loK pts ss[i + 1] := fun i hi => by
    have b := behind_zero h hi
    rw [at_ (by omega), at_ hi] at b
    have p1 := hp _ (List.getElem_mem (show i < ss.length by omega))
    have p2 := hp _ (List.getElem_mem hi)
    rw [hi_true b.1, lo_true b.2.1]
    exact (ord_lt (p1.2 b.1) (p2.1 b.2.1)).1 b.2.2
  intro i j hi hj hij
  induction j with
  | zero => omega
  | succ j ih =>
    by_cases e : i = j
    · subst e; exact next i hj
    · have a := ih (by omega) (by omega)
      have b := next j hj
      have c := (hsp _ (List.getElem_mem (show j < ss.length by omega))).lt
      omega
/-- A version's place in a span. -/
theorem inside_eq {pts : List Ver} {s : Sp} {e : Ver} (hs : SpIn pts s) (hf : s.f.check = 0) (ht : s.t.check = 0) (he : e ∈ pts) (hc : e.check = 0) :
    insideR s e = (decide (loK pts s ≤ keyB pts e) && decide (keyB pts e < hiK pts s)) := by
  unfold insideR
  rw [compare_eq hc hf, compare_eq hc ht]
  have k := key_pos pts e
  congr 1
  · cases h1 : s.hf with
    | false => rw [lo_false h1]; simp; omega
    | true =>
      have o := ord_lt he (hs.f1 h1)
      rw [lo_true h1, Bool.true_and, Bool.eq_iff_iff]
      simp only [Bool.not_eq_true', decide_eq_false_iff_not, decide_eq_true_eq]
      omega
  · cases h1 : s.ht with
    | false => rw [hi_false h1]; simp; omega
    | true =>
      have o := ord_lt he (hs.t1 h1)
      rw [hi_true h1, Bool.true_and, Bool.eq_iff_iff]
      simp only [Bool.not_eq_true', decide_eq_false_iff_not, decide_eq_true_eq, ge_iff_le, Int.not_le]
      exact o
theorem within_inside {s : Sp} {v : Ver} (hf : s.f.check = 0) (ht : s.t.check = 0) (hv : v.check = 0) : withinB s v = insideR s v := by
  unfold withinB insideR
  rw [compare_eq hv hf, compare_eq hv ht]
  congr 1
  · cases s.hf
    · rfl
    · rw [Bool.eq_iff_iff]; simp
  · cases s.ht
    · rfl
    · rw [Bool.eq_iff_iff]; simp
theorem has_eq {ss : List Sp} {v : Ver} (h : rangeE ss = 0) (hv : v.check = 0) : hasB ss v = hasR ss v := by
  unfold hasB hasR
  have hc : ∀ s ∈ ss, s.f.check = 0 ∧ s.t.check = 0 := fun s hs => ⟨(spanE_0 (span_in h hs)).2.2.1, (spanE_0 (span_in h hs)).2.2.2.1⟩
  have key : ∀ s ∈ ss, hasAt ss.length v s = hasAtR (allR ss) v s := fun s hs => by
    unfold hasAt hasAtR
    rw [within_inside (hc s hs).1 (hc s hs).2 hv]
    have e : (((ss.length : Int) == 1 && !s.hf) && !s.ht) = allR ss := by
      unfold allR
      match ss, hs with
      | [x], hs => rw [List.mem_singleton.1 hs]; rfl
      | x :: y :: l, hs =>
        have : (((x :: y :: l).length : Int) == 1) = false := by simp; omega
        rw [this]; rfl
    rw [e]
  rw [Bool.eq_iff_iff, List.any_eq_true, List.any_eq_true]
  exact ⟨fun ⟨s, h1, h2⟩ => ⟨s, h1, by rw [← key s h1]; exact h2⟩, fun ⟨s, h1, h2⟩ => ⟨s, h1, by rw [key s h1]; exact h2⟩⟩
/-- One range within another: no stretch between ends is in the one alone. -/
theorem within_iff {pts E : List Ver} {aa bb : List Sp} (hE : ∀ v ∈ pts, v ∈ E) (ha : Norm pts aa) (hb : Norm pts bb) :
    (aa.all fun s => bb.any (insB s)) = !((memK pts aa (-1) && !memK pts bb (-1)) || E.any fun e => memK pts aa (keyB pts e) && !memK pts bb (keyB pts e)) := by
  have hins : ∀ s ∈ aa, ∀ u ∈ bb, insB s u = (decide (loK pts u ≤ loK pts s) && decide (hiK pts s ≤ hiK pts u)) := fun s hs u hu => by
    have s1 := ha.sp s hs
    have u1 := hb.sp u hu
    have e1 := meet_lo s1 u1
    have e2 := meet_hi s1 u1
    unfold insB
    rw [meet_ok s1 u1, Bool.eq_iff_iff]
    simp only [Bool.and_eq_true, decide_eq_true_eq, Sp.eqb_iff]
    constructor
    · rintro ⟨h1, h2⟩
      rw [h2] at e1 e2
      omega
    · rintro ⟨h1, h2⟩
      have := s1.lt
      refine ⟨by omega, sp_same (meet_in s1 u1 (by rw [meet_ok s1 u1]; simp; omega)) s1 (by omega) (by omega)⟩
  -- what is at a point
  have hmem : (aa.all fun s => bb.any (insB s)) = true ↔ ∀ s ∈ aa, ∃ u ∈ bb, loK pts u ≤ loK pts s ∧ hiK pts s ≤ hiK pts u := by
    rw [List.all_eq_true]
    constructor
    · intro h s hs
      obtain ⟨u, hu, h2⟩ := List.any_eq_true.1 (h s hs)
      rw [hins s hs u hu] at h2
      exact ⟨u, hu, by simpa using h2⟩
    · intro h s hs
      obtain ⟨u, hu, h2⟩ := h s hs
      exact List.any_eq_true.2 ⟨u, hu, by rw [hins s hs u hu]; simpa using h2⟩
  have sub : (aa.all fun s => bb.any (insB s)) = true → ∀ p, memK pts aa p = true → memK pts bb p = true := fun h p hp => by
    obtain ⟨s, hs, h1, h2⟩ := memK_iff.1 hp
    obtain ⟨u, hu, h3, h4⟩ := hmem.1 h s hs
    exact memK_iff.2 ⟨u, hu, by omega, by omega⟩
  have back : (∀ p, (p = -1 ∨ ∃ e ∈ E, p = keyB pts e) → memK pts aa p = true → memK pts bb p = true) → (aa.all fun s => bb.any (insB s)) = true := fun h => by
    refine hmem.2 fun s hs => ?_
    have s1 := ha.sp s hs
    have pt : loK pts s = -1 ∨ ∃ e ∈ E, loK pts s = keyB pts e := by
      cases h1 : s.hf with
      | false => exact .inl (lo_false h1)
      | true => exact .inr ⟨s.f, hE _ (s1.f1 h1), lo_true h1⟩
    obtain ⟨u, hu, h3, h4⟩ := memK_iff.1 (h _ pt (memK_iff.2 ⟨s, hs, Int.le_refl _, s1.lt⟩))
    have u1 := hb.sp u hu
    refine ⟨u, hu, h3, ?_⟩
    rcases Int.lt_or_le (hiK pts u) (hiK pts s) with hlt | hle
    · exfalso
      have hu2 : u.ht = true := by
        cases h2 : u.ht with
        | true => rfl
        | false => have := hi_false (pts := pts) h2; have := hi_le (pts := pts) s; omega
      have he := hi_true (pts := pts) hu2
      obtain ⟨u', hu', h5, h6⟩ := memK_iff.1 (h (keyB pts u.t) (.inr ⟨_, hE _ (u1.t1 hu2), rfl⟩) (memK_iff.2 ⟨s, hs, by omega, by omega⟩))
      obtain ⟨i, hi, rfl⟩ := List.getElem_of_mem hu
      obtain ⟨j, hj, rfl⟩ := List.getElem_of_mem hu'
      have row := List.pairwise_iff_getElem.1 hb.row
      have l1 := u1.lt
      have l2 := (hb.sp _ (List.getElem_mem hj)).lt
      rcases Nat.lt_trichotomy i j with hij | hij | hij
      · have := row i j hi hj hij; omega
      · subst hij; omega
      · have := row j i hj hi hij; omega
    · exact hle
  rw [Bool.eq_iff_iff]
  constructor
  · intro h
    have hs := sub h
    rw [Bool.not_eq_true', Bool.or_eq_false_iff]
    refine ⟨?_, ?_⟩
    · cases h1 : memK pts aa (-1)
      · rfl
      · rw [hs _ h1]; rfl
    · rw [List.any_eq_false]
      intro e he
      cases h1 : memK pts aa (keyB pts e)
      · simp
      · rw [hs _ h1]; simp
  · intro h
    rw [Bool.not_eq_true', Bool.or_eq_false_iff, List.any_eq_false] at h
    refine back fun p hp h1 => ?_
    rcases hp with rfl | ⟨e, he, rfl⟩
    · have := h.1; rw [h1] at this; simpa using this
    · have := h.2 e he; rw [h1] at this; simpa using this
end Go.Proofs.YtnphejkeflngcaaGreatDoor

set_option linter.unusedVariables false
set_option linter.unusedSimpArgs false
set_option maxRecDepth 100000
set_option maxHeartbeats 4000000
namespace Go.Proofs.YtnphejkeflngcaaGreatDoor
open Go
open Go.RowKit
attribute [local irreducible] rangeE orderB compareR Lib.split
def sumL (l : List (List Sp)) : Nat := (l.map List.length).sum
theorem sumL_s {l : List (List Sp)} {i : Nat} (h : i < l.length) : sumL (l.take (i + 1)) = sumL (l.take i) + (l.getD i []).length := by
  unfold sumL
  rw [take_getD (d := []) h]; simp
theorem sumL_le (l : List (List Sp)) (i : Nat) : sumL (l.take i) ≤ sumL l := by
  have h : sumL l = sumL (l.take i) + sumL (l.drop i) := by
    unfold sumL
    rw [← List.sum_append, ← List.map_append, List.take_append_drop]
  omega
theorem flat_len : ∀ (l : List (List Sp)), l.flatten.length = sumL l
  | [] => rfl
  | x :: l => by simp [sumL]
theorem flat_snoc {l : List (List Sp)} {i : Nat} (h : i < l.length) : ((l.take i).flatten).map spD ++ (l.getD i []).map spD = ((l.take (i + 1)).flatten).map spD := by
  rw [take_getD (d := []) h]; simp
theorem add_small {a b : Nat} (h : a + b ≤ 1000000000) : IntKind.i64.wrap ((a : Int) + (b : Int)) = ((a + b : Nat) : Int) := by
  rw [IntKind.wrap_i64]; omega
theorem pc_Concat_Span (l : List (List Sp)) (hn : l.length ≤ 1000) (hl : sumL l ≤ 1000000) :
  PureCall Tryz.prog J 149 [.one (.d (.vec 1 (l.map fun ss => [D.vec 10 (ss.map spD)])))] (.one (.d (.vec 10 (l.flatten.map spD)))) := by
 refine PureCall.of_body tOk (fn := Tryz.f149) Tryz.func149 (by kernel_rfl) rfl (Nat.le_of_ble_eq_true rfl) (fun E => ?_)
 refine W.seq ?_
 refine W.region ?_
 refine S.pure tOk zOk rfl rfl rfl ?_
 refine thenK_n ?_
 refine W.seq ?_
 refine W.region ?_
 refine S.pure tOk zOk rfl rfl rfl ?_
 refine thenK_n ?_
 refine W.seq ?_
 refine W.seq ?_
 refine W.region ?_
 refine S.pure tOk zOk rfl rfl rfl ?_
 refine S.pure tOk zOk rfl rfl rfl ?_
 refine S.pure tOk zOk rfl rfl rfl ?_
 refine thenK_n ?_
 refine W.block ?_
 refine W.loop (fun k st => ∃ i : Nat, i ≤ l.length ∧ k = l.length - i ∧ ∃ t b2 r2 m2, st = ⟨t, [] ++ b2, [] ++ r2, [] ++ m2⟩ ∧ holdsL t [(0, .one (.d (.vec 1 (l.map fun ss => [D.vec 10 (ss.map spD)])))), (2, .one (.d .nilsl)), (3, .one (.d (.int .i64 (sumL (l.take i) : Int)))), (9, .one (.d (.vec 1 (l.map fun ss => [D.vec 10 (ss.map spD)])))), (10, .one (.d (.int .i64 ((l.map fun ss => ([D.vec 10 (ss.map spD)] : List D)).length : Int)))), (11, .one (.d (.int .i64 (i : Int))))]) (l.length) ⟨0, Nat.zero_le _, rfl, _, _, _, _, rfl, rfl, rfl, rfl, rfl, rfl, rfl, trivial⟩ ?_
 rintro k0 _ ⟨i, f0_0, rfl, t0, bb0, rr0, mm0, rfl, hh0⟩
 refine W.keepR _ _ _ _ _ _ _ hh0 rfl ?_
 refine W.seq ?_
 refine W.region ?_
 refine S.pure tOk zOk rfl rfl rfl ?_
 refine thenK_n ?_
 refine W.seq ?_
 refine W.cond rfl (fun c1 => ?_) (fun c1 => ?_)
 ·skip
  have hi := row_lt c1
  have hsum := sumL_s hi
  have hle := sumL_le l (i + 1)
  have hadd : IntKind.i64.wrap ((sumL (l.take i) : Int) + (((l.getD i []).map spD).length : Int)) = ((sumL (l.take i) + (l.getD i []).length : Nat) : Int) := by rw [List.length_map]; exact add_small (by omega)
  refine W.skip ?_
  refine thenK_n ?_
  refine W.seq ?_
  refine W.block ?_
  refine W.seq ?_
  refine W.region ?_
  refine S.pureE tOk zOk rfl (row_ok hi) (row_at [] hi) rfl ?_
  refine S.pure tOk zOk rfl rfl rfl ?_
  refine S.pure tOk zOk rfl rfl rfl ?_
  refine thenK_n ?_
  refine W.seq ?_
  refine W.region ?_
  refine S.pure tOk zOk rfl rfl rfl ?_
  refine S.pure tOk zOk rfl rfl rfl ?_
  refine S.pure tOk zOk rfl rfl rfl ?_
  refine S.pure tOk zOk rfl rfl rfl ?_
  refine S.pure tOk zOk rfl rfl rfl ?_
  refine thenK_n ?_
  refine W.seq ?_
  refine W.region ?_
  refine S.pure tOk zOk rfl rfl rfl ?_
  refine S.pure tOk zOk rfl rfl rfl ?_
  refine thenK_n ?_
  refine W.cond rfl (fun c2 => ?_) (fun c2 => ?_)
  · exact absurd c2 (by rw [hadd]; simp; omega)
  ·skip
   refine W.skip ?_
   refine blockK_n ?_
   refine thenK_n ?_
   refine W.region ?_
   refine S.pure tOk zOk rfl rfl rfl ?_
   refine S.pure tOk zOk rfl rfl rfl ?_
   refine loop_n (l.length - (i + 1)) (by omega) ⟨i + 1, hi, rfl, _, _, _, _, rfl, rfl, rfl, by rw [sumL_s hi]; exact congrArg (fun x => V.one (C.d (D.int .i64 x))) hadd, rfl, rfl, inc_i64 (by omega), trivial⟩
 ·skip
  have hi := row_ge c1
  rw [show l.take i = l from List.take_of_length_le hi]
  refine W.exit ?_
  refine thenK_e ?_
  refine thenK_e ?_
  refine blockK_x ?_
  refine thenK_n ?_
  refine W.seq ?_
  refine W.newRow 2 10 81 rfl ?_
  refine W.region ?_
  refine S.pure tOk zOk rfl rfl rfl ?_
  refine S.growRow (ri := 0) rfl rfl rfl growSpan rfl (by have h : ty81.bytes ≤ 1000 := Nat.le_of_ble_eq_true rfl; exact Nat.le_trans (Nat.mul_le_mul hl h) (by omega)) (by omega) ?_
  refine S.pure tOk zOk rfl rfl rfl ?_
  refine thenK_n ?_
  refine W.seq ?_
  refine W.seq ?_
  refine W.region ?_
  refine S.pure tOk zOk rfl rfl rfl ?_
  refine S.pure tOk zOk rfl rfl rfl ?_
  refine S.pure tOk zOk rfl rfl rfl ?_
  refine thenK_n ?_
  refine W.block ?_
  refine W.loop (fun k st => ∃ i : Nat, ∃ v : Nat, ∃ al : Bool, i ≤ l.length ∧ k = l.length - i ∧ ∃ t b2 r2 m2, st = ⟨t, [] ++ b2, [some ⟨al, v, 10, 81, ((l.take i).flatten.map spD)⟩] ++ r2, [] ++ m2⟩ ∧ holdsL t [(6, .one (.row 0 v 0 ((l.take i).flatten.map spD).length)), (25, .one (.d (.vec 1 (l.map fun ss => [D.vec 10 (ss.map spD)])))), (26, .one (.d (.int .i64 ((l.map fun ss => ([D.vec 10 (ss.map spD)] : List D)).length : Int)))), (27, .one (.d (.int .i64 (i : Int))))]) (l.length) ⟨0, _, _, Nat.zero_le _, rfl, _, _, _, _, rfl, rfl, rfl, rfl, rfl, trivial⟩ ?_
  rintro k2 _ ⟨i, v, al, f2_0, rfl, t2, bb2, rr2, mm2, rfl, hh2⟩
  refine W.keepR _ _ _ _ _ _ _ hh2 rfl ?_
  refine W.seq ?_
  refine W.region ?_
  refine S.pure tOk zOk rfl rfl rfl ?_
  refine thenK_n ?_
  refine W.seq ?_
  refine W.cond rfl (fun c3 => ?_) (fun c3 => ?_)
  ·skip
   have hi := row_lt c3
   have hsum := sumL_s hi
   have hle := sumL_le l (i + 1)
   have hfl := flat_len (l.take i)
   refine W.skip ?_
   refine thenK_n ?_
   refine W.seq ?_
   refine W.block ?_
   refine W.seq ?_
   refine W.region ?_
   refine S.pureE tOk zOk rfl (row_ok hi) (row_at [] hi) rfl ?_
   refine S.pure tOk zOk rfl rfl rfl ?_
   refine S.pure tOk zOk rfl rfl rfl ?_
   refine thenK_n ?_
   refine W.region ?_
   refine S.pure tOk zOk rfl rfl rfl ?_
   refine S.pure tOk zOk rfl rfl rfl ?_
   refine S.append tOk rfl rfl rfl rfl rfl rfl rfl rfl rfl rfl rfl rfl (by show _ + _ ≤ _; rw [List.length_map, List.length_map]; omega) rfl (flat_snoc hi) rfl ?_
   refine S.pure tOk zOk rfl rfl rfl ?_
   refine blockK_n ?_
   refine thenK_n ?_
   refine W.region ?_
   refine S.pure tOk zOk rfl rfl rfl ?_
   refine S.pure tOk zOk rfl rfl rfl ?_
   refine loop_n (l.length - (i + 1)) (by omega) ⟨i + 1, _, _, hi, rfl, _, _, _, _, rfl, rfl, rfl, rfl, inc_i64 (by omega), trivial⟩
  ·skip
   have hi := row_ge c3
   rw [show l.take i = l from List.take_of_length_le hi]
   refine W.exit ?_
   refine thenK_e ?_
   refine thenK_e ?_
   refine blockK_x ?_
   refine thenK_n ?_
   refine W.seq ?_
   refine W.freeze (q := ⟨_, _, _, _, _⟩) [6] rfl (by intro k hk; simp at hk; subst hk; rfl) ?_
   refine W.region ?_
   refine S.pure tOk zOk rfl rfl rfl ?_
   refine S.pure tOk zOk rfl rfl rfl ?_
   refine thenK_n ?_
   refine W.ret ?_
   exact ⟨_, rfl, rfl, LeV.refl _⟩
end Go.Proofs.YtnphejkeflngcaaGreatDoor

/- An own row written anew in place; sorting an own row. -/
set_option linter.unusedVariables false
set_option linter.unusedSimpArgs false
namespace Go.Proofs.YtnphejkeflngcaaGreatDoor
open Go Go.RowKit
section
variable {J : Inv} {k0 : Lens} {E : Env J k0} {P : Program} {n : Nat} {t : Nat → V} {b : List (List C)} {r : List (Option RowO)} {m : List (List (DV × DV))} {ops : Array Oper} {l : List Oper}
  {K : St → Prop} {i : Nat} {ty : TypeId} {pos : String} {after : Array Edge}
theorem Rel.setXs {g : Gh} {a : Act} {w w1 : World} (rel : Rel E n g ⟨t, b, r, m⟩ a w) {ri : Nat} {o : RowO} {xs1 : List (List D)} (ho : r[ri]? = some (some o)) (hal : o.al = true) (hlen : xs1.length = o.xs.length) (hrows : ∀ x ∈ xs1, x.length = o.sz)
    {vs vs1 : Array Value} {tt : TypeId} (hb : w.heap[g.at_ (.r ri)]? = some (.cells vs tt (0, 0))) (hos : w1.os = w.os) (htape : w1.tape = w.tape) (hout : w1.output = w.output) (hsz : w.heap.size ≤ w1.heap.size)
    (hold' : ∀ q, q < w.heap.size → q ≠ g.at_ (.r ri) → w1.heap[q]? = w.heap[q]?) (hnew : w1.heap[g.at_ (.r ri)]? = some (.cells vs1 tt (0, 0))) (hvs : vs1.size = vs.size)
    (hx : ∀ (i j : Nat) (x : List D) (d : D) (v : Value), xs1[i]? = some x → x[j]? = some d → vs1[g.off ri + i * o.sz + j]? = some v → RD g.im w1 d v) :
    Rel E n g ⟨t, b, r.set ri (some ⟨o.al, o.ver, o.sz, o.ty, xs1⟩), m⟩ a w1 := by
  obtain ⟨o1, ho1⟩ : ∃ o1 : RowO, o1 = ⟨o.al, o.ver, o.sz, o.ty, xs1⟩ := ⟨_, rfl⟩
  obtain ⟨s1, hs1⟩ : ∃ s1 : St, s1 = ⟨t, b, r.set ri (some o1), m⟩ := ⟨_, rfl⟩
  rw [← ho1, ← hs1]
  have hr : ri < r.length := (List.getElem?_eq_some_iff.1 ho).1
  have hlive : (⟨t, b, r, m⟩ : St).live (.r ri) := ⟨o, ho, hal⟩
  have hlt := rel.heap.lt _ hlive
  have hform : o1.form = o.form := by rw [ho1]; simp [RowO.form, hlen]
  have hsh : s1.sh = (⟨t, b, r, m⟩ : St).sh := by
    rw [hs1]
    simp only [St.sh, Sh.mk.injEq, true_and, and_true]
    apply List.ext_getElem? 
    intro q
    simp only [List.getElem?_map, List.getElem?_set]
    by_cases hq : ri = q
    · subst hq; rw [if_pos rfl, if_pos hr, ho]; simp [hform]
    · rw [if_neg hq]
  have hlv : s1.live = (⟨t, b, r, m⟩ : St).live := by
    rw [hs1]
    funext x
    cases x with
    | b l => rfl
    | m l => rfl
    | r l =>
      simp only [St.live, List.getElem?_set]
      by_cases hq : ri = l
      · subst hq
        simp only [if_true, hr]
        apply propext
        constructor
        · rintro ⟨o', h1, h2⟩; exact ⟨o, ho, hal⟩
        · rintro ⟨o', h1, h2⟩; exact ⟨o1, rfl, by rw [ho1]; exact hal⟩
      · simp [hq]
  have hold : ∀ q, q < w.heap.size → q ≠ g.at_ (.r ri) → w1.heap[q]? = w.heap[q]? := hold'
  have e : Ext g (⟨t, b, r, m⟩ : St).sh w g (⟨t, b, r, m⟩ : St).sh w1 := .of (fun _ h => h) (fun q hq => hold q (rel.imlt q hq) (fun he => rel.heap.new _ hlive (he ▸ hq))) rfl rfl rfl
  have hother : ∀ x, (⟨t, b, r, m⟩ : St).live x → x ≠ .r ri → w1.heap[g.at_ x]? = w.heap[g.at_ x]? := fun x hx' hne => hold _ (rel.heap.lt x hx') (fun he => hne (rel.heap.inj _ _ hx' hlive he))
  have hrow := rel.heap.row ri o ho
  rw [if_pos hal] at hrow
  obtain ⟨vs0, t0, q1, ⟨q2, q3, q4, q5⟩, q6, q7, q8, q9⟩ := hrow
  have hvs0 : vs0 = vs ∧ t0 = tt := by rw [hb] at q1; injection q1 with q1; injection q1 with q1 q1'; exact ⟨q1.symm, q1'.symm⟩
  obtain ⟨rfl, rfl⟩ := hvs0
  have hheap : Heap g s1 w1 := by
    refine ⟨fun x hx' => Nat.lt_of_lt_of_le (rel.heap.lt x (hlv ▸ hx')) hsz, fun x hx' => rel.heap.new x (hlv ▸ hx'), fun x y hx' hy => rel.heap.inj x y (hlv ▸ hx') (hlv ▸ hy), fun l' cs' hl' => ?_, fun l' o' ho' => ?_, fun l' es hes => ?_⟩
    · have hl2 : b[l']? = some cs' := by rw [hs1] at hl'; exact hl'
      obtain ⟨vs', t', h1, h2, h3⟩ := rel.heap.box l' cs' hl2
      have hlv' : (⟨t, b, r, m⟩ : St).live (.b l') := (List.getElem?_eq_some_iff.1 hl2).1
      rw [hsh]
      exact ⟨vs', t', by rw [hother _ hlv' (by simp)]; exact h1, h2, fun j c v hc hv => (h3 j c v hc hv).mono e⟩
    · by_cases hq : ri = l'
      · subst hq
        have : o' = o1 := by rw [hs1] at ho'; simpa [List.getElem?_set, hr] using ho'.symm
        subst this
        have hal1 : o'.al = true := by rw [ho1]; exact hal
        rw [if_pos hal1]
        refine ⟨vs1, t0, hnew, ⟨by rw [hvs, q2, ho1], by rw [ho1]; exact q3, q4, q5⟩, by rw [ho1]; show xs1.length ≤ _; omega, fun x hx' => ?_, fun _ _ => trivial, fun i j x d v p1 p2 p3 => ?_⟩
        · rw [ho1] at hx' ⊢; exact hrows x hx'
        · rw [ho1] at p1 p3; exact hx i j x d v p1 p2 p3
      · have ho2 : r[l']? = some (some o') := by rw [hs1] at ho'; simpa [List.getElem?_set, hq] using ho'
        have := rel.heap.row l' o' ho2
        by_cases hal' : o'.al = true
        · rw [if_pos hal'] at this ⊢
          obtain ⟨vs', t', h1, h2, h3, h4, h5, h6⟩ := this
          have hne : Loc.r l' ≠ .r ri := fun he => hq (by injection he with he; exact he.symm)
          exact ⟨vs', t', by rw [hother _ (show (⟨t, b, r, m⟩ : St).live (.r l') from ⟨o', ho2, hal'⟩) hne]; exact h1, h2, h3, h4, h5, fun i j x d v p q u => (h6 i j x d v p q u).mono e.im e.same⟩
        · rw [if_neg hal'] at this ⊢; exact this
    · have hes' : m[l']? = some es := by rw [hs1] at hes; exact hes
      obtain ⟨arr, clock, h1, h2, h3⟩ := rel.heap.map l' es hes'
      have hlv' : (⟨t, b, r, m⟩ : St).live (.m l') := (List.getElem?_eq_some_iff.1 hes').1
      rw [hsh]
      exact ⟨arr, clock, by rw [hother _ hlv' (by simp)]; exact h1, h2, fun i x y hx hy => ⟨(h3 i x y hx hy).1.mono e, (h3 i x y hx hy).2.mono e⟩⟩
  have hbelow : BelowX E.lent E.w0 w1 := by
    refine rel.below.trans (l2 := fun q => q = g.at_ (.r ri)) ⟨hos, htape, hout, hsz, fun q hq hn => hold q hq hn⟩ (fun q hq hlt' => ?_)
    rcases rel.own _ hlive with h | h
    · rw [hq]; exact h
    · omega
  refine ⟨hbelow, by rw [hsh]; exact rel.ext.trans e, fun q hq => Nat.lt_of_lt_of_le (rel.imlt q hq) hsz, rel.imold, fun x hx' => rel.own x (hlv ▸ hx'), hheap, rel.size, rel.defers, fun q hq => ?_⟩
  have := (rel.tmps q hq).mono e
  rw [hsh]
  rw [hs1]; exact this
/-- Plain data as the machine's value. -/
def valD : D → Option Value
  | .int k n => some (.int k n)
  | .bool x => some (.bool x)
  | .str s => some (.string ⟨s.toArray⟩)
  | _ => none
theorem valD_of {im : Nat → Prop} {w : World} {d : D} {v u : Value} (h : valD d = some v) (hu : RD im w d u) : u = v := by
  cases hu <;> simp_all [valD]
theorem valD_rd {im : Nat → Prop} {w : World} {d : D} {v : Value} (h : valD d = some v) : RD im w d v := by
  cases d <;> simp_all [valD] <;> subst h <;> constructor
/-- What a sorting function does with a row of its elements. -/
structure SortOk (P : Program) (J : Inv) (f g : FuncId) (k : Nat) {α : Type} (enc : α → List Value) (srt : List α → List α) : Prop where
  enter : ∃ fn, P.funcs[f]? = some fn ∧ (fn.name == "runtime.NumGoroutine") = false ∧ fn.body.isNone = false
  len : ∀ xs, (srt xs).length = xs.length
  run : ∀ (xs : List α) (blk cap : Nat) (vs : Array Value) (tt : TypeId) (w : World), J.I w → J.N ≤ blk → w.heap[blk]? = some (.cells vs tt (0, 0)) → (∀ (i j : Nat) (x : α) (v : Value), xs[i]? = some x → (enc x)[j]? = some v → vs[i * k + j]? = some v) →
    xs.length * k ≤ vs.size → xs.length < 4611686018427387904 → xs ≠ [] →
    Calls P f #[.slice (some ⟨blk, 0, none⟩) xs.length cap, .func (.func g) #[] #[]] w fun e w' => e = .returned (.tuple #[]) ∧ w'.os = w.os ∧ w'.tape = w.tape ∧ w'.output = w.output ∧ w.heap.size ≤ w'.heap.size ∧
      (∀ q, q < w.heap.size → q ≠ blk → w'.heap[q]? = w.heap[q]?) ∧ ∃ vs', w'.heap[blk]? = some (.cells vs' tt (0, 0)) ∧ vs'.size = vs.size ∧
      (∀ (i j : Nat) (x : α) (v : Value), (srt xs)[i]? = some x → (enc x)[j]? = some v → vs'[i * k + j]? = some v)
  none : ∀ (p : Option Addr) (cap : Nat) (w : World), Calls P f #[.slice p 0 cap, .func (.func g) #[] #[]] w fun e w' => e = .returned (.tuple #[]) ∧ w' = w
theorem S.sortRow {dst : Option Nat} {fo : Operand} {args : Array Operand} {ats : Array TypeId} {u : V} {f g : FuncId} {e : TypeId} {ri ver k : Nat} {al : Bool} {α : Type} {enc : α → List Value} {fD : α → List D} {srt : List α → List α} (ys : List α)
    (hu : opd n ⟨t, b, r, m⟩ fo = (true, u)) (hc : calleeV u = some (f, [])) (ha : allOpdL n ⟨t, b, r, m⟩ args.toList = (true, [.one (.row ri ver 0 (ys.map fD).length), .one (.d (.fn g))])) (so : SortOk P J f g k enc srt)
    (hr : r[ri]? = some (some ⟨al, ver, k, e, ys.map fD⟩)) (hk : ∀ x, (fD x).length = k) (hv : ∀ x, (fD x).map valD = (enc x).map some) (h63 : ys.length < 4611686018427387904) {r' : List (Option RowO)} (hr' : r.set ri (some ⟨al, ver, k, e, (srt ys).map fD⟩) = r')
    (h : WL E P n ops l K ⟨updO t dst .junk, b, r', m⟩) : WL E P n ops (⟨dst, .call ⟨.value fo, args, ats⟩, ty, pos, after, none⟩ :: l) K ⟨t, b, r, m⟩ := by
  subst hr'
  intro gh a w rel next Qx hn
  obtain ⟨o, ho⟩ : ∃ o : Oper, o = ⟨dst, .call ⟨.value fo, args, ats⟩, ty, pos, after, none⟩ := ⟨_, rfl⟩
  rw [← ho]
  have hg : o.guard = none := by rw [ho]
  have hop : o.op = .call { callee := .value fo, args, argTypes := ats } := by rw [ho]
  have hdst : o.dst = dst := by rw [ho]
  have hw : Region.wanted o (yielded ops a.tmps) = true := by simp [Region.wanted, hg]
  rw [if_pos hw]
  obtain ⟨fn, hf, h1, h2⟩ := so.enter
  obtain ⟨vs, hl, hx, hrun⟩ := call_run rel hop hu hc hf h1 h2
  obtain ⟨hal, hav⟩ := allOpdL_ok rel _ _ _ ha rfl
  have hvs : vs = [] := List.length_eq_zero_iff.1 (by simpa using hl)
  subst hvs
  have hlt : ri < r.length := (List.getElem?_eq_some_iff.1 hr).1
  unfold Oper.wp
  rw [hrun]
  have fin : ∀ (g' : Gh) (w' : World), Rel E n g' ⟨t, b, r.set ri (some ⟨al, ver, k, e, (srt ys).map fD⟩), m⟩ a w' → next (a.put o.dst (.tuple #[])) w' := fun g' w' rel' => by
    rw [hdst]
    have hp := rel'.put_same dst (u := .junk) (v := .tuple #[]) (.junk _)
    cases dst <;> exact hn _ _ _ w' h hp
  match hq : args.toList.map a.eval with
  | [x, y] =>
    rw [hq] at hav
    have hx1 := hav 0 _ x rfl rfl
    have hy1 := hav 1 _ y rfl rfl
    have ey : y = .func (.func g) #[] #[] := by cases hy1 with | one _ _ hx1 => cases hx1 with | d _ _ hx1 => cases hx1; rfl
    subst ey
    cases hx1 with | one _ _ hx1 => cases hx1 with | row _ _ _ _ _ p1 p2 p3 =>
    obtain ⟨_, p3⟩ := p3 _ _ _ _ (rows_get (s := ⟨t, b, r, m⟩) hr)
    obtain ⟨_, p3⟩ := p3 rfl
    have hrow := rel.heap.row ri _ hr
    show Calls P f _ w _
    cases al with
    | false =>
      rw [if_neg (by simp)] at hrow p3
      have p4 : x = .slice none 0 0 := p3
      clear p3
      subst p4
      have hys : ys = [] := by simpa using hrow
      subst hys
      refine (so.none none 0 w).mono ?_
      rintro _ w' ⟨rfl, rfl⟩
      have hs0 : srt [] = [] := List.length_eq_zero_iff.1 (so.len [])
      refine fin gh _ ?_
      rw [hs0]
      have : r.set ri (some ⟨false, ver, k, e, ([] : List α).map fD⟩) = r := by
        apply List.ext_getElem?
        intro q
        rw [List.getElem?_set]
        split
        · rename_i hq; subst hq; first | rw [hr] | rw [if_pos hlt, hr]
        · rfl
      rw [this]; exact rel
    | true =>
      rw [if_pos rfl] at hrow p3
      obtain ⟨vs, tt, q1, ⟨q2, q3, q4, q5⟩, q6, q7, _, q8⟩ := hrow
      simp only at q2 q3 q4 q5 q6 q7 q8
      rw [q4] at p3 q8 q2
      simp only [Nat.zero_add, Nat.zero_mul, Nat.sub_zero, List.length_map] at p3 q2 q6 q8
      subst p3
      by_cases hys : ys = []
      · subst hys
        refine (so.none _ _ w).mono ?_
        rintro _ w' ⟨rfl, rfl⟩
        have hs0 : srt [] = [] := List.length_eq_zero_iff.1 (so.len [])
        refine fin gh _ ?_
        rw [hs0]
        have : r.set ri (some ⟨true, ver, k, e, ([] : List α).map fD⟩) = r := by
          apply List.ext_getElem?
          intro q
          rw [List.getElem?_set]
          split
          · rename_i hq; subst hq; first | rw [hr] | rw [if_pos hlt, hr]
          · rfl
        rw [this]; exact rel
      · have hN : J.N ≤ gh.at_ (.r ri) := by
          rcases rel.own (.r ri) ⟨_, hr, rfl⟩ with hh | hh
          · exact E.hN _ hh
          · exact Nat.le_trans (J.lt _ E.hI) hh
        have hle : ys.length * k ≤ vs.size := by rw [q2]; exact Nat.mul_le_mul_right _ q6
        have hjk : ∀ (x : α) (j : Nat) (v : Value), (enc x)[j]? = some v → ∃ d, (fD x)[j]? = some d ∧ valD d = some v := fun x j v hj => by
          have h1 := congrArg (fun l => l[j]?) (hv x)
          simp only [List.getElem?_map, hj, Option.map_some] at h1
          cases hd : (fD x)[j]? with
          | none => rw [hd] at h1; cases h1
          | some d => rw [hd] at h1; exact ⟨d, rfl, by simpa using h1⟩
        have hkj : ∀ (x : α) (j : Nat) (d : D), (fD x)[j]? = some d → ∃ v, (enc x)[j]? = some v ∧ valD d = some v := fun x j d hj => by
          have h1 := congrArg (fun l => l[j]?) (hv x)
          simp only [List.getElem?_map, hj, Option.map_some] at h1
          cases hd : (enc x)[j]? with
          | none => rw [hd] at h1; cases h1
          | some v => rw [hd] at h1; exact ⟨v, rfl, by simpa using h1⟩
        refine (so.run ys (gh.at_ (.r ri)) (gh.cap ri) vs tt w rel.inv hN q1 (fun i j x v hi hj => ?_) hle h63 hys).mono ?_
        · obtain ⟨d, hd, hvd⟩ := hjk x j v hj
          have hil : i < ys.length := (List.getElem?_eq_some_iff.1 hi).1
          have hjl : j < k := by rw [← hk x]; exact (List.getElem?_eq_some_iff.1 hd).1
          have hb : i * k + j < vs.size := by
            have := Nat.mul_le_mul_right k (show i + 1 ≤ ys.length from hil)
            rw [Nat.add_mul, Nat.one_mul] at this
            omega
          have := q8 i j (fD x) d vs[i * k + j] (by simp [hi]) hd (Array.getElem?_eq_getElem hb)
          rw [Array.getElem?_eq_getElem hb, valD_of hvd this]
        · rintro _ w' ⟨rfl, z1, z2, z3, z4, z5, vs', z6, z7, z8⟩
          refine fin gh w' ?_
          refine rel.setXs (o := ⟨true, ver, k, e, ys.map fD⟩) hr rfl (by simp [so.len]) (fun x hx => ?_) q1 z1 z2 z3 z4 z5 z6 z7 (fun i j x d v g1 g2 g3 => ?_)
          · obtain ⟨y, _, rfl⟩ := List.mem_map.1 hx; exact hk y
          · rw [List.getElem?_map] at g1
            cases hs : (srt ys)[i]? with
            | none => rw [hs] at g1; cases g1
            | some y =>
              rw [hs] at g1
              obtain rfl : fD y = x := by simpa using g1
              obtain ⟨v', hv', hvd⟩ := hkj y j d g2
              have := z8 i j y v' hs hv'
              simp only [q4, Nat.zero_add] at g3
              rw [this] at g3
              obtain rfl : v' = v := by simpa using g3
              exact valD_rd hvd
  | [] => have := congrArg List.length hq; rw [List.length_map, ← hal] at this; simp at this
  | [_] => have := congrArg List.length hq; rw [List.length_map, ← hal] at this; simp at this
  | _ :: _ :: _ :: _ => have := congrArg List.length hq; rw [List.length_map, ← hal] at this; simp at this
end
end Go.Proofs.YtnphejkeflngcaaGreatDoor

/- Draws are counted upward: operations. -/
set_option linter.unusedVariables false
set_option linter.unusedSimpArgs false
namespace Go.Proofs.YtnphejkeflngcaaGreatDoor
open Go Go.RowKit
/-- No operation counts draws downward. -/
theorem ask_drawn {α : Type} : ∀ (q : Ask α) (w : World), w.drawn ≤ (w.ask q).2.drawn
  | .done a, w => Nat.le_refl _
  | .ask what range k, w => by
    unfold World.ask
    simp only
    split
    · exact ask_drawn (k 0) w
    · exact Nat.le_trans (Nat.le_succ _) (ask_drawn (k _) { w with drawn := w.drawn + 1 })
theorem sys_drawn (w : World) (c : Sys) : w.drawn ≤ (w.sys c).2.drawn := by
  have h := ask_drawn (Kernel.perform c w.os) w
  unfold World.sys
  split
  · exact Nat.le_refl _
  · rename_i r os w' he; rw [he] at h; exact h
theorem farStore_drawn {p : Program} {w w' : World} {a : Addr} {v : Value} {at' : Bool} {l : List Addr} (h : w.farStore p a v at' = .ok (w', l)) : w.drawn ≤ w'.drawn := by
  unfold World.farStore at h
  split at h
  · split at h
    · rename_i at_ u _ _ r he
      obtain rfl : r = (w', l) := by injection h
      unfold World.viewStore at he
      simp only [bind, Except.bind, pure, Except.pure] at he
      repeat' split at he
      all_goals first | (cases he; done) | (cases he; exact Nat.le_refl _)
    · cases h
  · cases h
end Go.Proofs.YtnphejkeflngcaaGreatDoor

/- Draws are counted upward: whatever an operation ends in. -/
set_option linter.unusedVariables false
set_option linter.unusedSimpArgs false
namespace Go.Proofs.YtnphejkeflngcaaGreatDoor
open Go Go.RowKit
/-- How often the tape has been asked. -/
def rwd {α : Type} : Result α → Nat
  | .ok _ w => w.drawn
  | .halt _ w => w.drawn
theorem freeze_drawn (w : World) (a : Addr) (n : Nat) : (w.freeze a n).drawn = w.drawn := by unfold World.freeze; split <;> rfl
theorem Sem.runT_wd {α : Type} {p : Program} : ∀ (x : Sem α) (w : World) (es : Array Event), w.drawn ≤ rwd (x.runT p w es).1 := by
  intro x
  induction x with
  | pure a => intro w es; exact Nat.le_refl _
  | load m a k ih =>
    intro w es
    simp only [Sem.runT]
    split
    · exact ih _ _ _
    · split
      · exact ih _ _ _
      · exact Nat.le_refl _
  | store m a u k ih =>
    intro w es
    cases u <;> simp only [Sem.runT] <;> first | exact Nat.le_refl _ | skip
    all_goals
      split
      · split
        · exact Nat.le_refl _
        · refine Nat.le_trans ?_ (ih _ _); exact Nat.le_refl _
      · split
        · rename_i he; exact Nat.le_trans (farStore_drawn he) (ih _ _)
        · exact Nat.le_refl _
  | new o k ih => intro w es; exact ih _ { w with heap := w.heap.push o } es
  | shape r k ih => intro w es; exact ih _ _ _
  | freeze a n k ih => intro w es; have := ih (w.freeze a n) es; rw [freeze_drawn] at this; exact this
  | frozen a k ih => intro w es; exact ih _ _ _
  | getObj r k ih =>
    intro w es
    simp only [Sem.runT]
    split
    · exact Nat.le_refl _
    · exact ih _ _ _
    · exact Nat.le_refl _
  | setObj r o k ih =>
    intro w es
    simp only [Sem.runT]
    split
    · exact Nat.le_refl _
    · exact ih { w with heap := w.heap.setIfInBounds r o } _
    · exact Nat.le_refl _
  | choose q k ih =>
    intro w es
    simp only [Sem.runT]
    split
    · exact ih _ _ _
    · exact Nat.le_trans (Nat.le_succ _) (ih _ { w with drawn := w.drawn + 1 } _)
  | sys c k ih => intro w es; exact Nat.le_trans (sys_drawn w c) (ih _ _ _)
  | program k ih => intro w es; exact ih _ _ _
  | mark m k ih => intro w es; exact ih _ _
  | halt h' => intro w es; exact Nat.le_refl _
theorem Sem.run_wd {α : Type} {p : Program} : ∀ (x : Sem α) (w : World), w.drawn ≤ rwd (x.run p w) := by
  intro x
  induction x with
  | pure a => intro w; exact Nat.le_refl _
  | load m a k ih =>
    intro w
    simp only [Sem.run]
    split
    · exact ih _ _
    · split
      · exact ih _ _
      · exact Nat.le_refl _
  | store m a u k ih =>
    intro w
    cases u <;> simp only [Sem.run] <;> first | exact Nat.le_refl _ | skip
    all_goals
      split
      · split
        · exact Nat.le_refl _
        · refine Nat.le_trans ?_ (ih _); exact Nat.le_refl _
      · split
        · rename_i he; exact Nat.le_trans (farStore_drawn he) (ih _)
        · exact Nat.le_refl _
  | new o k ih => intro w; exact ih _ { w with heap := w.heap.push o }
  | shape r k ih => intro w; exact ih _ _
  | freeze a n k ih => intro w; have := ih (w.freeze a n); rw [freeze_drawn] at this; exact this
  | frozen a k ih => intro w; exact ih _ _
  | getObj r k ih =>
    intro w
    simp only [Sem.run]
    split
    · exact Nat.le_refl _
    · exact ih _ _
    · exact Nat.le_refl _
  | setObj r o k ih =>
    intro w
    simp only [Sem.run]
    split
    · exact Nat.le_refl _
    · exact ih { w with heap := w.heap.setIfInBounds r o }
    · exact Nat.le_refl _
  | choose q k ih =>
    intro w
    simp only [Sem.run]
    split
    · exact ih _ _
    · exact Nat.le_trans (Nat.le_succ _) (ih _ { w with drawn := w.drawn + 1 })
  | sys c k ih => intro w; exact Nat.le_trans (sys_drawn w c) (ih _ _)
  | program k ih => intro w; exact ih _ _
  | mark m k ih => intro w; exact ih _
  | halt h' => intro w; exact Nat.le_refl _
end Go.Proofs.YtnphejkeflngcaaGreatDoor

/- Draws are counted upward: a goroutine's step. -/
set_option linter.unusedVariables false
set_option linter.unusedSimpArgs false
set_option maxHeartbeats 1000000
namespace Go.Proofs.YtnphejkeflngcaaGreatDoor
open Go Go.RowKit
/-- Where it goes on, the tape has been asked n times at least. -/
def gok (n : Nat) : GStep → Prop
  | .go _ w _ => n ≤ w.drawn
  | .comm _ _ _ _ w _ => n ≤ w.drawn
  | .spawn _ _ w _ => n ≤ w.drawn
  | .count _ w _ => n ≤ w.drawn
  | .timer _ _ w _ => n ≤ w.drawn
  | .alone _ _ w _ => n ≤ w.drawn
  | .newcoro _ _ _ w _ => n ≤ w.drawn
  | .coroswitch _ _ _ w _ => n ≤ w.drawn
  | .collect _ w _ => n ≤ w.drawn
  | .watch _ w _ => n ≤ w.drawn
  | .ended _ _ _ => True
theorem gok_after {n : Nat} {s : GStep} (es : Array Event) (h : gok n s) : gok n (s.after es) := by cases s <;> exact h
theorem doReturn_ok {p : Program} {main : Bool} {fr : Frame} {callers : List Frame} {dying : Option Dying} {v : Value} {w : World} {n : Nat} (h : n ≤ w.drawn) : gok n (doReturn p main fr callers dying v w) := by
  unfold doReturn
  repeat' split
  all_goals first | exact h | trivial
theorem dieOf_ok {fr : Frame} {ahead : List ByteArray} {m : String} {whole : Bool} {w : World} {n : Nat} (h : n ≤ w.drawn) : gok n (dieOf fr ahead m whole w) := h
theorem endThrow_ok {fr : Frame} {m : String} {w : World} {n : Nat} (h : n ≤ w.drawn) : gok n (endThrow fr m w) := h
theorem endWith_ok {w : World} {fd : Nat} {text : ByteArray} {o : Outcome} {n : Nat} : gok n (endWith w fd text o) := by
  unfold endWith
  simp only
  repeat' split
  all_goals trivial
theorem endPrinting_ok {p : Program} {fr : Frame} {v : Value} {w : World} {n : Nat} (h : n ≤ w.drawn) : gok n (endPrinting p fr v w) := by
  unfold endPrinting
  simp only
  split
  · exact h
  · trivial
theorem run_le {α : Type} {p : Program} {x : Sem α} {w : World} {r : Result α} {n : Nat} (h : n ≤ w.drawn) (hr : x.run p w = r) : n ≤ rwd r := by rw [← hr]; exact Nat.le_trans h (Sem.run_wd x w)
theorem runT_le {α : Type} {p : Program} {x : Sem α} {w : World} {es : Array Event} {r : Result α × Array Event} {n : Nat} (h : n ≤ w.drawn) (hr : x.runT p w es = r) : n ≤ rwd r.1 := by rw [← hr]; exact Nat.le_trans h (Sem.runT_wd x w es)
theorem runT_le1 {α : Type} {p : Program} {x : Sem α} {w : World} {es : Array Event} {r : Result α} {n : Nat} (h : n ≤ w.drawn) (hr : (x.runT p w es).1 = r) : n ≤ rwd r := by rw [← hr]; exact Nat.le_trans h (Sem.runT_wd x w es)
theorem gok_ite {n : Nat} {c : Prop} [Decidable c] {a b : GStep} (h1 : gok n a) (h2 : gok n b) : gok n (if c then a else b) := by split <;> assumption
theorem endFatal_ok {p : Program} {fr : Frame} {callers : List Frame} {dying : Option Dying} {m : String} {w : World} {n : Nat} (h : n ≤ w.drawn) : gok n (endFatal p fr callers dying m w) := by
  unfold endFatal
  simp only
  split
  · rename_i hr; exact dieOf_ok (run_le h hr)
  · trivial
  · trivial
theorem writeOn_ok {p : Program} {fr : Frame} {d : Dying} {f : Fatal} {w : World} {n : Nat} (h : n ≤ w.drawn) : gok n (writeOn p fr d f w) := by
  unfold writeOn
  simp only
  split
  · trivial
  · split
    · rename_i hr; exact runT_le h hr
    · rename_i hr; exact runT_le h hr
    · trivial
    · trivial
theorem die_ok {p : Program} {fr : Frame} {d : Dying} {w : World} {n : Nat} (h : n ≤ w.drawn) : gok n (die p fr d w) := by
  unfold die
  split
  · exact writeOn_ok h
  · split
    · split
      · exact h
      · exact endWith_ok
    · simp only
      split
      · exact h
      · split
        · rename_i hr; exact run_le h hr
        · trivial
      · refine gok_after _ ?_
        split
        · rename_i hr; exact runT_le1 h hr
        · rename_i hr; exact runT_le1 h hr
        · trivial
        · rename_i hr; exact endPrinting_ok (runT_le1 h hr)
        · trivial
      · trivial
theorem early_ok {p : Program} {fr : Frame} {callers : List Frame} {dying : Option Dying} {g : Nat} {w : World} {n : Nat} (h : n ≤ w.drawn) : gok n (early p fr callers dying g w) := by
  unfold early
  simp only
  repeat' split
  all_goals first | trivial | exact h | skip
  all_goals (have hh := run_le h ‹Sem.run p _ _ = Result.ok _ _›; exact hh)
theorem callDeferred_ok {p : Program} {fr : Frame} {callers : List Frame} {dying : Option Dying} {d : Deferred} {w : World} {n : Nat} (h : n ≤ w.drawn) : gok n (callDeferred p fr callers dying d w) := by
  unfold callDeferred
  refine gok_ite trivial ?_
  · simp only
    refine gok_after _ ?_
    have hr := Nat.le_trans h (Sem.runT_wd (p := p) (invoke d.target d.args) w #[])
    generalize ((invoke d.target d.args).runT p w #[]).1 = r at hr ⊢
    repeat' split
    all_goals first | trivial | exact hr | exact endFatal_ok hr | exact endThrow_ok hr
theorem unwind_ok {p : Program} {main : Bool} {fr : Frame} {callers : List Frame} {dying : Option Dying} {w : World} {n : Nat} (h : n ≤ w.drawn) : gok n (unwind p main fr callers dying w) := by
  unfold unwind
  split
  · simp only
    refine gok_after _ ?_
    split
    · rename_i hr; exact runT_le1 h hr
    · trivial
  · exact callDeferred_ok h
  · split
    · trivial
    · split
      · trivial
      · split
        · exact h
        · split
          · split
            · exact h
            · split
              · rename_i hr; exact run_le h hr
              · trivial
              · trivial
          · split
            · exact endPrinting_ok h
            · trivial
    · split
      · exact doReturn_ok h
      · simp only
        refine gok_after _ ?_
        split
        · rename_i hr; exact doReturn_ok (runT_le1 h hr)
        · trivial
        · trivial
end Go.Proofs.YtnphejkeflngcaaGreatDoor

/- Draws are counted upward: a goroutine's step, whole. -/
set_option linter.unusedVariables false
set_option linter.unusedSimpArgs false
set_option maxHeartbeats 4000000
namespace Go.Proofs.YtnphejkeflngcaaGreatDoor
open Go Go.RowKit
theorem apply_ok {p : Program} {main listen : Bool} {fr : Frame} {callers : List Frame} {dying : Option Dying} {s : Sem Next} {w : World} {n : Nat} (h : n ≤ w.drawn) : gok n (stepG.apply p listen fr callers dying s w) := by
  unfold stepG.apply
  have hr : n ≤ rwd (if listen = true then s.runT p w #[] else (s.run p w, #[])).1 := by
    split
    · exact Nat.le_trans h (Sem.runT_wd s w #[])
    · exact Nat.le_trans h (Sem.run_wd s w)
  simp only
  refine gok_after _ ?_
  generalize (if listen = true then s.runT p w #[] else (s.run p w, #[])).1 = r at hr ⊢
  cases r with
  | ok v w' =>
    cases v with
    | value v => exact hr
    | skip => exact hr
    | enter f args => exact hr
    | callThen d resume saved wrapper => simp only; split <;> exact hr
    | row row args => simp only; split <;> exact hr
    | stack resume saved => simp only; split <;> exact hr
    | round l f tmps assign body => exact hr
    | defer d => exact hr
    | recover => simp only; split <;> exact hr
    | comm => exact hr
    | numGoroutine => exact hr
    | collect => exact hr
    | watch => exact hr
    | newcoro => exact hr
    | coroswitch => exact hr
    | sleep => exact hr
    | timer => exact hr
    | alone => exact hr
    | spawn d => simp only; exact gok_ite (endThrow_ok hr) hr
  | halt e w' =>
    cases e with
    | panic v => exact hr
    | goexit => exact hr
    | blocked => exact hr
    | waiting => exact hr
    | exit c => trivial
    | fatal m => exact endFatal_ok hr
    | throw m => exact endThrow_ok hr
    | unsupported u => cases u <;> first | exact early_ok hr | trivial
    | stuck s => trivial
theorem oper_ok {p : Program} {main listen : Bool} {fr : Frame} {callers : List Frame} {dying : Option Dying} {w : World} {n : Nat} (h : n ≤ w.drawn) : gok n (stepG.oper p listen fr callers dying w) := by
  unfold stepG.oper
  split
  · trivial
  · split
    · exact apply_ok (main := main) h
    · exact apply_ok (main := main) h
theorem wd_ok {α : Type} {v : α} {w : World} {n : Nat} (h : n ≤ rwd (Result.ok v w)) : n ≤ w.drawn := h
theorem wd_halt {α : Type} {e : Halt} {w : World} {n : Nat} (h : n ≤ rwd (Result.halt e w : Result α)) : n ≤ w.drawn := h
theorem gok_elim {α : Type} {n : Nat} {o : Option α} {a : GStep} {f : α → GStep} (h1 : gok n a) (h2 : ∀ x, gok n (f x)) : gok n (o.elim a f) := by
  cases o with
  | none => exact h1
  | some x => exact h2 x
theorem exec_ok {p : Program} {main listen : Bool} {fr : Frame} {callers : List Frame} {dying : Option Dying} {w : World} {n : Nat} (h : n ≤ w.drawn) : gok n (stepG.exec p main listen fr callers dying w) := by
  unfold stepG.exec
  simp only
  repeat' split
  all_goals try (refine gok_elim ?_ (fun _ => ?_))
  all_goals first
    | trivial
    | exact h
    | exact oper_ok (main := main) h
    | exact apply_ok (main := main) h
    | (refine gok_after _ ?_; exact doReturn_ok (wd_ok (runT_le1 h ‹(Sem.runT p _ _ _).1 = Result.ok _ _›)))
    | (refine gok_after _ ?_; exact apply_ok (main := main) (wd_ok (runT_le1 h ‹(Sem.runT p _ _ _).1 = Result.ok _ _›)))
    | (refine gok_after _ ?_; exact wd_ok (runT_le1 h ‹(Sem.runT p _ _ _).1 = Result.ok _ _›))
    | (refine gok_after _ ?_; exact wd_halt (runT_le1 h ‹(Sem.runT p _ _ _).1 = Result.halt _ _›))
    | (refine gok_after _ ?_; trivial)
    | exact wd_ok (run_le h ‹Sem.run p _ _ = Result.ok _ _›)
theorem stepG_ok {p : Program} {main listen : Bool} {g : Goroutine} {w : World} {n : Nat} (h : n ≤ w.drawn) : gok n (stepG p main g w listen) := by
  unfold stepG
  simp only
  split
  · exact die_ok h
  · exact exec_ok h
  · exact unwind_ok h
end Go.Proofs.YtnphejkeflngcaaGreatDoor

/- Draws are counted upward: the machine's step. -/
set_option linter.unusedVariables false
set_option linter.unusedSimpArgs false
set_option maxHeartbeats 4000000
namespace Go.Proofs.YtnphejkeflngcaaGreatDoor
open Go Go.RowKit
def sok (n : Nat) : Stepped → Prop
  | .next m => n ≤ m.world.drawn
  | .ended _ _ => True
def mok (n : Nat) : Move → Prop
  | .goroutine m _ => n ≤ m.world.drawn
  | .machine s _ => sok n s
theorem waitingAt_dr {rest : Rest} {cases : Array CommCase} {w w' : World} (h : waitingAt rest cases w = some w') : w'.drawn = w.drawn := by
  unfold waitingAt at h
  split at h
  · split at h
    · injection h with h; rw [← h]
    · cases h
  · injection h with h; rw [← h]
theorem communicate_ok {p : Program} {rest : Rest} {gs : Array Goroutine} {i : Nat} {g : Goroutine} {cases : Array CommCase} {blocking : Bool} {shape : CommShape} {w : World} {n : Nat} (h : n ≤ w.drawn) :
    sok n (communicate p rest gs i g cases blocking shape w).1 := by
  unfold communicate
  simp only
  split
  · trivial
  · split
    · split
      · split
        · rename_i hw; have := waitingAt_dr hw; show n ≤ _; rw [this]; exact h
        · trivial
      · exact h
    · split
      · trivial
      · rename_i hr
        have h1 := wd_ok (run_le h hr)
        repeat' split
        all_goals first
          | trivial
          | exact h1
          | (have hh := wd_ok (run_le h1 ‹Sem.run p _ _ = Result.ok _ _›); exact hh)
          | (have hh := wd_halt (run_le h1 ‹Sem.run p _ _ = Result.halt _ _›); exact hh)
theorem look_ok {p : Program} {gs : Array Goroutine} {rest : Rest} {w : World} {n : Nat} (h : n ≤ w.drawn) : sok n (look p gs rest w) := by
  unfold look
  simp only
  split
  · split
    · trivial
    · split
      · trivial
      · split
        · rename_i hr; have hh := wd_ok (run_le h hr); exact hh
        · trivial
        · trivial
  · trivial
theorem serve_ok {p : Program} {m : Machine} {k n : Nat} (h : n ≤ m.world.drawn) : sok n (serve p m k) := by
  unfold serve
  split
  · trivial
  · exact h
  · simp only
    split
    · trivial
    · exact h
theorem drain_dr (w : World) (c : Nat) : (drain w c).2.drawn = w.drawn := by unfold drain; split <;> rfl
theorem retime_dr (m : Machine) (k : Nat) (t : Timer) (a b : Nat) : (retime m k t a b).2.world.drawn = m.world.drawn := by
  unfold retime
  simp only
  split
  · exact drain_dr _ _
  · rfl
theorem named_dr {m : Machine} {var : Addr} {f : Nat → Timer → Value × Machine} {v : Value} {m' : Machine} (hf : ∀ k t, (f k t).2.world.drawn = m.world.drawn) (h : timerOp.named m var f = .ok (v, m')) : m'.world.drawn = m.world.drawn := by
  unfold timerOp.named at h
  split at h
  · rename_i c hc
    injection h with h
    have := hf c (m.rest.timers.getD c default)
    rw [h] at this; exact this
  · cases h
theorem timerOp_dr {m m' : Machine} {op : TimerOp} {v : Value} (h : timerOp m op = .ok (v, m')) : m'.world.drawn = m.world.drawn := by
  unfold timerOp at h
  split at h
  · split at h
    · injection h with h; injection h with _ h; rw [← h]; rfl
    · split at h
      · split at h
        · cases h
        · injection h with h; injection h with _ h; rw [← h]
      · cases h
  · exact named_dr (fun k t => retime_dr _ _ _ _ _) h
  · split at h
    · rename_i m1 hm
      have h1 : m1.world.drawn = m.world.drawn := by
        unfold timerOp.opened at hm
        split at hm
        · split at hm
          · injection hm with hm; rw [← hm]
          · cases hm
        · injection hm with hm; rw [← hm]
      unfold timerOp.named at h
      split at h
      · injection h with h
        have := congrArg (fun x => x.2.world.drawn) h
        exact (this.symm.trans (retime_dr _ _ _ _ _)).trans h1
      · cases h
    · cases h
  · simp only at h
    injection h with h; injection h with _ h; rw [← h]; rfl
theorem runT_ok {p : Program} {m : Machine} {i : Nat} {listen : Bool} {n : Nat} (h : n ≤ m.world.drawn) : sok n (runT p m i listen).1 := by
  unfold runT
  simp only
  generalize m.gs.swapAt! i { (default : Goroutine) with status := .finished } = gg
  have hs := stepG_ok (p := p) (main := i == 0) (listen := listen) (g := gg.1) h
  generalize stepG p (i == 0) gg.1 m.world listen = s at hs ⊢
  cases s with
  | ended o w es => trivial
  | comm g cases blocking shape w es => exact communicate_ok hs
  | go g w es => exact hs
  | spawn g child w es => exact hs
  | count g w es =>
    simp only
    split
    · trivial
    · exact hs
  | alone g on w es => exact hs
  | collect g w es => exact look_ok hs
  | watch g w es => exact hs
  | newcoro g c d w es => exact hs
  | coroswitch g c exit w es =>
    simp only
    split
    · exact hs
    · exact hs
    · trivial
  | timer g op w es =>
    simp only
    split
    · rename_i ht; show n ≤ _; have := timerOp_dr ht; rw [this]; exact hs
    · exact hs
    · trivial
    · trivial
end Go.Proofs.YtnphejkeflngcaaGreatDoor

/- Draws are counted upward: from a call to what is behind it. -/
set_option linter.unusedVariables false
set_option linter.unusedSimpArgs false
set_option maxHeartbeats 4000000
namespace Go.Proofs.YtnphejkeflngcaaGreatDoor
open Go Go.RowKit
theorem mok_ite {n : Nat} {c : Prop} [Decidable c] {a b : Move} (h1 : mok n a) (h2 : mok n b) : mok n (if c then a else b) := by split <;> assumption
theorem askOn_ok {p : Program} {m : Machine} {n : Nat} (h : n ≤ m.world.drawn) : mok n (askOn p m) := by
  unfold askOn
  simp only
  split
  · trivial
  · rename_i k0 wd hr
    have h1 := wd_ok (run_le h hr)
    refine mok_ite (serve_ok h1) ?_
    have pick : ∀ (m' : Machine), n ≤ m'.world.drawn → mok n (match (choose (.sched (runnable m.gs m.world.os.mono).length)).run p m'.world with
      | .halt _ w => .machine (.ended (.stuck "sched" "") w)
      | .ok k world =>
        if (runnable m.gs m.world.os.mono).length ≤ 1 then .goroutine { m' with world } ((runnable m.gs m.world.os.mono).getD k 0) else
        match (choose (.extern "sched.slice" 65536)).run p world with
        | .halt _ w => .machine (.ended (.stuck "sched.slice" "") w)
        | .ok n world => .goroutine { m' with world, rest := { m'.rest with slice := if n = 0 then none else some ((runnable m.gs m.world.os.mono).getD k 0, n) } } ((runnable m.gs m.world.os.mono).getD k 0)) := fun m' hm => by
      split
      · trivial
      · rename_i hr
        have h2 := wd_ok (run_le hm hr)
        refine mok_ite h2 ?_
        split
        · trivial
        · rename_i hr; have hh := wd_ok (run_le h2 hr); exact hh
    split
    · split
      · exact h1
      · refine mok_ite h1 ?_
        split <;> trivial
    · split
      · exact pick { m with world := wd } h1
      · split
        · trivial
        · rename_i wd2 hr; have hh := wd_ok (run_le h1 hr); exact pick { m with world := wd2 } hh
        · rename_i hr; have hh := wd_ok (run_le h1 hr); exact hh
        · rename_i k2 wd2 hr; have hh := wd_ok (run_le h1 hr); exact pick ({ m with world := wd2 }.advanceTo _) hh
theorem ask_ok {p : Program} {m : Machine} {n : Nat} (h : n ≤ m.world.drawn) : mok n (ask p m) := by
  unfold ask
  split
  · split
    · trivial
    · rename_i hr
      have h1 := wd_ok (run_le h hr)
      have h2 := look_ok (p := p) (gs := m.gs) (rest := m.rest) h1
      split
      · rename_i he; rw [he] at h2; exact askOn_ok h2
      · exact h2
    · rename_i hr
      have h1 := wd_ok (run_le h hr)
      exact askOn_ok h1
  · exact askOn_ok h
theorem move_ok {p : Program} {m : Machine} {n : Nat} (h : n ≤ m.world.drawn) : mok n (move p m) := by
  unfold move
  split
  · split
    · exact h
    · trivial
  · split
    · split
      · exact h
      · exact ask_ok h
    · exact ask_ok h
theorem step_ok {p : Program} {m : Machine} {n : Nat} (h : n ≤ m.world.drawn) : sok n (step p m) := by
  unfold step stepT
  have h1 := move_ok (p := p) h
  split
  · rename_i he; rw [he] at h1; exact runT_ok h1
  · rename_i he; rw [he] at h1; exact h1
theorem runN_ok {p : Program} {n : Nat} : ∀ (k : Nat) {m : Machine}, n ≤ m.world.drawn → sok n (runN p k m)
  | 0, m, h => h
  | k + 1, m, h => by
    unfold runN
    have h1 := step_ok (p := p) h
    split
    · rename_i he; rw [he] at h1; exact runN_ok k h1
    · exact h1
/-- **What a call leaves has been drawn from no less than before.** -/
theorem Calls.drawn {P : Program} {f : FuncId} {args : Array Value} {w : World} {R : Ending → World → Prop} (h : Calls P f args w fun e w' => (∃ v, e = .returned v) ∧ R e w') : Calls P f args w fun e w' => R e w' ∧ w.drawn ≤ w'.drawn := by
  intro cs
  obtain ⟨e, w', fr, ⟨⟨v, rfl⟩, hR⟩, hc, h1, h2⟩ := h cs
  refine ⟨_, w', fr, ⟨hR, ?_⟩, hc, h1, h2⟩
  obtain ⟨k, hk⟩ := hc
  have := runN_ok (p := P) (n := w.drawn) k (m := lone (Frame.enter P f args .normal) cs w) (Nat.le_refl _)
  rw [hk] at this
  exact this
end Go.Proofs.YtnphejkeflngcaaGreatDoor

/- slices.SortFunc at structs, out of the library's contract and the comparing function's own. -/
set_option linter.unusedVariables false
set_option linter.unusedSimpArgs false
namespace Go.Proofs.YtnphejkeflngcaaGreatDoor
open Go Go.RowKit Go.Sort
theorem sw_other {α : Type} [Inhabited α] {enc : α → List Value} {k : Nat} {w : World} {blk n : Nat} {dk : Array α} {os : Array Obj} {q : Nat} (hq : q < w.heap.size) (hne : q ≠ blk) : (sortWorldK enc k w blk 0 n dk os).heap[q]? = w.heap[q]? := by
  show (w.heap.modify blk (onCells (Go.Sort.putCells id 0 (flatK enc k dk))) ++ os)[q]? = _
  rw [Array.getElem?_append_left (by simpa using hq), Array.getElem?_modify, if_neg (Ne.symm hne)]
theorem sw_size {α : Type} [Inhabited α] {enc : α → List Value} {k : Nat} {w : World} {blk n : Nat} {dk : Array α} {os : Array Obj} : w.heap.size ≤ (sortWorldK enc k w blk 0 n dk os).heap.size := by
  show w.heap.size ≤ (w.heap.modify blk (onCells (Go.Sort.putCells id 0 (flatK enc k dk))) ++ os).size
  simp
theorem sw_blk {α : Type} [Inhabited α] {enc : α → List Value} {k : Nat} {w : World} {blk n : Nat} {dk : Array α} {os : Array Obj} {vs : Array Value} {tt : TypeId} (hb : w.heap[blk]? = some (.cells vs tt (0, 0))) :
    (sortWorldK enc k w blk 0 n dk os).heap[blk]? = some (.cells (Go.Sort.putCells id 0 (flatK enc k dk) vs) tt (0, 0)) := by
  have hlt := (Array.getElem?_eq_some_iff.1 hb).1
  show (w.heap.modify blk (onCells (Go.Sort.putCells id 0 (flatK enc k dk))) ++ os)[blk]? = _
  rw [Array.getElem?_append_left (by simpa using hlt), Array.getElem?_modify, if_pos rfl, hb]
  rfl
theorem regrown_up {w w' : World} (h : Below w.heap.size w w') (hd : w.drawn ≤ w'.drawn) : ∃ q os', w' = grow (w.drewN q) os' := by
  obtain ⟨p, hp⟩ := regrown_of_below h
  refine ⟨w'.drawn - w.drawn, p.os, ?_⟩
  have e : p.d = w'.drawn := by rw [hp]; rfl
  have e2 : redrawn w p.d = w.drewN (w'.drawn - w.drawn) := by
    unfold redrawn World.drewN
    rw [e, Nat.add_sub_cancel' hd]
  rw [← e2]; exact hp
/-- A comparing function, called in the worlds of a sort. -/
theorem cmp_lays {P : Program} {J : Inv} {g : FuncId} {k : Nat} {α : Type} [Inhabited α] {enc : α → List Value} {fD : α → List D} {cf : α → α → Int} (hv : ∀ x, (fD x).map valD = (enc x).map some)
    (pc : ∀ x y : α, PureCall P J g [.agg ((fD x).map .d), .agg ((fD y).map .d)] (.one (.d (.int .i64 (cf x y))))) {w : World} {blk size : Nat} (hJ : J.I w) (hN : J.N ≤ blk) : CmpLays P g #[] enc k cf blk 0 size w := by
  intro m os dk hdk x y
  have hJ2 : J.I (sortWorldK enc k w blk 0 m dk os) := J.st _ _ hJ ⟨rfl, rfl, rfl, sw_size, fun q hq => sw_other (Nat.lt_of_lt_of_le hq (J.lt _ hJ)) (by omega)⟩
  have harg : ∀ (z : α), RV (noGh fun _ => False) noSh (sortWorldK enc k w blk 0 m dk os) (.agg ((fD z).map .d)) (.agg (enc z).toArray) := fun z => by
    have hz := hv z
    have hl : (enc z).length = (fD z).length := by have := congrArg List.length hz; simpa using this.symm
    refine .agg _ _ (by simpa using hl) (fun i c v h1 h2 => ?_)
    rw [List.getElem?_map] at h1
    cases hd : (fD z)[i]? with
    | none => rw [hd] at h1; cases h1
    | some d =>
      rw [hd] at h1
      obtain rfl : C.d d = c := by simpa using h1
      have h3 := congrArg (fun l => l[i]?) hz
      simp only [List.getElem?_map, hd, h2, Option.map_some] at h3
      exact .d _ _ (valD_rd (by simpa using h3))
  have hc := (pc x y).calls (fun _ => False) _ [.agg (enc x).toArray, .agg (enc y).toArray] hJ2 (fun _ h => h.elim) rfl (fun i u v h1 h2 => by
    match i with
    | 0 => simp at h1 h2; subst h1; subst h2; exact harg x
    | 1 => simp at h1 h2; subst h1; subst h2; exact harg y
    | i + 2 => simp at h1)
  have hc2 := Calls.drawn (R := fun e w' => e = .returned (.int .i64 (cf x y)) ∧ Below (sortWorldK enc k w blk 0 m dk os).heap.size (sortWorldK enc k w blk 0 m dk os) w') (hc.mono fun e w' ⟨v, im', p1, p2, p3, p4, p5, p6⟩ => ⟨⟨v, p1⟩, by
    cases p6 with | one _ _ p6 => cases p6 with | d _ _ p6 => cases p6; exact p1, p2⟩)
  rw [Array.append_empty]
  exact hc2.mono fun e w' h => ⟨h.1.1, regrown_up h.1.2 h.2⟩
theorem flat_get {α : Type} [Inhabited α] {enc : α → List Value} {k : Nat} (hk : ∀ x, (enc x).length = k) {xs : List α} {i j : Nat} {x : α} {v : Value} (hi : xs[i]? = some x) (hj : (enc x)[j]? = some v) : (flatK enc k xs.toArray)[i * k + j]! = v ∧ i * k + j < xs.length * k := by
  have hil := (List.getElem?_eq_some_iff.1 hi).1
  have hjl : j < k := by rw [← hk x]; exact (List.getElem?_eq_some_iff.1 hj).1
  have hb : i * k + j < xs.length * k := by
    have := Nat.mul_le_mul_right k (show i + 1 ≤ xs.length from hil)
    rw [Nat.add_mul, Nat.one_mul] at this
    omega
  refine ⟨?_, hb⟩
  rw [get_flatK _ _ _ _ (by simpa using hb)]
  have e1 : (i * k + j) / k = i := by rw [Nat.mul_comm, Nat.mul_add_div (by omega), Nat.div_eq_of_lt hjl]; rfl
  have e2 : (i * k + j) % k = j := by rw [Nat.mul_comm, Nat.mul_add_mod, Nat.mod_eq_of_lt hjl]
  rw [e1, e2]
  have e3 : xs.toArray[i]! = x := by simp [hi]
  rw [e3]
  simp [hj]
theorem SortOk.of {P : Program} {J : Inv} {ρ : Go.Shelf.Ren} (L : SlLaysF0.n6 P ρ) {f g : FuncId} {k : Nat} {α : Type} [Inhabited α] {enc : α → List Value} {fD : α → List D} {cf : α → α → Int} (hf : ρ.f 6 = f) (aE : ∀ w, (isAgg (ρ.t 24)).run P w = .ok true w)
    (zE : ∀ w, (Go.sizeOf (ρ.t 24)).run P w = .ok k w) (hk : ∀ x, (enc x).length = k) (hv : ∀ x, (fD x).map valD = (enc x).map some) (h1 : ∀ x, ∀ v ∈ enc x, v.oneCell' = true)
    (pc : ∀ x y : α, PureCall P J g [.agg ((fD x).map .d), .agg ((fD y).map .d)] (.one (.d (.int .i64 (cf x y))))) (hO : SWO (ltOf cf)) (hT : ∀ x y, (ltOf cf) x y = false → (ltOf cf) y x = false → x = y)
    (eg : ∀ args w, (callFunc g args).run P w = .ok (.enter g args) w) (enter : ∃ fn, P.funcs[f]? = some fn ∧ (fn.name == "runtime.NumGoroutine") = false ∧ fn.body.isNone = false) :
    SortOk P J f g k enc (fun l => l.mergeSort fun x y => !(ltOf cf) y x) := by
  subst hf
  refine ⟨enter, fun xs => List.length_mergeSort _, fun xs blk cap vs tt w hJ hN hb hcells hle h63 hne => ?_, fun p cap w => AnyF.slices_SortFunc_none (P := P) (ρ := ρ) L p cap _ w⟩
  have hblk := (Array.getElem?_eq_some_iff.1 hb).1
  have hH : HoldsK enc k w blk 0 xs.toArray := fun t ht => by
    have ht' : t < xs.length * k := by simpa using ht
    have hk0 : 0 < k := by rcases Nat.eq_zero_or_pos k with h | h; (subst h; simp at ht'); exact h
    have hi : t / k < xs.length := (Nat.div_lt_iff_lt_mul hk0).2 ht'
    have hj : t % k < (enc xs[t / k]).length := by rw [hk]; exact Nat.mod_lt _ hk0
    have e : t / k * k + t % k = t := by rw [Nat.mul_comm]; exact Nat.div_add_mod t k
    have hc := hcells (t / k) (t % k) xs[t / k] (enc xs[t / k])[t % k] (List.getElem?_eq_getElem hi) (List.getElem?_eq_getElem hj)
    have hfl := (flat_get (enc := enc) hk (List.getElem?_eq_getElem hi) (List.getElem?_eq_getElem hj)).1
    rw [e] at hc hfl
    rw [hfl, Nat.zero_add]
    exact ⟨by simp [World.cell?, hb, hc], by simp [World.frozen?, hb]⟩
  have hs := AnyQ.slices_SortFunc_total L k aE zE enc hk h1 cf hO g #[] blk 0 cap xs.toArray w eg (cmp_lays hv pc hJ hN) hH hblk (by simpa using h63) hT
  refine Calls.mono hs fun e w' h => ?_
  obtain ⟨he, n, os, hw⟩ := h
  subst hw
  refine ⟨he, rfl, rfl, rfl, sw_size, fun q hq hne => sw_other hq hne, _, sw_blk hb, by simp [Go.Sort.putCells], fun i j x v hi hj => ?_⟩
  have hfl := flat_get (enc := enc) hk hi hj
  have hlen : (xs.mergeSort fun x y => !(ltOf cf) y x).length = xs.length := List.length_mergeSort _
  rw [hlen] at hfl
  have hlt : i * k + j < vs.size := by omega
  unfold Go.Sort.putCells
  rw [Array.getElem?_mapIdx, Array.getElem?_eq_getElem hlt]
  simp only [Option.map_some, size_flatK, List.size_toArray, List.length_mergeSort, Nat.zero_add, Nat.sub_zero, id]
  rw [if_pos ⟨Nat.zero_le _, hfl.2⟩, hfl.1]
end Go.Proofs.YtnphejkeflngcaaGreatDoor

set_option linter.unusedVariables false
set_option linter.unusedSimpArgs false
set_option maxRecDepth 100000
set_option maxHeartbeats 4000000
namespace Go.Proofs.YtnphejkeflngcaaGreatDoor
open Go
open Go.RowKit Go.Sort
/-- A right version. -/
abbrev RVer := { v : Ver // v.check = 0 }
instance : Inhabited RVer := ⟨⟨Ver.z, check_z⟩⟩
def encV (x : RVer) : List Value := [.int .i64 x.1.a, .int .i64 x.1.b, .int .i64 x.1.c, .string ⟨x.1.e.toArray⟩]
def cfV (x y : RVer) : Int := orderB x.1 y.1
theorem early_len {v : Ver} (h : v.check = 0) : v.e.length < 4294967281 := by
  unfold Ver.check checkB at h
  split at h
  · cases h
  · split at h
    · cases h
    · rename_i h2
      by_cases he : v.e = []
      · rw [he]; decide
      · have : earlyB v.e = true := by
          cases hh : earlyB v.e with
          | true => rfl
          | false => exact absurd (by simp [he, hh]) h2
        unfold earlyB at this
        simp only [Bool.and_eq_true, decide_eq_true_eq] at this
        omega
theorem swoV : SWO (ltOf cfV) where
  irrefl x := by unfold ltOf cfV; rw [order_refl]; rfl
  trans x y z h1 h2 := by
    unfold ltOf cfV at *
    simp only [decide_eq_true_eq] at *
    have a1 := pre_order.trans x.1 y.1 z.1 (by omega) (by omega)
    have a2 := pre_order.trans y.1 z.1 x.1 (by omega)
    have n1 := pre_order.neg x.1 z.1
    have n2 := pre_order.neg x.1 y.1
    omega
  ntrans x y z h1 h2 := by
    unfold ltOf cfV at *
    simp only [decide_eq_false_iff_not] at *
    have n1 := pre_order.neg x.1 y.1
    have n2 := pre_order.neg y.1 z.1
    have n3 := pre_order.neg x.1 z.1
    have a1 := pre_order.trans z.1 y.1 x.1 (by omega) (by omega)
    omega
theorem sortVer : SortOk Tryz.prog J 150 29 4 encV (fun l => l.mergeSort fun x y => !(ltOf cfV) y x) :=
  SortOk.of (fD := fun x => verD x.1) Tryz.lgSortVer rfl Tryz.isAgg43 Tryz.sizeOf43 (fun _ => rfl) (fun _ => rfl) (fun x v hv => by simp [encV] at hv; rcases hv with rfl | rfl | rfl | rfl <;> rfl)
    (fun x y => by
      have h := pc_outref2_CompareOf x.1 y.1 (early_len x.2) (early_len y.2)
      rw [compare_eq x.2 y.2] at h
      exact h)
    swoV (fun x y h1 h2 => by
      unfold ltOf cfV at *
      simp only [decide_eq_false_iff_not] at *
      have n := pre_order.neg x.1 y.1
      exact Subtype.ext (order_0 (by omega)))
    (enters_of Tryz.func29 (by kernel_rfl) rfl) ⟨Tryz.f150, Tryz.func150, by kernel_rfl, rfl⟩
end Go.Proofs.YtnphejkeflngcaaGreatDoor

/- More on own rows: slicing, clearing, a piece of a row frozen, bytes as a text. -/
set_option linter.unusedVariables false
set_option linter.unusedSimpArgs false
namespace Go.Proofs.YtnphejkeflngcaaGreatDoor
open Go Go.RowKit
section
variable {J : Inv} {k0 : Lens} {E : Env J k0} {P : Program} {T : TypeId → Option TI} {n : Nat} {t : Nat → V} {b : List (List C)} {r : List (Option RowO)} {m : List (List (DV × DV))} {ops : Array Oper} {l : List Oper}
  {K : St → Prop} {i : Nat} {ty : TypeId} {pos : String} {after : Array Edge}
/-- A piece of an own row; it does not begin at the row's end. -/
theorem S.sliceRow (hT : TabOk P T) {tt e : TypeId} {ti ei : TI} {x : Operand} {lo hi : Option Operand} {ri ver off k : Nat} {l0 h0 : Int} {o : RowO} (l1 h1 : Nat) (hti : T tt = some ti) (hd : ti.desc = .slice e) (hei : T e = some ei)
    (hx : opd n ⟨t, b, r, m⟩ x = (true, .one (.row ri ver off k))) (hlo : bnd n ⟨t, b, r, m⟩ 0 lo = some (true, l0)) (hhi : bnd n ⟨t, b, r, m⟩ k hi = some (true, h0)) (ho : rowAt ⟨t, b, r, m⟩ ri ver = some o) (hsz : ei.size = o.sz)
    (hl : l0 = (l1 : Int)) (hh : h0 = (h1 : Int)) (hb : l1 ≤ h1 ∧ h1 ≤ k ∧ l1 < k) {off' k' : Nat} (ho' : off + l1 = off') (hk' : h1 - l1 = k')
    (h : WL E P n ops l K ⟨upd t i (.one (.row ri ver off' k')), b, r, m⟩) : WL E P n ops (⟨some i, .slice tt x lo hi none, ty, pos, after, none⟩ :: l) K ⟨t, b, r, m⟩ := by
  subst ho'; subst hk'; subst hl; subst hh
  intro g a w rel next Q hn
  have hw : Region.wanted (⟨some i, .slice tt x lo hi none, ty, pos, after, none⟩ : Oper) (yielded ops a.tmps) = true := by simp [Region.wanted]
  rw [if_pos hw]
  have hp := opd_ok rel hx rfl
  generalize hz : a.eval x = z at hp
  cases hp with | one _ _ hp =>
  obtain ⟨q1, q2, q3⟩ := row_val (s := ⟨t, b, r, m⟩) rel.heap ho hp
  rcases q3 with ⟨hal, rfl⟩ | ⟨_, hn0, _⟩
  · obtain ⟨ho1, ho2⟩ := rowAt_some ho
    have hrow := rel.heap.row ri o ho1
    rw [if_pos hal] at hrow
    obtain ⟨vs, tt', p1, ⟨p2, p3, p4, p5⟩, p6, p7, _, p8⟩ := hrow
    have hbb := sliceBounds_ok (P := P) (w := w) (isS := true) (m := k) (cap := g.cap ri - off) (bnd_ok rel hlo rfl) (bnd_ok rel hhi rfl) (by omega) (by omega) (by omega) (by omega)
    have hut := (hT tt ti hti).1
    rw [hd] at hut
    have hrun : (execOp a.eval (⟨some i, .slice tt x lo hi none, ty, pos, after, none⟩ : Oper)).run P w = .ok (.value (.slice (some ⟨g.at_ (.r ri), g.off ri + (off + l1) * o.sz, none⟩) (h1 - l1) (g.cap ri - (off + l1)))) w := by
      have e1 : ¬ (g.cap ri - off = l1) := by omega
      have e2 : g.off ri + off * o.sz + l1 * o.sz = g.off ri + (off + l1) * o.sz := by rw [Nat.add_mul, Nat.add_assoc]
      have e3 : g.cap ri - off - l1 = g.cap ri - (off + l1) := by omega
      simp only [execOp, hz, Instr.sliceAt, Instr.slice, Sem.run_bind, run_underlying hut, Result.andThen_ok, run_sizeOf' hT hei, Option.map_none, hbb, Sem.run_pure, Int.toNat_natCast, if_neg e1, Option.map_some, add_none, hsz, e2, e3]
    unfold Oper.wp
    rw [hrun]
    refine hn _ g _ _ h (rel.put_same (some i) (.one _ _ (.row _ _ _ _ _ rfl q1 (fun al ver' sz ln hx' => ?_))))
    have hf : (⟨t, b, r, m⟩ : St).sh.rows[ri]? = some (some o.form) := by simp [St.sh, ho1]
    rw [hf] at hx'
    simp only [Option.some.injEq, RowO.form, Prod.mk.injEq] at hx'
    obtain ⟨rfl, rfl, rfl, rfl⟩ := hx'
    exact ⟨by omega, fun _ => ⟨by omega, by rw [if_pos hal]⟩⟩
  · omega
theorem zeroCells_get {z : Array Value} {k : Nat} {p j : Nat} {v : Value} (hp : p < k) (hj : z[j]? = some v) : (Builtin.zeroCells z k).toList[p * z.size + j]? = some v := by
  have hjl : j < z.size := (Array.getElem?_eq_some_iff.1 hj).1
  have h1 := Nat.mul_le_mul_right z.size (show p + 1 ≤ k from hp)
  rw [Nat.add_mul, Nat.one_mul] at h1
  have h2 : (p * z.size + j) % z.size = j := by rw [Nat.mul_comm, Nat.mul_add_mod]; exact Nat.mod_eq_of_lt hjl
  unfold Builtin.zeroCells
  rw [Array.getElem?_toList]
  rw [Array.getElem?_map, Array.getElem?_range, if_pos (by omega)]
  simp only [Option.map_some, h2, Option.some.injEq]
  rw [getElem!_def, hj]
theorem zeroCells_size (z : Array Value) (k : Nat) : (Builtin.zeroCells z k).toList.length = k * z.size := by simp [Builtin.zeroCells]
theorem zeroCells_mem {z : Array Value} {k : Nat} {v : Value} (h : v ∈ (Builtin.zeroCells z k).toList) (hp : 0 < z.size) : v ∈ z := by
  unfold Builtin.zeroCells at h
  simp only [Array.toList_map, List.mem_map] at h
  obtain ⟨q, _, rfl⟩ := h
  have := Nat.mod_lt q hp
  rw [getElem!_pos z _ this]
  exact Array.getElem_mem this
/-- The zero value's cells over a piece of an own row. -/
theorem S.clearRow (hT : TabOk P T) {tt e : TypeId} {ti ei : TI} {x : Operand} {ri ver off k : Nat} {o : RowO} (zd : List D) (hti : T tt = some ti) (hd : ti.desc = .slice e) (hei : T e = some ei)
    (hx : opd n ⟨t, b, r, m⟩ x = (true, .one (.row ri ver off k))) (ho : rowAt ⟨t, b, r, m⟩ ri ver = some o) (hsz : ei.zero.cells.size = o.sz) (hz : zd.map valD = ei.zero.cells.toList.map some) (hone : ∀ v ∈ ei.zero.cells.toList, v.oneCell' = true)
    {xs' : List (List D)} (hxs : o.xs.take off ++ List.replicate k zd ++ o.xs.drop (off + k) = xs') {r' : List (Option RowO)} (hr' : r.set ri (some ⟨o.al, o.ver, o.sz, o.ty, xs'⟩) = r')
    (h : WL E P n ops l K ⟨t, b, r', m⟩) : WL E P n ops (⟨none, .call ⟨.builtin .clear, #[x], #[tt]⟩, ty, pos, after, none⟩ :: l) K ⟨t, b, r, m⟩ := by
  subst hr'; subst hxs
  intro g a w rel next Q hn
  have hw : Region.wanted (⟨none, .call ⟨.builtin .clear, #[x], #[tt]⟩, ty, pos, after, none⟩ : Oper) (yielded ops a.tmps) = true := by simp [Region.wanted]
  rw [if_pos hw]
  have hp := opd_ok rel hx rfl
  generalize hzz : a.eval x = z at hp
  cases hp with | one _ _ hp =>
  obtain ⟨q1, q2, q3⟩ := row_val (s := ⟨t, b, r, m⟩) rel.heap ho hp
  obtain ⟨ho1, ho2⟩ := rowAt_some ho
  have hut := (hT tt ti hti).1
  rw [hd] at hut
  have hlt : ri < r.length := (List.getElem?_eq_some_iff.1 ho1).1
  have fin : ∀ (w' : World), (Builtin.clear_ #[tt] ty #[z]).run P w = .ok (.tuple #[]) w' → Rel E n g ⟨t, b, r.set ri (some ⟨o.al, o.ver, o.sz, o.ty, o.xs.take off ++ List.replicate k zd ++ o.xs.drop (off + k)⟩), m⟩ a w' →
      Oper.wp P (⟨none, .call ⟨.builtin .clear, #[x], #[tt]⟩, ty, pos, after, none⟩ : Oper) a w next Q := fun w' h1 h2 => by
    have hrun : (execOp a.eval (⟨none, .call ⟨.builtin .clear, #[x], #[tt]⟩, ty, pos, after, none⟩ : Oper)).run P w = .ok (.value (.tuple #[])) w' := by
      simp only [execOp, resolve, invoke, builtin, Sem.run_bind, Sem.run_pure, Result.andThen_ok, List.map_toArray, List.map_cons, List.map_nil, hzz, h1]
    unfold Oper.wp
    rw [hrun]
    exact hn _ g _ _ h (h2.put_same none (u := .junk) (.junk _))
  have stay : k = 0 → Rel E n g ⟨t, b, r.set ri (some ⟨o.al, o.ver, o.sz, o.ty, o.xs.take off ++ List.replicate k zd ++ o.xs.drop (off + k)⟩), m⟩ a w := fun hk => by
    subst hk
    have : r.set ri (some ⟨o.al, o.ver, o.sz, o.ty, o.xs.take off ++ List.replicate 0 zd ++ o.xs.drop (off + 0)⟩) = r := by
      simp only [List.replicate_zero, List.append_nil, Nat.add_zero, List.take_append_drop]
      apply List.ext_getElem?
      intro q
      rw [List.getElem?_set]
      split
      · rename_i hq; subst hq; rw [ho1]
      · rfl
    rw [this]; exact rel
  rcases q3 with ⟨hal, rfl⟩ | ⟨_, hk0, rfl⟩
  · by_cases hk : k = 0
    · refine fin w ?_ (stay hk)
      subst hk
      simp [Builtin.clear_, run_underlying hut]
    · have hrow := rel.heap.row ri o ho1
      rw [if_pos hal] at hrow
      obtain ⟨vs, tt', p1, ⟨p2, p3, p4, p5⟩, p6, p7, _, p8⟩ := hrow
      obtain ⟨Z, hZ⟩ : ∃ Z : List Value, Z = (Builtin.zeroCells ei.zero.cells k).toList := ⟨_, rfl⟩
      have hZl : Z.length = k * o.sz := by rw [hZ, zeroCells_size, hsz]
      have hbound : off * o.sz + k * o.sz ≤ vs.size := by
        have h3 := Nat.mul_le_mul_right o.sz (show off + k ≤ g.cap ri by omega)
        rw [Nat.add_mul] at h3
        omega
      have hZ1 : ∀ v ∈ Z, v.oneCell' = true := fun v hv => by
        rw [hZ] at hv
        by_cases h0 : 0 < ei.zero.cells.size
        · have := zeroCells_mem hv h0; exact hone v (by simpa using this)
        · have : Z.length = 0 := by rw [hZl]; rw [show o.sz = 0 by omega]; omega
          rw [← hZ, List.length_eq_zero_iff.1 this] at hv; cases hv
      obtain ⟨A, hA⟩ : ∃ A, A = off * o.sz := ⟨_, rfl⟩
      have hst := storeCells_run (P := P) Z A w vs p1 (by rw [hZl, hA]; exact hbound) hZ1 A (Nat.le_refl _)
      simp only [Nat.sub_self] at hst
      obtain ⟨w1, hw1⟩ : ∃ w1 : World, w1 = { w with heap := w.heap.setIfInBounds (g.at_ (.r ri)) (.cells (vs.toList.take A ++ Z ++ vs.toList.drop (A + Z.length)).toArray tt' (0, 0)) } := ⟨_, rfl⟩
      rw [← hw1] at hst
      have hlive : (⟨t, b, r, m⟩ : St).live (.r ri) := ⟨o, ho1, hal⟩
      have hhl := rel.heap.lt _ hlive
      have hold : ∀ q, q ≠ g.at_ (.r ri) → w1.heap[q]? = w.heap[q]? := fun q hq => by rw [hw1]; simp only; rw [Array.getElem?_setIfInBounds, if_neg (Ne.symm hq)]
      have him : ∀ q, g.im q → w1.heap[q]? = w.heap[q]? := fun q hq => hold q (fun he => rel.heap.new _ hlive (he ▸ hq))
      have hzl : zd.length = o.sz := by have := congrArg List.length hz; simpa [hsz] using this
      refine fin w1 ?_ ?_
      · have e1 : g.off ri + off * o.sz = A := by rw [p4, hA, Nat.zero_add]
        obtain ⟨k', rfl⟩ : ∃ k', k = k' + 1 := ⟨k - 1, by omega⟩
        simp [Builtin.clear_, run_underlying hut, run_zeroValue' hT hei, e1, ← hZ, hst]
      · refine rel.setXs (vs := vs) (vs1 := (vs.toList.take A ++ Z ++ vs.toList.drop (A + Z.length)).toArray) (tt := tt') ho1 hal ?_ ?_ p1 (by rw [hw1]) (by rw [hw1]) (by rw [hw1]) (by rw [hw1]; simp) (fun q _ hq => hold q hq) (by rw [hw1]; simp [Array.getElem?_setIfInBounds, hhl]) ?_ ?_
        · simp; omega
        · intro y hy
          simp only [List.mem_append, List.mem_replicate] at hy
          rcases hy with (hy | ⟨_, rfl⟩) | hy
          · exact p7 y (List.mem_of_mem_take hy)
          · exact hzl
          · exact p7 y (List.mem_of_mem_drop hy)
        · simp only [List.size_toArray, List.length_append, List.length_take, List.length_drop, Array.length_toList]
          omega
        · intro p j y d v y1 y2 y3
          rw [p4, Nat.zero_add] at y3
          have hjl : j < o.sz := by
            have hj0 := (List.getElem?_eq_some_iff.1 y2).1
            have : y.length = o.sz := by
              have hy := List.mem_of_getElem? y1
              simp only [List.mem_append, List.mem_replicate] at hy
              rcases hy with (hy | ⟨_, rfl⟩) | hy
              · exact p7 y (List.mem_of_mem_take hy)
              · exact hzl
              · exact p7 y (List.mem_of_mem_drop hy)
            omega
          simp only [List.getElem?_toArray, List.append_assoc] at y3 y1
          have hlo : min off o.xs.length = off := by omega
          have hAl : min A vs.size = A := by omega
          by_cases c1 : p < off
          · have h3 := Nat.mul_le_mul_right o.sz (show p + 1 ≤ off from c1)
            rw [Nat.add_mul, Nat.one_mul] at h3
            rw [List.getElem?_append_left (by simp; omega), List.getElem?_take, if_pos c1] at y1
            rw [List.getElem?_append_left (by simp; omega), List.getElem?_take, if_pos (by omega)] at y3
            exact (p8 p j y d v y1 y2 (by rw [p4, Nat.zero_add]; simpa using y3)).mono (fun _ h => h) him
          · have h3 := Nat.mul_le_mul_right o.sz (show off ≤ p by omega)
            rw [List.getElem?_append_right (by simp; omega)] at y1 y3
            simp only [List.length_take, hlo, hAl, Array.length_toList] at y1 y3
            by_cases c2 : p - off < k
            · have h4 := Nat.mul_le_mul_right o.sz (show p - off + 1 ≤ k from c2)
              rw [Nat.add_mul, Nat.one_mul, Nat.sub_mul] at h4
              rw [List.getElem?_append_left (by simpa using c2), List.getElem?_replicate, if_pos c2] at y1
              obtain rfl : zd = y := by simpa using y1
              rw [List.getElem?_append_left (by omega)] at y3
              have h5 : (zd.map valD)[j]? = some (valD d) := by simp [y2]
              rw [hz, List.getElem?_map] at h5
              obtain ⟨u, hu1, hu2⟩ := Option.map_eq_some_iff.1 h5
              have h6 := zeroCells_get (z := ei.zero.cells) c2 (by simpa using hu1)
              rw [← hZ, hsz, Nat.sub_mul, show p * o.sz - off * o.sz + j = p * o.sz + j - A by omega, y3] at h6
              injection h6 with h6
              rw [h6]
              exact valD_rd hu2.symm
            · have h4 := Nat.mul_le_mul_right o.sz (show off + k ≤ p by omega)
              rw [Nat.add_mul] at h4
              rw [List.getElem?_append_right (by simp; omega), List.length_replicate, List.getElem?_drop, show off + k + (p - off - k) = p by omega] at y1
              rw [List.getElem?_append_right (by omega), List.getElem?_drop, show A + Z.length + (p * o.sz + j - A - Z.length) = p * o.sz + j by omega] at y3
              exact (p8 p j y d v y1 y2 (by rw [p4, Nat.zero_add]; simpa using y3)).mono (fun _ h => h) him
  · refine fin w ?_ (stay hk0)
    subst hk0
    simp [Builtin.clear_, run_underlying hut]
/-- A row's first elements, as pure data. -/
theorem row_RDp {s : St} {g : Gh} {a : Act} {w : World} (rel : Rel E n g s a w) {ri k : Nat} {q : RowO} (ho : s.r[ri]? = some (some q)) {v : Value} (hv : RV g s.sh w (.one (.row ri q.ver 0 k)) v) :
    RD (fun x => g.im x ∨ (q.al = true ∧ x = g.at_ (.r ri))) w (.vec q.sz (q.xs.take k)) v := by
  have hat : rowAt s ri q.ver = some q := by unfold rowAt; rw [ho]; simp
  cases hv with | one _ _ hv =>
  obtain ⟨q1, q2, q3⟩ := row_val rel.heap hat hv
  rcases q3 with ⟨hal, rfl⟩ | ⟨_, rfl, rfl⟩
  · by_cases hk : k = 0
    · subst hk; exact .empty _ _ _
    · have hrow := rel.heap.row ri q ho
      rw [if_pos hal] at hrow
      obtain ⟨vs, tt, p1, ⟨p2, p3, p4, p5⟩, p6, p7, _, p8⟩ := hrow
      have hlen : (q.xs.take k).length = k := by simp; omega
      have hlt : ∀ (i j : Nat) (x : List D) (d : D), (q.xs.take k)[i]? = some x → x[j]? = some d → q.xs[i]? = some x ∧ i * q.sz + j < vs.size := fun i j x d h1 h2 => by
        rw [List.getElem?_take] at h1
        split at h1
        · rename_i hik
          have hj := (List.getElem?_eq_some_iff.1 h2).1
          rw [p7 x (List.mem_of_getElem? h1)] at hj
          have h3 := Nat.mul_le_mul_right q.sz (show i + 1 ≤ g.cap ri by omega)
          rw [Nat.add_mul, Nat.one_mul] at h3
          exact ⟨h1, by omega⟩
        · cases h1
      have := RD.vec (im := fun x => g.im x ∨ (q.al = true ∧ x = g.at_ (.r ri))) (w := w) q.sz (q.xs.take k) (g.at_ (.r ri)) (g.off ri + 0 * q.sz) (g.cap ri - 0) (fun i j => vs.getD (i * q.sz + j) undef) (fun e => hk (by rw [← hlen, e]; rfl)) (by omega) (.inr ⟨hal, rfl⟩)
        (fun x hx => p7 x (List.mem_of_mem_take hx))
        (fun i j x d h1 h2 => by
          obtain ⟨h3, h4⟩ := hlt i j x d h1 h2
          simp only [World.cell?, p1, Option.isSome_none, Bool.false_eq_true, if_false, p4, Nat.zero_mul, Nat.zero_add, Array.getD, h4, dif_pos]
          simp [h4])
        (fun i j x d h1 h2 => by
          obtain ⟨h3, h4⟩ := hlt i j x d h1 h2
          refine (p8 i j x d _ h3 h2 ?_).mono (fun _ h => .inl h) (fun _ _ => rfl)
          rw [p4, Nat.zero_add]
          simp [Array.getD, h4])
      rw [hlen] at this
      exact this
  · exact .empty _ _ _
/-- The first k elements of a row that is written no more, told in a box. -/
theorem W.freezeP {c : Code} {KK : Ex → St → Prop} {ri : Nat} {q : RowO} (l j : Nat) {cs : List C} {b' : List (List C)} (hq : r[ri]? = some (some q)) (hb : b[l]? = some cs) {kk : Nat} {xs' : List (List D)} (hk : cs[j]? = some (.row ri q.ver 0 kk)) (hxs : q.xs.take kk = xs') (hb' : forceL (b.set l (cs.set j (.d (.vec q.sz xs')))) = some b')
    (h : W E P n c KK ⟨t, b', r.set ri none, m⟩) : W E P n c KK ⟨t, b, r, m⟩ := by
  obtain rfl := forceL_eq hb'
  subst hxs
  have hr : ri < r.length := (List.getElem?_eq_some_iff.1 hq).1
  have hlive : ∀ x, (⟨t, b.set l (cs.set j (.d (.vec q.sz (q.xs.take kk)))), r.set ri none, m⟩ : St).live x → (⟨t, b, r, m⟩ : St).live x ∧ x ≠ .r ri := fun x hx => by
    cases x with
    | b l' => exact ⟨by have : l' < (b.set l (cs.set j (.d (.vec q.sz (q.xs.take kk))))).length := hx; show l' < b.length; simpa using this, by simp⟩
    | m l => exact ⟨hx, by simp⟩
    | r l =>
      obtain ⟨o, ho, hal⟩ := hx
      have ho : (r.set ri none)[l]? = some (some o) := ho
      by_cases e : ri = l
      · subst e; simp [List.getElem?_set, hr] at ho
      · exact ⟨⟨o, by simpa [List.getElem?_set, e] using ho, hal⟩, fun h => e (by injection h with h; exact h.symm)⟩
  refine h.weaken fun g a w rel => ?_
  have ho : (⟨t, b, r, m⟩ : St).r[ri]? = some (some q) := hq
  have hrl : q.al = true → (⟨t, b, r, m⟩ : St).live (.r ri) := fun h => ⟨q, hq, h⟩
  have ext : Ext g (⟨t, b, r, m⟩ : St).sh w ⟨fun x => g.im x ∨ (q.al = true ∧ x = g.at_ (.r ri)), g.at_, g.off, g.cap⟩ (⟨t, b.set l (cs.set j (.d (.vec q.sz (q.xs.take kk)))), r.set ri none, m⟩ : St).sh w := by
    refine ⟨fun _ h => .inl h, fun _ _ => rfl, by simp [St.sh], Nat.le_refl _, by simp [St.sh], fun _ _ => rfl, fun _ _ => rfl, fun k al ver sz' len hk' hh => ?_⟩
    by_cases e : ri = k
    · subst e; simp [St.sh, List.getElem?_set, hr] at hh
    · exact ⟨al, ver, sz', len, by simpa [St.sh, List.getElem?_set, e] using hh, Nat.le_refl _, fun _ => ⟨rfl, rfl, Nat.le_refl _, rfl, rfl, rfl⟩⟩
  refine ⟨⟨fun x => g.im x ∨ (q.al = true ∧ x = g.at_ (.r ri)), g.at_, g.off, g.cap⟩, rel.below, rel.ext.trans ext, fun x hx => ?_, fun x hx => ?_, fun x hx => rel.own x (hlive x hx).1, ⟨fun x hx => rel.heap.lt x (hlive x hx).1, fun x hx => ?_, fun x y hx hy => rel.heap.inj x y (hlive x hx).1 (hlive y hy).1, fun k ds hk' => ?_, fun k o hk' => ?_, fun k es hk' => ?_⟩, rel.size, rel.defers, fun j' hj => ?_⟩
  · rcases hx with h | ⟨h1, h2⟩
    · exact rel.imlt x h
    · rw [h2]; exact rel.heap.lt _ (hrl h1)
  · rcases hx with h | ⟨h1, h2⟩
    · exact rel.imold x h
    · rw [h2]; exact .inr (rel.own _ (hrl h1))
  · rintro (h | ⟨h1, h2⟩)
    · exact rel.heap.new x (hlive x hx).1 h
    · exact (hlive x hx).2 (rel.heap.inj x _ (hlive x hx).1 (hrl h1) h2)
  · have hk2 : (b.set l (cs.set j (.d (.vec q.sz (q.xs.take kk)))))[k]? = some ds := hk'
    by_cases hql : l = k
    · subst hql
      have hlt := (List.getElem?_eq_some_iff.1 hb).1
      have hds : cs.set j (.d (.vec q.sz (q.xs.take kk))) = ds := by simpa [List.getElem?_set, hlt] using hk2
      obtain ⟨vs, ty, h1, h2, h3⟩ := rel.heap.box l cs hb
      refine ⟨vs, ty, h1, by rw [← hds]; simpa using h2, fun i c v hc hv => ?_⟩
      rw [← hds, List.getElem?_set] at hc
      split at hc
      · rename_i hjk
        subst hjk
        split at hc
        · simp only [Option.some.injEq] at hc
          subst hc
          exact .d _ _ (row_RDp rel ho (.one _ _ (h3 j _ v hk hv)))
        · cases hc
      · exact (h3 i c v hc hv).mono ext
    · obtain ⟨vs, ty, h1, h2, h3⟩ := rel.heap.box k ds (by simpa [List.getElem?_set, hql] using hk2)
      exact ⟨vs, ty, h1, h2, fun i c v hc hv => (h3 i c v hc hv).mono ext⟩
  · have hk' : (r.set ri none)[k]? = some (some o) := hk'
    by_cases e : ri = k
    · subst e; simp [List.getElem?_set, hr] at hk'
    · have h1 := rel.heap.row k o (by simpa [List.getElem?_set, e] using hk')
      by_cases hal : o.al = true
      · rw [if_pos hal] at h1 ⊢
        obtain ⟨vs, t', q1, q2, q3, q4, q5, q6⟩ := h1
        exact ⟨vs, t', q1, q2, q3, q4, q5, fun i j x d v p1 p2 p3 => (q6 i j x d v p1 p2 p3).mono ext.im ext.same⟩
      · rw [if_neg hal] at h1 ⊢; exact h1
  · obtain ⟨arr, clock, h1, h2, h3⟩ := rel.heap.map k es hk'
    exact ⟨arr, clock, h1, h2, fun i x e hx he => ⟨(h3 i x e hx he).1.mono ext, (h3 i x e hx he).2.mono ext⟩⟩
  · exact (rel.tmps j' hj).mono ext
end
end Go.Proofs.YtnphejkeflngcaaGreatDoor

/- Maps: made, looked up, stored into, struck out, counted. -/
set_option linter.unusedVariables false
set_option linter.unusedSimpArgs false
namespace Go.Proofs.YtnphejkeflngcaaGreatDoor
open Go Go.RowKit
section
variable {α β : Type} (same : α → α → Bool)
end
section
variable {α β : Type} {kind : TypeDesc} {enc : α → D} {val : α → Value} {same : α → α → Bool}
variable {J : Inv} {k0 : Lens} {E : Env J k0} {P : Program} {T : TypeId → Option TI} {n : Nat} {t : Nat → V} {b : List (List C)} {r : List (Option RowO)} {m : List (List (DV × DV))} {ops : Array Oper} {l : List Oper}
  {K : St → Prop} {i : Nat} {ty : TypeId} {pos : String} {after : Array Edge}
end
end Go.Proofs.YtnphejkeflngcaaGreatDoor

/- An own row's element loaded; calls that look at boxes in regions that draw their order; a region of which a first part alone draws. -/
set_option linter.unusedVariables false
set_option linter.unusedSimpArgs false
namespace Go.Proofs.YtnphejkeflngcaaGreatDoor
open Go Go.RowKit
section
variable {J : Inv} {k0 : Lens} {E : Env J k0} {P : Program} {T : TypeId → Option TI} {n : Nat} {t : Nat → V} {b : List (List C)} {r : List (Option RowO)} {m : List (List (DV × DV))} {ops : Array Oper} {l : List Oper}
  {K : St → Prop} {i : Nat} {ty : TypeId} {pos : String} {after : Array Edge} {md : Region.Mode}
/-- What a load out of an own row yields, the row's element being told. -/
theorem pv_rload (hT : TabOk P T) {s : St} {o : Oper} {te : TypeId} {ti : TI} {x : Operand} {ri ver kk fo : Nat} {q : RowO} {xd : List D} {v : V} (hop : o.op = .load te x) (hti : T te = some ti) (hx : opd n s x = (true, .one (.rptr ri ver kk fo))) (hq : rowAt s ri ver = some q)
    (hk : q.xs.getD kk [] = xd) (hp : partC ti (xd.map .d) fo = some v) : Pv E P n o v s := by
  intro g a w rel
  have h := opd_ok rel hx rfl
  obtain ⟨z, h1, h2⟩ := evLoad_ok (P := P) (t := te) (u := .one (.rptr ri ver kk fo)) (r := v) hT rel.heap (by unfold evLoad; simp only [hti, hq, hk]; exact hp) h
  refine ⟨z, ?_, h2⟩
  simp only [execOp, hop, Sem.run_bind, h1, Result.andThen_ok, Sem.run_pure]
theorem S.rload (hT : TabOk P T) {te : TypeId} {ti : TI} {x : Operand} {ri ver kk fo : Nat} {q : RowO} {xd : List D} {v0 v : V} (hti : T te = some ti) (hx : opd n ⟨t, b, r, m⟩ x = (true, .one (.rptr ri ver kk fo))) (hq : rowAt ⟨t, b, r, m⟩ ri ver = some q)
    (hk : q.xs.getD kk [] = xd) (hp : partC ti (xd.map .d) fo = some v0) (hf : forceV v0 = some v) (k : WL E P n ops l K ⟨upd t i v, b, r, m⟩) : WL E P n ops (⟨some i, .load te x, ty, pos, after, none⟩ :: l) K ⟨t, b, r, m⟩ := by
  obtain rfl := forceV_eq hf
  intro g a w rel next Q hn
  have hw : Region.wanted (⟨some i, .load te x, ty, pos, after, none⟩ : Oper) (yielded ops a.tmps) = true := by simp [Region.wanted]
  rw [if_pos hw]
  obtain ⟨z, h1, h2⟩ := pv_rload (o := ⟨some i, .load te x, ty, pos, after, none⟩) hT rfl hti hx hq hk hp g a w rel
  unfold Oper.wp
  rw [h1]
  exact hn _ g _ _ k (rel.put_same (some i) h2)
theorem D.rload (hT : TabOk P T) {te : TypeId} {ti : TI} {x : Operand} {ri ver kk fo : Nat} {q : RowO} {xd : List D} {v0 v : V} (hti : T te = some ti) (hx : opd n ⟨t, b, r, m⟩ x = (true, .one (.rptr ri ver kk fo))) (hq : rowAt ⟨t, b, r, m⟩ ri ver = some q)
    (hk : q.xs.getD kk [] = xd) (hp : partC ti (xd.map .d) fo = some v0) (hf : forceV v0 = some v) (k : WD E P n ops l K ⟨upd t i v, b, r, m⟩) : WD E P n ops (⟨some i, .load te x, ty, pos, after, none⟩ :: l) K ⟨t, b, r, m⟩ := by
  obtain rfl := forceV_eq hf
  obtain ⟨o, ho⟩ : ∃ o : Oper, o = ⟨some i, .load te x, ty, pos, after, none⟩ := ⟨_, rfl⟩
  rw [← ho]
  have hop : o.op = .load te x := by rw [ho]
  have hm : x ∈ o.op.operands.toList := by rw [hop]; simp [Op.operands]
  refine ⟨v0, b, .of (.inr (by rw [hop]; rfl)) (fun t' b1 ht hb => .of_run (by rw [ho]) (.of_pv (pv_rload (ri := ri) (ver := ver) hT hop hti ?_ ?_ hk hp))), by rw [ho]; exact k⟩
  · rw [looks_opd (b := b) hm ht]; exact hx
  · exact hq
/-- A call that leaves all as it was. -/
theorem run_hcall {o : Oper} {fo : Operand} {args : Array Operand} {ats : Array TypeId} (ho : o.op = .call { callee := .value fo, args, argTypes := ats }) {u : V} {f : FuncId} {caps : List C} {us : List V} {rv : V}
    (hu : opd n ⟨t, b, r, m⟩ fo = (true, u)) (hc : calleeV u = some (f, caps)) (ha : allOpdL n ⟨t, b, r, m⟩ args.toList = (true, us)) (pc : HCall P J f (us ++ caps.map V.one) b r m (isH rv b r m)) :
    RunV E P n o t b r m rv b := by
  intro g a w rel next Qx hn
  obtain ⟨fn, hf, h1, h2⟩ := pc.enter
  obtain ⟨vs, hl, hx, hrun⟩ := call_run rel ho hu hc hf h1 h2
  obtain ⟨hal, hav⟩ := allOpdL_ok rel _ _ _ ha rfl
  have hall := capsV_ok (s := ⟨t, b, r, m⟩) (g := g) (w := w) (us := us) (caps := caps) (ws := args.toList.map a.eval) (vs := vs) (by simp [hal]) hav hl hx
  have hN : ∀ x, (hst b r m).live x → J.N ≤ g.at_ x := fun x hx => by
    rcases rel.own x (live_t hx) with h | h
    · exact E.hN _ h
    · exact Nat.le_trans (J.lt _ E.hI) h
  have hcall := pc.calls g w (args.toList.map a.eval ++ vs) rel.inv rel.imlt (rel.heap.t _) hN (by simp [hal, hl]) hall
  unfold Oper.wp
  rw [hrun]
  show Calls P f _ w _
  refine hcall.mono ?_
  rintro e w' ⟨v, g', rv', b', r', m', rfl, p2, p3, p4, p5, p6, p7, p8, q1, q2, q3, q4⟩
  subst q1; subst q2; subst q3; subst q4
  exact hn v g' w' (fun t1 a1 h => h.behind p2 p3 p4 p5 p6 p7) p8
theorem D.hcallD {fo : Operand} {args : Array Operand} {ats : Array TypeId} {u : V} {f : FuncId} {caps : List C} {us ws : List V} {rv : V} (hu : opd n ⟨t, b, r, m⟩ fo = (true, u)) (hc : calleeV u = some (f, caps))
    (ha : allOpdL n ⟨t, b, r, m⟩ args.toList = (true, us)) (hw : forceVs (appL us (caps.map V.one)) = some ws) (pc : HCall P J f ws b r m (isH rv b r m))
    (k : WD E P n ops l K ⟨upd t i rv, b, r, m⟩) : WD E P n ops (⟨some i, .call ⟨.value fo, args, ats⟩, ty, pos, after, none⟩ :: l) K ⟨t, b, r, m⟩ := by
  obtain rfl := forceVs_eq hw
  rw [appL_eq] at pc
  obtain ⟨o, ho⟩ : ∃ o : Oper, o = ⟨some i, .call ⟨.value fo, args, ats⟩, ty, pos, after, none⟩ := ⟨_, rfl⟩
  rw [← ho]
  have hop : o.op = .call ⟨.value fo, args, ats⟩ := by rw [ho]
  have hm : o.op.operands.toList = fo :: args.toList := by rw [hop]; simp [Op.operands, Call.operands]
  have hcl : cls o.op = 1 := by rw [hop]; rfl
  refine ⟨rv, b, .of (.inr hcl) (fun t' b1 ht hb => ?_), by rw [ho]; exact k⟩
  obtain rfl : b1 = b := hb.resolve_left (by rw [hcl]; simp)
  refine .of_run (by rw [ho]) (run_hcall hop (u := u) ?_ hc ?_ pc)
  · rw [looks_opd (b := b1) (by rw [hm]; simp) ht]; exact hu
  · rw [← ha]; exact allOpdL_congr _ (fun p hp => looks_opd (b := b1) (by rw [hm]; exact List.mem_cons_of_mem _ hp) ht)
def AnyC {J : Inv} {k0 : Lens} (E : Env J k0) (P : Program) (n : Nat) (md : Region.Mode) (ops : Array Oper) (r : List (Option RowO)) (m : List (List (DV × DV))) (K : Array Bool → (Nat → V) → List (List C) → Prop) : Nat → Array Bool → (Nat → V) → List (List C) → Prop
  | 0, listed, t, b => K listed t b
  | fuel + 1, listed, t, b => Region.ready md ops listed ≠ [] ∧ ∀ i ∈ Region.ready md ops listed, qD E P n ops r m i (AnyC E P n md ops r m K fuel (listed.setIfInBounds i true)) t b
theorem wpAny_of_AnyC {f2 : Nat} {K : Array Bool → (Nat → V) → List (List C) → Prop} {Q : Exit → Act → World → Prop} (hQ : ∀ listed t b g a w, K listed t b → Rel E n g ⟨t, b, r, m⟩ a w → wpAny P md ops Q f2 listed a w) :
    ∀ (fuel : Nat) (listed : Array Bool) (t : Nat → V) (b : List (List C)) (g : Gh) (a : Act) (w : World), Rel E n g ⟨t, b, r, m⟩ a w → AnyC E P n md ops r m K fuel listed t b → wpAny P md ops Q (f2 + fuel) listed a w
  | 0, listed, t, b, g, a, w, rel, h => hQ _ _ _ _ _ _ h rel
  | fuel + 1, listed, t, b, g, a, w, rel, h => by
    refine ⟨fun h0 => absurd h0 h.1, fun i hi => ?_⟩
    have hq := h.2 i hi
    unfold qD at hq
    unfold wpOp
    split
    · rename_i ho; simp only [ho] at hq; exact wpAny_of_AnyC hQ fuel _ t b g a w rel hq
    · rename_i o ho
      simp only [ho] at hq
      obtain ⟨v, b', h1, h2⟩ := hq
      have h3 := (h1 t (fun _ _ => rfl)).2.2 g a w rel (wpAny P md ops Q (f2 + fuel) (listed.setIfInBounds i true)) Q (fun z g' w' hl hv => wpAny_of_AnyC hQ fuel _ _ _ g' _ _ (Tr.rel rel hl hv) h2)
      split
      · rename_i hw; rw [if_pos hw] at h3; exact .inl h3
      · rename_i hw; rw [if_neg hw] at h3; exact h3
theorem anyC_first {K : (Nat → V) → List (List C) → Prop} {L1 : Array Bool} {i : Nat} {oi : Oper} {vi : V} (hi : ops[i]? = some oi) (hdep : ∀ j oj, ops[j]? = some oj → L1.getD j true = false → DepOn md ops j i) :
    ∀ (fuel : Nat) (listed : Array Bool) (t : Nat → V) (b : List (List C)) (bi : List (List C)), Closed md ops listed →
      (∀ j oj, ops[j]? = some oj → j ≠ i → listed.getD j true = false → DepOn md ops j i ∨ (oi.apart ops oj = true ∧ compat (cls oi.op) (cls oj.op) = true)) →
      i ∈ Region.ready md ops listed → TrA E P n ops r m oi t b vi bi →
      AnyC E P n md ops r m (fun l t b => l = L1 ∧ K t b) fuel (listed.setIfInBounds i true) (updO t oi.dst vi) bi → AnyC E P n md ops r m (fun l t b => l = L1 ∧ K t b) (fuel + 1) listed t b := by
  intro fuel
  induction fuel with
  | zero =>
    intro listed t b bi hcl hfree hr hy H
    refine ⟨fun h => (by rw [h] at hr; cases hr), fun j hj => ?_⟩
    by_cases hji : j = i
    · subst hji; unfold qD; simp only [hi]; exact ⟨vi, bi, hy, H⟩
    · exfalso
      obtain ⟨hjun, oj, hoj, hall⟩ := mem_ready.1 hj
      have hiun := (mem_ready.1 hr).1
      have h1 : L1.getD j true = false := by rw [← H.1, getD_set_ne true (Ne.symm hji)]; exact hjun
      have h2 := dep_ready hcl (hdep j oj hoj h1) hj
      rcases Nat.lt_or_ge i listed.size with h' | h'
      · simp [h'] at hiun h2; rw [hiun] at h2; cases h2
      · simp [Array.getD_eq_getD_getElem?, Array.getElem?_eq_none h'] at h2
  | succ fuel ih =>
    intro listed t b bi hcl hfree hr hy H
    refine ⟨fun h => (by rw [h] at hr; cases hr), fun j hj => ?_⟩
    by_cases hji : j = i
    · subst hji; unfold qD; simp only [hi]; exact ⟨vi, bi, hy, H⟩
    · have h1 := H.2 j (ready_mono hj hji)
      obtain ⟨hjun, oj, hoj, hall⟩ := mem_ready.1 hj
      have hiun := (mem_ready.1 hr).1
      have hnd : ¬ DepOn md ops j i := fun hd => by
        have h2 := dep_ready hcl hd hj
        rcases Nat.lt_or_ge i listed.size with h' | h'
        · simp [h'] at hiun h2; rw [hiun] at h2; cases h2
        · simp [Array.getD_eq_getD_getElem?, Array.getElem?_eq_none h'] at h2
      obtain ⟨hap, hco⟩ := (hfree j oj hoj hji hjun).resolve_left hnd
      unfold qD at h1 ⊢
      simp only [hoj] at h1 ⊢
      obtain ⟨vj, bij, hyj, hK⟩ := h1
      obtain ⟨bj, k1, k2⟩ := swap hap hco hy hyj
      refine ⟨vj, bj, k1, ih (listed.setIfInBounds j true) _ bj bij (closed_set hcl hj) (fun k ok hk hki hun => hfree k ok hk hki ?_) (ready_mono hr (Ne.symm hji)) k2 ?_⟩
      · by_cases hjk : j = k
        · subst hjk; exact hjun
        · rwa [getD_set_ne true hjk] at hun
      · rw [Array.setIfInBounds_comm _ _ hji, ← updO_comm _ _ _ (Oper.apart_spec hap).2.1]
        exact hK
def endL : Nat → Nat → Array Bool → Array Bool
  | 0, _, listed => listed
  | f + 1, k, listed => endL f (k + 1) (listed.setIfInBounds k true)
/-- What is not listed at the end of the first part waits for operation k. -/
def tailD (md : Region.Mode) (ops : Array Oper) (L1 : Array Bool) (k : Nat) : Bool := (List.range ops.size).all fun j => L1.getD j true || depB md ops ops.size j k
def lexC (md : Region.Mode) (ops : Array Oper) (L1 : Array Bool) : Nat → Nat → Array Bool → Bool
  | 0, _, _ => true
  | f + 1, k, listed => (Region.ready md ops listed).contains k && freeD md ops listed k && tailD md ops L1 k && lexC md ops L1 f (k + 1) (listed.setIfInBounds k true)
/-- The rest goes in one order. -/
def seqC (md : Region.Mode) (ops : Array Oper) : Nat → Nat → Array Bool → Bool
  | 0, _, listed => (Region.ready md ops listed).isEmpty
  | f + 1, k, listed => (match Region.ready md ops listed with | [j] => Nat.beq j k | _ => false) && seqC md ops f (k + 1) (listed.setIfInBounds k true)
theorem anyC_lex {K : (Nat → V) → List (List C) → Prop} {L1 : Array Bool} : ∀ (l : List Oper) (k : Nat) (listed : Array Bool) (t : Nat → V) (b : List (List C)), (∀ j, j < l.length → l[j]? = ops[k + j]?) → Closed md ops listed →
    lexC md ops L1 l.length k listed = true → endL l.length k listed = L1 → WD E P n ops l (fun s => K s.t s.b) ⟨t, b, r, m⟩ → AnyC E P n md ops r m (fun l t b => l = L1 ∧ K t b) l.length listed t b
  | [], k, listed, t, b, hl, hc, hB, he, h => ⟨he, h⟩
  | o :: l, k, listed, t, b, hl, hc, hB, he, h => by
    have h0 : ops[k]? = some o := by simpa using (hl 0 (by simp)).symm
    simp only [List.length_cons, lexC, Bool.and_eq_true] at hB
    obtain ⟨⟨⟨hr, hf⟩, ht⟩, hB'⟩ := hB
    obtain ⟨v, b', hy, hK⟩ := h
    have hr' : k ∈ Region.ready md ops listed := by simpa using hr
    refine anyC_first h0 (fun j oj hj hun => ?_) l.length listed t b b' hc (freeD_spec h0 hf) hr' hy
      (anyC_lex l (k + 1) _ _ _ (fun j hj => by have := hl (j + 1) (by simpa using hj); simpa [Nat.add_assoc, Nat.add_comm 1 j] using this) (closed_set hc hr') hB' he hK)
    unfold tailD at ht
    have := (List.all_eq_true.1 ht) j (List.mem_range.2 (Array.getElem?_eq_some_iff.1 hj).1)
    rw [hun, Bool.false_or] at this
    exact depB_dep _ _ _ this
theorem wpAny_of_seq {K : St → Prop} {Q : Exit → Act → World → Prop} (hQ : ∀ s g a w, K s → Rel E n g s a w → Q .normal a w) :
    ∀ (l : List Oper) (k : Nat) (listed : Array Bool) (s : St) (g : Gh) (a : Act) (w : World), (∀ j, l[j]? = ops[k + j]?) → seqC md ops l.length k listed = true → Rel E n g s a w → WL E P n ops l K s → wpAny P md ops Q l.length listed a w
  | [], k, listed, s, g, a, w, hl, hB, rel, h => ⟨by simpa [seqC] using hB, hQ _ _ _ _ h rel⟩
  | o :: l, k, listed, s, g, a, w, hl, hB, rel, h => by
    have h0 : ops[k]? = some o := by simpa using (hl 0).symm
    simp only [List.length_cons, seqC, Bool.and_eq_true] at hB
    obtain ⟨hr, hB'⟩ := hB
    split at hr
    · rename_i j hj
      have hjk : j = k := Nat.eq_of_beq_eq_true hr
      subst hjk
      refine ⟨fun h0 => (by rw [hj] at h0; cases h0), fun i hi => ?_⟩
      rw [hj, List.mem_singleton] at hi
      subst hi
      unfold wpOp
      rw [h0]
      have h3 := h g a w rel (wpAny P md ops Q l.length (listed.setIfInBounds i true)) Q (fun s' g' a' w' hk rel' =>
        wpAny_of_seq hQ l (i + 1) _ s' g' a' w' (fun j => by have := hl (j + 1); simpa [Nat.add_assoc, Nat.add_comm 1 j] using this) hB' rel' hk)
      simp only
      split
      · rename_i hw; rw [if_pos hw] at h3; exact .inl h3
      · rename_i hw; rw [if_neg hw] at h3; exact h3
    · cases hr
def cutF : Nat → List Oper → Option (List Oper × List Oper)
  | 0, l => some ([], l)
  | _ + 1, [] => none
  | k + 1, x :: l => match cutF k l with | some (p, q) => some (x :: p, q) | none => none
theorem cutF_eq : ∀ {k : Nat} {l p q : List Oper}, cutF k l = some (p, q) → l = p ++ q
  | 0, l, p, q, h => by simp only [cutF, Option.some.injEq, Prod.mk.injEq] at h; obtain ⟨rfl, rfl⟩ := h; rfl
  | k + 1, [], p, q, h => by cases h
  | k + 1, x :: l, p, q, h => by
    unfold cutF at h
    split at h
    · rename_i p' q' hc
      simp only [Option.some.injEq, Prod.mk.injEq] at h
      obtain ⟨rfl, rfl⟩ := h
      rw [cutF_eq hc]; rfl
    · cases h
def regC (ops : Array Oper) (k1 k2 : Nat) : Bool :=
  lexC .any ops (endL k1 0 (Array.replicate ops.size false)) k1 0 (Array.replicate ops.size false) && seqC .any ops k2 k1 (endL k1 0 (Array.replicate ops.size false))
/-- **A region that draws its order, of which the operations from number k on wait for all ahead of them.** -/
theorem W.regionC {id : Nat} {l l1 l2 : List Oper} {K : Ex → St → Prop} {s : St} (k : Nat) (hm : P.follows .mixedOrders = true) (hc : cutF k l = some (l1, l2)) (hB : regC l.toArray l1.length l2.length = true)
    (h : WD E P n l.toArray l1 (fun s1 => WL E P n l.toArray l2 (K .normal) s1) s) : W E P n (.region id l.toArray true) K s := by
  have hl := cutF_eq hc
  unfold regC at hB
  simp only [Bool.and_eq_true] at hB
  obtain ⟨hB1, hB2⟩ := hB
  intro g a w rel
  refine wp_region_any hm ?_
  have rel' := rel.drew (w.drawn + 1)
  obtain ⟨t, b, r, m⟩ := s
  have hcl : Closed .any l.toArray (Array.replicate l.toArray.size false) := fun j o e ho hl _ _ => by
    simp [Array.getD_eq_getD_getElem?, Array.getElem?_replicate] at hl
    split at hl <;> simp_all
  have hsz : l.toArray.size = l2.length + l1.length := by rw [hl]; simp; omega
  have hWD : ∀ (l' : List Oper) (t : Nat → V) (b : List (List C)), WD E P n l.toArray l' (fun s1 => WL E P n l.toArray l2 (K .normal) s1) ⟨t, b, r, m⟩ → WD E P n l.toArray l' (fun s1 => WL E P n l.toArray l2 (K .normal) ⟨s1.t, s1.b, r, m⟩) ⟨t, b, r, m⟩ := by
    intro l'
    induction l' with
    | nil => intro t b h; exact h
    | cons o l' ih => intro t b ⟨v, b', h1, h2⟩; exact ⟨v, b', h1, ih _ _ h2⟩
  have hx := anyC_lex (md := .any) (ops := l.toArray) (r := r) (m := m) (K := fun t b => WL E P n l.toArray l2 (K .normal) ⟨t, b, r, m⟩) l1 0 (Array.replicate l.toArray.size false) t b (fun j hj => by
    rw [Nat.zero_add]; simp only [List.getElem?_toArray]; rw [hl, List.getElem?_append_left hj]) hcl hB1 rfl (hWD l1 t b h)
  have key := wpAny_of_AnyC (f2 := l2.length) (Q := fun e a' w' => ∃ x s' g', e = Ex.exit' x ∧ K x s' ∧ Rel E n g' s' a' w') (fun listed t b g a w hk rel => ?_) l1.length _ t b g a _ rel' hx
  · rw [← hsz] at key; exact key
  obtain ⟨rfl, hk⟩ := hk
  refine wpAny_of_seq (fun s g a w hk rel => ⟨.normal, s, g, rfl, hk, rel⟩) l2 l1.length _ _ g a w (fun j => ?_) hB2 rel hk
  simp only [List.getElem?_toArray]
  rw [hl, List.getElem?_append_right (by omega)]
  congr 1
  omega
end
end Go.Proofs.YtnphejkeflngcaaGreatDoor

/- Plain words: the pieces between all ends; what the reference makes of them is what the program makes. -/
set_option linter.unusedVariables false
set_option linter.unusedSimpArgs false
namespace Go.Proofs.YtnphejkeflngcaaGreatDoor
open Go
/-- A row without those that are the same aa the one ahead of them. -/
def compactG {α : Type} (eq : α → α → Bool) : α → List α → List α
  | _, [] => []
  | p, y :: l => if eq y p then compactG eq y l else y :: compactG eq y l
def compactF {α : Type} (eq : α → α → Bool) : List α → List α
  | [] => []
  | x :: l => x :: compactG eq x l
def sameV (x y : Ver) : Bool := orderB x y == 0
theorem sameV_eq {x y : Ver} (h : sameV x y = true) : x = y := order_0 (by simpa [sameV] using h)
theorem compactG_mem : ∀ {l : List Ver} {p v : Ver}, (v = p ∨ v ∈ compactG sameV p l) ↔ (v = p ∨ v ∈ l)
  | [], p, v => Iff.rfl
  | y :: l, p, v => by
    have ih := compactG_mem (l := l) (p := y) (v := v)
    unfold compactG
    by_cases h : sameV y p = true
    · rw [if_pos h]
      obtain rfl := sameV_eq h
      rw [ih]; simp
    · rw [if_neg h]
      simp only [List.mem_cons]
      rw [ih]
theorem compactF_mem {l : List Ver} {v : Ver} : v ∈ compactF sameV l ↔ v ∈ l := by
  cases l with
  | nil => exact Iff.rfl
  | cons x l => have := compactG_mem (l := l) (p := x) (v := v); simpa [compactF] using this
theorem compactG_sorted {pts : List Ver} : ∀ {l : List Ver} {p : Ver}, p ∈ pts → (∀ v ∈ l, v ∈ pts) → (∀ v ∈ l, keyB pts p ≤ keyB pts v) → l.Pairwise (fun x y => keyB pts x ≤ keyB pts y) →
    (compactG sameV p l).Pairwise (fun x y => keyB pts x < keyB pts y) ∧ ∀ v ∈ compactG sameV p l, keyB pts p < keyB pts v
  | [], p, _, _, _, _ => ⟨List.Pairwise.nil, fun v hv => by cases hv⟩
  | y :: l, p, hp, hm, hle, hs => by
    have hs' := List.pairwise_cons.1 hs
    have ih := compactG_sorted (l := l) (p := y) (hm y List.mem_cons_self) (fun v hv => hm v (List.mem_cons_of_mem _ hv)) hs'.1 hs'.2
    unfold compactG
    by_cases h : sameV y p = true
    · rw [if_pos h]
      obtain rfl := sameV_eq h
      exact ih
    · rw [if_neg h]
      have hlt : keyB pts p < keyB pts y := by
        have h1 := hle y List.mem_cons_self
        rcases Int.lt_or_eq_of_le h1 with h2 | h2
        · exact h2
        · exact absurd (show sameV y p = true by rw [(key_iff hp (hm y List.mem_cons_self)).2 h2]; unfold sameV; rw [order_refl]; rfl) h
      refine ⟨List.pairwise_cons.2 ⟨ih.2, ih.1⟩, fun v hv => ?_⟩
      rcases List.mem_cons.1 hv with rfl | hv
      · exact hlt
      · have := ih.2 v hv; omega
theorem compactF_sorted {pts l : List Ver} (hm : ∀ v ∈ l, v ∈ pts) (hs : l.Pairwise (fun x y => keyB pts x ≤ keyB pts y)) : Sorted pts (compactF sameV l) := by
  cases l with
  | nil => exact List.Pairwise.nil
  | cons x l =>
    have hs' := List.pairwise_cons.1 hs
    have := compactG_sorted (hm x List.mem_cons_self) (fun v hv => hm v (List.mem_cons_of_mem _ hv)) hs'.1 hs'.2
    exact List.pairwise_cons.2 ⟨this.2, this.1⟩
/-- Whether a range has the piece that begins at the k-th end (0: what is ahead of all ends). -/
def pieceR (E : List Ver) (l : List Sp) (k : Nat) : Bool := if k = 0 then l.any (fun s => !s.hf) else l.any (fun s => insideR s (E.getD (k - 1) Ver.z))
theorem any_congr' {α : Type} {p q : α → Bool} : ∀ {l : List α}, (∀ x ∈ l, p x = q x) → l.any p = l.any q
  | [], _ => rfl
  | x :: l, h => by
    rw [List.any_cons, List.any_cons, h x List.mem_cons_self, any_congr' (fun y hy => h y (List.mem_cons_of_mem _ hy))]
theorem piece_0 {pts E : List Ver} {l : List Sp} : pieceR E l 0 = memK pts l (-1) := by
  unfold pieceR memK
  rw [if_pos rfl]
  refine any_congr' fun s _ => ?_
  have h1 := lo_ge (pts := pts) s
  have h2 := lo_m (pts := pts) (s := s)
  have h3 := hi_ge (pts := pts) s
  rw [Bool.eq_iff_iff]
  simp only [Bool.not_eq_true', Bool.and_eq_true, decide_eq_true_eq]
  constructor
  · intro h; have := h2.2 h; omega
  · intro h; exact h2.1 (by omega)
theorem piece_s {pts E : List Ver} {l : List Sp} (hl : Norm pts l) (hc : ∀ s ∈ l, s.f.check = 0 ∧ s.t.check = 0) {k : Nat} (he : E.getD k Ver.z ∈ pts) (hk : (E.getD k Ver.z).check = 0) :
    pieceR E l (k + 1) = memK pts l (keyB pts (E.getD k Ver.z)) := by
  unfold pieceR memK
  rw [if_neg (by omega), Nat.add_sub_cancel]
  exact any_congr' fun s hs => inside_eq (hl.sp s hs) (hc s hs).1 (hc s hs).2 he hk
/-- The reference's loop: whether a span is open, the spans so far. -/
def firstS (E : List Ver) (k : Nat) : Sp := if k = 0 then Sp.z else ⟨true, false, E.getD (k - 1) Ver.z, Ver.z⟩
def closeS (v : Ver) (s : Sp) : Sp := ⟨s.hf, true, s.f, v⟩
def closeL (v : Ver) : List Sp → List Sp
  | [] => []
  | [s] => [closeS v s]
  | s :: u :: l => s :: closeL v (u :: l)
theorem closeL_snoc (v : Ver) (s : Sp) : ∀ (l : List Sp), closeL v (l ++ [s]) = l ++ [closeS v s]
  | [] => rfl
  | [x] => rfl
  | x :: y :: l => by
    show x :: closeL v (y :: l ++ [s]) = _
    rw [closeL_snoc v s (y :: l)]; rfl
theorem closeL_len (v : Ver) : ∀ (l : List Sp), (closeL v l).length = l.length
  | [] => rfl
  | [x] => rfl
  | x :: y :: l => by
    show (x :: closeL v (y :: l)).length = _
    simp [closeL_len v (y :: l)]
def comStep (E : List Ver) (F : Nat → Bool) (st : Bool × List Sp) (k : Nat) : Bool × List Sp :=
  (F k, if F k && !st.1 then st.2 ++ [firstS E k] else if !F k && st.1 then closeL (E.getD (k - 1) Ver.z) st.2 else st.2)
def comTo (E : List Ver) (F : Nat → Bool) : Nat → Bool × List Sp
  | 0 => (false, [])
  | k + 1 => comStep E F (comTo E F k) k
theorem com_scan {E : List Ver} {F : Nat → Bool} {g : Ver → Bool} (hg : ∀ k, k < E.length → F (k + 1) = g (E.getD k Ver.z)) :
    (comTo E F (E.length + 1)).2 = scanS (if F 0 then some Sp.z else none) (E.map fun e => (e, g e)) := by
  have key : ∀ j, j ≤ E.length →
      ((comTo E F (j + 1)).1 = true → ∃ r s, (comTo E F (j + 1)).2 = r ++ [s] ∧ r ++ scanS (some s) ((E.drop j).map fun e => (e, g e)) = scanS (if F 0 then some Sp.z else none) (E.map fun e => (e, g e))) ∧
      ((comTo E F (j + 1)).1 = false → (comTo E F (j + 1)).2 ++ scanS none ((E.drop j).map fun e => (e, g e)) = scanS (if F 0 then some Sp.z else none) (E.map fun e => (e, g e))) := by
    intro j
    induction j with
    | zero =>
      intro _
      have e1 : comTo E F 1 = (F 0, if F 0 then [Sp.z] else []) := by
        show comStep E F (false, []) 0 = _
        unfold comStep firstS
        cases F 0 <;> rfl
      rw [e1, List.drop_zero]
      cases h : F 0
      · exact ⟨fun h => by simp at h, fun _ => rfl⟩
      · exact ⟨fun _ => ⟨[], Sp.z, rfl, rfl⟩, fun h => by simp at h⟩
    | succ j ih =>
      intro hj
      obtain ⟨ih1, ih2⟩ := ih (by omega)
      have hd : (E.drop j).map (fun e => (e, g e)) = (E.getD j Ver.z, g (E.getD j Ver.z)) :: (E.drop (j + 1)).map (fun e => (e, g e)) := by
        rw [List.drop_eq_getElem_cons (show j < E.length by omega), List.map_cons, List.getD_eq_getElem?_getD, List.getElem?_eq_getElem (show j < E.length by omega)]; rfl
      rw [hd] at ih1 ih2
      have hF := hg j (by omega)
      have e1 : comTo E F (j + 1 + 1) = comStep E F (comTo E F (j + 1)) (j + 1) := rfl
      have e2 : firstS E (j + 1) = ⟨true, false, E.getD j Ver.z, Ver.z⟩ := by unfold firstS; rw [if_neg (by omega), Nat.add_sub_cancel]
      rw [e1]
      generalize hst : comTo E F (j + 1) = st at *
      obtain ⟨op, r⟩ := st
      unfold comStep
      rw [e2, Nat.add_sub_cancel, hF]
      cases hgv : g (E.getD j Ver.z) <;> cases op
      · rw [hgv] at ih2
        refine ⟨fun h => by simp at h, fun _ => ?_⟩
        exact ih2 rfl
      · rw [hgv] at ih1
        obtain ⟨q, s, h1, h2⟩ := ih1 rfl
        refine ⟨fun h => by simp at h, fun _ => ?_⟩
        simp only at h1
        simp only [Bool.false_and, Bool.false_eq_true, if_false, Bool.not_false, Bool.true_and, if_true]
        rw [h1, closeL_snoc, ← h2]
        simp [scanS, closeS]
      · rw [hgv] at ih2
        refine ⟨fun _ => ⟨r, ⟨true, false, E.getD j Ver.z, Ver.z⟩, by simp, ?_⟩, fun h => by simp at h⟩
        exact ih2 rfl
      · rw [hgv] at ih1
        obtain ⟨q, s, h1, h2⟩ := ih1 rfl
        refine ⟨fun _ => ⟨q, s, by simpa using h1, ?_⟩, fun h => by simp at h⟩
        exact h2
  obtain ⟨k1, k2⟩ := key E.length (Nat.le_refl _)
  rw [List.drop_length] at k1 k2
  cases h : (comTo E F (E.length + 1)).1 with
  | true => obtain ⟨r, s, h1, h2⟩ := k1 h; rw [h1, ← h2]; rfl
  | false => rw [← k2 h]; simp [scanS]
/-- What is said of the ends: all of two ranges' ends, in order, each once. -/
structure SegOk (aa bb : List Sp) (E : List Ver) : Prop where
  mem : ∀ v, v ∈ E ↔ v ∈ endsOf (aa ++ bb)
  row : Sorted (endsOf (aa ++ bb)) E
def bothR (aa bb : List Sp) (E : List Ver) (k : Nat) : Bool := pieceR E aa k && pieceR E bb k
section
variable {aa bb : List Sp} {E : List Ver} (ha : rangeE aa = 0) (hb : rangeE bb = 0) (hE : SegOk aa bb E)
include ha hb hE
omit hE in
theorem seg_norm : Norm (endsOf (aa ++ bb)) aa ∧ Norm (endsOf (aa ++ bb)) bb :=
  ⟨range_norm ha (fun s hs => ends_in (List.mem_append_left _ hs)), range_norm hb (fun s hs => ends_in (List.mem_append_right _ hs))⟩
omit hE in
theorem ends_check : ∀ v ∈ endsOf (aa ++ bb), v.check = 0 := by
  intro v hv
  unfold endsOf at hv
  obtain ⟨l, hl, hv⟩ := List.mem_flatten.1 hv
  obtain ⟨s, hs, rfl⟩ := List.mem_map.1 hl
  have hz : spanE s = 0 := by
    rcases List.mem_append.1 hs with h | h
    · exact span_in ha h
    · exact span_in hb h
  have z := spanE_0 hz
  unfold endsS at hv
  rcases List.mem_append.1 hv with h | h
  · split at h
    · rw [List.mem_singleton.1 h]; exact z.2.2.1
    · cases h
  · split at h
    · rw [List.mem_singleton.1 h]; exact z.2.2.2.1
    · cases h
theorem seg_piece {l : List Sp} (hl : rangeE l = 0) (hn : Norm (endsOf (aa ++ bb)) l) {k : Nat} (hk : k < E.length) : pieceR E l (k + 1) = memK (endsOf (aa ++ bb)) l (keyB (endsOf (aa ++ bb)) (E.getD k Ver.z)) := by
  have hm : E.getD k Ver.z ∈ E := by rw [List.getD_eq_getElem?_getD, List.getElem?_eq_getElem hk]; exact List.getElem_mem hk
  have hp := (hE.mem _).1 hm
  exact piece_s hn (fun s hs => ⟨(spanE_0 (span_in hl hs)).2.2.1, (spanE_0 (span_in hl hs)).2.2.2.1⟩) hp (ends_check ha hb _ hp)
theorem common_eq : (comTo E (bothR aa bb E) (E.length + 1)).2 = pairs aa bb := by
  obtain ⟨na, nb⟩ := seg_norm ha hb
  have np := pairs_norm na nb
  rw [com_scan (g := fun e => memK (endsOf (aa ++ bb)) (pairs aa bb) (keyB (endsOf (aa ++ bb)) e)) (fun k hk => by
    unfold bothR
    rw [seg_piece ha hb hE ha na hk, seg_piece ha hb hE hb nb hk, pairs_memK na nb])]
  have h0 : bothR aa bb E 0 = memK (endsOf (aa ++ bb)) (pairs aa bb) (-1) := by
    unfold bothR
    rw [piece_0 (pts := endsOf (aa ++ bb)), piece_0 (pts := endsOf (aa ++ bb)), pairs_memK na nb]
  rw [h0]
  exact scan_all (fun e he => (hE.mem e).1 he) hE.row np (fun s hs => ⟨fun h => (hE.mem _).2 ((np.sp s hs).f1 h), fun h => (hE.mem _).2 ((np.sp s hs).t1 h)⟩)
/-- The pieces that one range has without the other. -/
theorem within_eq : (aa.all fun s => bb.any (insB s)) = !((List.range (E.length + 1)).any fun k => pieceR E aa k && !pieceR E bb k) := by
  obtain ⟨na, nb⟩ := seg_norm ha hb
  rw [within_iff (fun v hv => (hE.mem v).2 hv) na nb]
  congr 1
  rw [Bool.eq_iff_iff, Bool.or_eq_true, List.any_eq_true, List.any_eq_true]
  constructor
  · rintro (h | ⟨e, he, h⟩)
    · refine ⟨0, by simp, ?_⟩
      rw [piece_0 (pts := endsOf (aa ++ bb)), piece_0 (pts := endsOf (aa ++ bb))]; exact h
    · obtain ⟨k, hk, rfl⟩ := List.getElem_of_mem he
      refine ⟨k + 1, by simp; omega, ?_⟩
      have hg : E.getD k Ver.z = E[k] := by rw [List.getD_eq_getElem?_getD, List.getElem?_eq_getElem hk]; rfl
      rw [seg_piece ha hb hE ha na hk, seg_piece ha hb hE hb nb hk, hg]; exact h
  · rintro ⟨k, hk, h⟩
    cases k with
    | zero =>
      left
      rw [piece_0 (pts := endsOf (aa ++ bb)), piece_0 (pts := endsOf (aa ++ bb))] at h; exact h
    | succ k =>
      have hk : k < E.length := by simpa using hk
      right
      have hg : E.getD k Ver.z = E[k] := by rw [List.getD_eq_getElem?_getD, List.getElem?_eq_getElem hk]; rfl
      rw [seg_piece ha hb hE ha na hk, seg_piece ha hb hE hb nb hk, hg] at h
      exact ⟨_, List.getElem_mem hk, h⟩
end
theorem seg_of {aa bb : List Sp} {l : List Ver} (hp : l.Perm (endsOf (aa ++ bb))) (hs : l.Pairwise fun x y => ¬ orderB y x < 0) : SegOk aa bb (compactF sameV l) := by
  refine ⟨fun v => by rw [compactF_mem]; exact hp.mem_iff, compactF_sorted (fun v hv => hp.mem_iff.1 hv) ?_⟩
  have hm : ∀ v ∈ l, v ∈ endsOf (aa ++ bb) := fun v hv => hp.mem_iff.1 hv
  refine List.Pairwise.imp_of_mem (fun {x y} hx hy h => ?_) hs
  have := (key_iff (hm y hy) (hm x hx)).1
  omega
end Go.Proofs.YtnphejkeflngcaaGreatDoor

set_option linter.unusedVariables false
set_option linter.unusedSimpArgs false
set_option maxRecDepth 100000
set_option maxHeartbeats 4000000
namespace Go.Proofs.YtnphejkeflngcaaGreatDoor
open Go
open Go.RowKit
attribute [local irreducible] rangeE orderB compareR Lib.split
def eqR (x y : Ver) : Bool := compareR x y == 0
def cq (l : List Ver) (n : Nat) : List Ver := compactF eqR (l.take n)
def rowC (l : List Ver) (n : Nat) : List Ver := cq l n ++ l.drop (cq l n).length
def padC (l : List Ver) : List Ver := compactF eqR l ++ List.replicate (l.length - (compactF eqR l).length) Ver.z
theorem compactG_len {α : Type} {eq : α → α → Bool} : ∀ {l : List α} {p : α}, (compactG eq p l).length ≤ l.length
  | [], _ => Nat.le_refl _
  | y :: l, p => by
    unfold compactG
    split
    · have := compactG_len (eq := eq) (l := l) (p := y); simp; omega
    · have := compactG_len (eq := eq) (l := l) (p := y); simp; omega
theorem compactF_len {α : Type} {eq : α → α → Bool} {l : List α} : (compactF eq l).length ≤ l.length := by
  cases l with
  | nil => exact Nat.le_refl _
  | cons x l => have := compactG_len (eq := eq) (l := l) (p := x); simp [compactF]; omega
theorem compactG_snoc {α : Type} {eq : α → α → Bool} {y : α} : ∀ {l : List α} {p : α}, compactG eq p (l ++ [y]) = if eq y (l.getLastD p) then compactG eq p l else compactG eq p l ++ [y]
  | [], p => by simp [compactG]
  | z :: l, p => by
    have ih := compactG_snoc (eq := eq) (y := y) (l := l) (p := z)
    have e : (z :: l).getLastD p = l.getLastD z := by cases l <;> rfl
    rw [e, List.cons_append]
    unfold compactG
    split
    · exact ih
    · rw [ih]; split <;> rfl
theorem cq_s {l : List Ver} {n : Nat} (h0 : 1 ≤ n) (h : n < l.length) : cq l (n + 1) = if eqR (l.getD n Ver.z) (l.getD (n - 1) Ver.z) then cq l n else cq l n ++ [l.getD n Ver.z] := by
  unfold cq
  rw [take_getD (d := Ver.z) h]
  cases l with
  | nil => simp at h
  | cons x l =>
    obtain ⟨k, rfl⟩ : ∃ k, n = k + 1 := ⟨n - 1, by omega⟩
    have e : (x :: l).getD (k + 1 - 1) Ver.z = (l.take k).getLastD x := by
      rw [Nat.add_sub_cancel]
      cases k with
      | zero => simp
      | succ k =>
        have hk : k < l.length := by simp at h; omega
        rw [take_getD (d := Ver.z) hk]
        simp
    rw [e, List.take_succ_cons, List.cons_append]
    show x :: compactG eqR x _ = if _ then x :: compactG eqR x _ else x :: compactG eqR x _ ++ [_]
    rw [compactG_snoc]
    split <;> rfl
theorem cq_t {l : List Ver} {n : Nat} (h0 : 1 ≤ n) (h : n < l.length) (c : eqR (l.getD n Ver.z) (l.getD (n - 1) Ver.z) = true) : cq l (n + 1) = cq l n := by rw [cq_s h0 h, if_pos c]
theorem cq_f {l : List Ver} {n : Nat} (h0 : 1 ≤ n) (h : n < l.length) (c : eqR (l.getD n Ver.z) (l.getD (n - 1) Ver.z) = false) : cq l (n + 1) = cq l n ++ [l.getD n Ver.z] := by rw [cq_s h0 h, if_neg (by rw [c]; simp)]
theorem cq_1 (l : List Ver) : cq l 1 = l.take 1 := by cases l <;> rfl
theorem cq_le (l : List Ver) (n : Nat) : (cq l n).length ≤ n := by
  have := compactF_len (eq := eqR) (l := l.take n)
  simp at this
  unfold cq; omega
theorem cq_all {l : List Ver} {n : Nat} (h : l.length ≤ n) : cq l n = compactF eqR l := by unfold cq; rw [List.take_of_length_le h]
theorem rowC_len {l : List Ver} {n : Nat} (h : n ≤ l.length) : (rowC l n).length = l.length := by
  have := cq_le l n
  unfold rowC; simp; omega
theorem rowC_get {l : List Ver} {n p : Nat} (h : (cq l n).length ≤ p) : (rowC l n).getD p Ver.z = l.getD p Ver.z := by
  unfold rowC
  rw [List.getD_eq_getElem?_getD, List.getElem?_append_right h, List.getElem?_drop, show (cq l n).length + (p - (cq l n).length) = p by omega, List.getD_eq_getElem?_getD]
theorem mapD_get {l : List Ver} {p : Nat} (h : p < l.length) : (l.map verD).getD p [] = verD (l.getD p Ver.z) := by
  rw [List.getD_eq_getElem?_getD, List.getElem?_map, List.getElem?_eq_getElem h, List.getD_eq_getElem?_getD, List.getElem?_eq_getElem h]; rfl
theorem row_at0 {l : List Ver} {i : Nat} (h : i < l.length) : (l.map verD).getD (0 + ((i : Int)).toNat) [] = verD (l.getD i Ver.z) := by
  rw [Nat.zero_add, Int.toNat_natCast]; exact mapD_get h
theorem row_at2 {l : List Ver} {k j n : Nat} (hn : n ≤ l.length) (hk : k + j < l.length) (hc : (cq l n).length ≤ k + j) : ((rowC l n).map verD).getD (k + ((j : Int)).toNat) [] = verD (l.getD (k + j) Ver.z) := by
  rw [Int.toNat_natCast, mapD_get (by rw [rowC_len hn]; exact hk), rowC_get hc]
theorem row_at3 {l : List Ver} {k j n : Nat} (hn : n ≤ l.length) (h1 : 1 ≤ j) (hk : k + j < l.length) (hc : (cq l n).length < k + j) : ((rowC l n).map verD).getD (k + (((j - 1 : Nat) : Int)).toNat) [] = verD (l.getD (k + j - 1) Ver.z) := by
  rw [row_at2 hn (by omega) (by omega), show k + (j - 1) = k + j - 1 by omega]
theorem ix_ok {i n : Nat} (h : i < n) : (decide (0 ≤ (i : Int)) && decide ((i : Int) < (n : Int))) = true := by simp; omega
theorem rowC_first {l : List Ver} {k : Nat} (hk : k < l.length) (h0 : 1 ≤ k) (hq : cq l k = l.take k) (c : eqR (l.getD k Ver.z) (l.getD (k - 1) Ver.z) = true) : rowC l (k + 1) = l ∧ (cq l (k + 1)).length = k := by
  have e : cq l (k + 1) = l.take k := by rw [cq_t h0 hk c, hq]
  have e2 : (l.take k).length = k := by simp; omega
  unfold rowC
  rw [e, e2]
  exact ⟨List.take_append_drop _ _, rfl⟩
theorem rowC_t {l : List Ver} {n : Nat} (h0 : 1 ≤ n) (h : n < l.length) (c : eqR (l.getD n Ver.z) (l.getD (n - 1) Ver.z) = true) : rowC l (n + 1) = rowC l n := by unfold rowC; rw [cq_t h0 h c]
theorem rowC_f {l : List Ver} {n : Nat} (h0 : 1 ≤ n) (h : n < l.length) (hl : (cq l n).length < l.length) (c : eqR (l.getD n Ver.z) (l.getD (n - 1) Ver.z) = false) : (rowC l n).set (cq l n).length (l.getD n Ver.z) = rowC l (n + 1) := by
  unfold rowC
  rw [cq_f h0 h c, List.set_append_right _ _ (Nat.le_refl _), Nat.sub_self, List.append_assoc]
  congr 1
  rw [List.drop_eq_getElem_cons hl, List.set_cons_zero]
  simp
theorem row_set {l : List Ver} {n : Nat} (h0 : 1 ≤ n) (h : n < l.length) (hl : (cq l n).length < l.length) (c : eqR (l.getD n Ver.z) (l.getD (n - 1) Ver.z) = false) :
    ((rowC l n).map verD).set (0 + (((cq l n).length : Nat) : Int).toNat) (putD (((rowC l n).map verD).getD (0 + (((cq l n).length : Nat) : Int).toNat) []) 0 (verD (l.getD n Ver.z))) = (rowC l (n + 1)).map verD := by
  rw [Nat.zero_add, Int.toNat_natCast, mapD_get (by rw [rowC_len (by omega)]; exact hl)]
  have e : putD (verD ((rowC l n).getD (cq l n).length Ver.z)) 0 (verD (l.getD n Ver.z)) = verD (l.getD n Ver.z) := rfl
  rw [e, ← rowC_f h0 h hl c, List.map_set]
theorem clear_row {l : List Ver} : ((compactF eqR l ++ l.drop (compactF eqR l).length).map verD).take (compactF eqR l).length ++ List.replicate (l.length - (compactF eqR l).length) (verD Ver.z)
    ++ ((compactF eqR l ++ l.drop (compactF eqR l).length).map verD).drop ((compactF eqR l).length + (l.length - (compactF eqR l).length)) = (padC l).map verD := by
  have h := compactF_len (eq := eqR) (l := l)
  unfold padC
  rw [List.map_append, List.map_append, List.map_replicate, List.take_left' (by simp), List.drop_eq_nil_of_le (by simp <;> omega), List.append_nil]
theorem pad_same {l : List Ver} (h : compactF eqR l = l) : padC l = l := by unfold padC; rw [h, Nat.sub_self]; simp
theorem compact_small {l : List Ver} (h : l.length < 2) : compactF eqR l = l := by
  match l, h with
  | [], _ => rfl
  | [x], _ => rfl
  | x :: y :: l, h => simp at h; omega
theorem add_1 {n : Nat} (h : n ≤ 1000000) : V.one (.d (.int .i64 (IntKind.i64.wrap ((n : Int) + 1)))) = V.one (.d (.int .i64 ((n + 1 : Nat) : Int))) := by
  rw [wrap_i64 (by omega) (by omega)]; rfl
theorem pc_eqR (v w : Ver) (h1 : v.e.length < 4294967281) (h2 : w.e.length < 4294967281) :
  PureCall Tryz.prog J 152 [verV v, verV w] (.one (.d (.bool (eqR v w)))) := by
 refine PureCall.of_body tOk (fn := Tryz.f152) Tryz.func152 (by kernel_rfl) rfl (Nat.le_of_ble_eq_true rfl) (fun E => ?_)
 refine W.seq ?_
 refine W.region ?_
 refine S.box rfl rfl rfl rfl ?_
 refine S.box rfl rfl rfl rfl ?_
 refine S.pure tOk zOk rfl rfl rfl ?_
 refine thenK_n ?_
 refine W.seq ?_
 refine W.region ?_
 refine S.pure tOk zOk rfl rfl rfl ?_
 refine S.pure tOk zOk rfl rfl rfl ?_
 refine S.call rfl rfl rfl rfl rfl (pc_outref2_CompareOf v w h1 h2) ?_
 refine S.pure tOk zOk rfl rfl rfl ?_
 refine S.pure tOk zOk rfl rfl rfl ?_
 refine thenK_n ?_
 refine W.ret ?_
 exact ⟨_, rfl, rfl, LeV.refl _⟩
theorem pc_Compact (l : List Ver) (al : Bool) (hl : l.length ≤ 1000000) (hv : ∀ v ∈ l, v.e.length < 4294967281) :
  HCall Tryz.prog J 151 ([.one (.row 0 0 0 l.length), .one (.d (.fn 152))]) ([]) ([some ⟨al, 0, 4, 43, (l).map verD⟩]) ([]) (isH (.one (.row 0 0 0 (compactF eqR l).length)) ([]) ([some ⟨al, 0, 4, 43, (padC l).map verD⟩]) ([])) := by
 have vl : ∀ p, p < l.length → (l.getD p Ver.z).e.length < 4294967281 := fun p hp => hv _ (mem_at hp)
 refine HCall.ofD tOk ⟨0, 1, 0⟩ (fn := Tryz.f151) Tryz.func151 (by kernel_rfl) rfl (Nat.le_of_ble_eq_true rfl) (fun E => ?_)
 refine W.seq ?_
 refine W.region ?_
 refine S.pure tOk zOk rfl rfl rfl ?_
 refine thenK_n ?_
 refine W.seq ?_
 refine W.seq ?_
 refine W.region ?_
 refine S.pure tOk zOk rfl rfl rfl ?_
 refine S.pure tOk zOk rfl rfl rfl ?_
 refine S.pure tOk zOk rfl rfl rfl ?_
 refine thenK_n ?_
 refine W.cond rfl (fun c1 => ?_) (fun c1 => ?_)
 ·skip
  have hs : compactF eqR l = l := compact_small (by simp at c1; omega)
  refine W.seq ?_
  refine W.region ?_
  refine S.pure tOk zOk rfl rfl rfl ?_
  refine S.pure tOk zOk rfl rfl rfl ?_
  refine thenK_n ?_
  refine W.ret ?_
  refine thenK_r ?_
  exact ⟨_, rfl, rfl, (by rw [hs]; exact LeG.refl _), rfl, (by rw [pad_same hs]; rfl), rfl⟩
 ·skip
  refine W.skip ?_
  refine thenK_n ?_
  refine W.seq ?_
  refine W.seq ?_
  refine W.region ?_
  refine S.pure tOk zOk rfl rfl rfl ?_
  refine thenK_n ?_
  refine W.block ?_
  refine W.loop (fun k st => ∃ a : Nat, 1 ≤ a ∧ a ≤ l.length ∧ cq l a = l.take a ∧ k = l.length - a ∧ ∃ t b2 r2 m2, st = ⟨t, [] ++ b2, [some ⟨al, 0, 4, 43, (l).map verD⟩] ++ r2, [] ++ m2⟩ ∧ holdsL t [(0, .one (.row 0 0 0 l.length)), (1, .one (.d (.fn 152))), (5, .one (.d (.int .i64 (a : Int))))]) (l.length - 1) ⟨1, Nat.le_refl _, (by simp at c1; omega), cq_1 l, rfl, _, _, _, _, rfl, rfl, rfl, rfl, trivial⟩ ?_
  rintro k0 _ ⟨a, f0_0, f0_1, f0_2, rfl, t0, bb0, rr0, mm0, rfl, hh0⟩
  refine W.keepR _ _ _ _ _ _ _ hh0 rfl ?_
  refine W.seq ?_
  refine W.seq ?_
  refine W.region ?_
  refine S.pure tOk zOk rfl rfl rfl ?_
  refine S.pure tOk zOk rfl rfl rfl ?_
  refine S.pure tOk zOk rfl rfl rfl ?_
  refine S.pure tOk zOk rfl rfl rfl ?_
  refine thenK_n ?_
  refine W.cond rfl (fun c2 => ?_) (fun c2 => ?_)
  ·skip
   have hk : a < l.length := by simpa using c2
   refine W.skip ?_
   refine thenK_n ?_
   refine W.seq ?_
   refine W.block ?_
   refine W.seq ?_
   refine W.regionD mixed (by kernel_rfl) ?_
   refine D.pure tOk zOk rfl rfl rfl rfl ?_
   refine D.pure tOk zOk rfl rfl rfl rfl ?_
   refine D.pure tOk zOk rfl rfl rfl rfl ?_
   refine D.pure tOk zOk rfl rfl (ix_ok hk) rfl ?_
   refine D.rload tOk rfl rfl rfl (row_at0 hk) rfl rfl ?_
   refine D.pure tOk zOk rfl rfl rfl rfl ?_
   refine D.pure tOk zOk rfl rfl rfl rfl ?_
   refine D.pureE tOk zOk rfl rfl rfl (dec_i64 (by simp; omega) (by omega)) rfl ?_
   refine D.pure tOk zOk rfl rfl (ix_ok (by omega)) rfl ?_
   refine D.rload tOk rfl rfl rfl (row_at0 (by omega)) rfl rfl ?_
   refine D.call rfl rfl rfl rfl rfl (pc_eqR (l.getD a Ver.z) (l.getD (a - 1) Ver.z) (vl _ hk) (vl _ (by omega))) ?_
   refine thenK_n ?_
   refine W.cond rfl (fun c3 => ?_) (fun c3 => ?_)
   ·skip
    have hC := rowC_first hk f0_0 f0_2 c3
    refine W.seq ?_
    refine W.region ?_
    refine S.pure tOk zOk rfl rfl rfl ?_
    refine S.pure tOk zOk rfl rfl rfl ?_
    refine S.sliceRow tOk a l.length rfl rfl rfl rfl rfl rfl rfl rfl rfl rfl ⟨by omega, Nat.le_refl _, hk⟩ (Nat.zero_add a) rfl ?_
    refine S.pure tOk zOk rfl rfl rfl ?_
    refine thenK_n ?_
    refine W.seq ?_
    refine W.seq ?_
    refine W.region ?_
    refine S.pure tOk zOk rfl rfl rfl ?_
    refine thenK_n ?_
    rw [show l.map verD = (rowC l (a + 1)).map verD from by rw [hC.1]]
    refine W.block ?_
    refine W.loop (fun k st => ∃ j : Nat, 1 ≤ j ∧ a + j ≤ l.length ∧ (cq l (a + j)).length < a + j ∧ k = l.length - (a + j) ∧ ∃ t b2 r2 m2, st = ⟨t, [] ++ b2, [some ⟨al, 0, 4, 43, (rowC l (a + j)).map verD⟩] ++ r2, [] ++ m2⟩ ∧ holdsL t [(0, .one (.row 0 0 0 l.length)), (1, .one (.d (.fn 152))), (5, .one (.d (.int .i64 ((cq l (a + j)).length : Int)))), (6, .one (.row 0 0 a (l.length - a))), (7, .one (.d (.int .i64 (j : Int))))]) (l.length - (a + 1)) ⟨1, Nat.le_refl _, hk, (by rw [hC.2]; omega), rfl, _, _, _, _, rfl, rfl, rfl, (by rw [hC.2]; rfl), rfl, rfl, trivial⟩ ?_
    rintro k2 _ ⟨j, f2_0, f2_1, f2_2, rfl, t2, bb2, rr2, mm2, rfl, hh2⟩
    refine W.keepR _ _ _ _ _ _ _ hh2 rfl ?_
    refine W.seq ?_
    refine W.seq ?_
    refine W.region ?_
    refine S.pure tOk zOk rfl rfl rfl ?_
    refine S.pure tOk zOk rfl rfl rfl ?_
    refine S.pure tOk zOk rfl rfl rfl ?_
    refine S.pure tOk zOk rfl rfl rfl ?_
    refine thenK_n ?_
    refine W.cond rfl (fun c4 => ?_) (fun c4 => ?_)
    ·skip
     have hj : a + j < l.length := by simp at c4; omega
     refine W.skip ?_
     refine thenK_n ?_
     refine W.seq ?_
     refine W.block ?_
     refine W.seq ?_
     refine W.regionD mixed (by kernel_rfl) ?_
     refine D.pure tOk zOk rfl rfl rfl rfl ?_
     refine D.pure tOk zOk rfl rfl rfl rfl ?_
     refine D.pure tOk zOk rfl rfl rfl rfl ?_
     refine D.pure tOk zOk rfl rfl (ix_ok (by omega)) rfl ?_
     refine D.rload tOk rfl rfl rfl (row_at2 (by omega) hj (by omega)) rfl rfl ?_
     refine D.pure tOk zOk rfl rfl rfl rfl ?_
     refine D.pure tOk zOk rfl rfl rfl rfl ?_
     refine D.pureE tOk zOk rfl rfl rfl (dec_i64 (by simp; omega) (by omega)) rfl ?_
     refine D.pure tOk zOk rfl rfl (ix_ok (by omega)) rfl ?_
     refine D.rload tOk rfl rfl rfl (row_at3 (by omega) f2_0 hj f2_2) rfl rfl ?_
     refine D.call rfl rfl rfl rfl rfl (pc_eqR (l.getD (a + j) Ver.z) (l.getD (a + j - 1) Ver.z) (vl _ hj) (vl _ (by omega))) ?_
     refine D.pure tOk zOk rfl rfl rfl rfl ?_
     refine thenK_n ?_
     refine W.cond rfl (fun c5 => ?_) (fun c5 => ?_)
     ·skip
      have c5 : eqR (l.getD (a + j) Ver.z) (l.getD (a + j - 1) Ver.z) = false := by simpa using c5
      refine W.seq ?_
      refine W.region ?_
      refine S.pure tOk zOk rfl rfl rfl ?_
      refine S.pure tOk zOk rfl rfl rfl ?_
      refine S.pure tOk zOk rfl rfl rfl ?_
      refine S.pure tOk zOk rfl rfl rfl ?_
      refine S.pure tOk zOk rfl (ix_ok (by omega)) rfl ?_
      refine S.rload tOk rfl rfl rfl (row_at2 (by omega) hj (by omega)) rfl rfl ?_
      refine S.pure tOk zOk rfl (ix_ok (by omega)) rfl ?_
      refine S.rstore tOk rfl rfl rfl rfl rfl rfl rfl (row_set (by omega) hj (by omega) c5) rfl ?_
      refine thenK_n ?_
      refine W.region ?_
      refine S.pure tOk zOk rfl rfl rfl ?_
      refine S.pure tOk zOk rfl rfl rfl ?_
      refine S.pure tOk zOk rfl rfl rfl ?_
      refine blockK_n ?_
      refine thenK_n ?_
      refine W.region ?_
      refine S.pure tOk zOk rfl rfl rfl ?_
      refine S.pure tOk zOk rfl rfl rfl ?_
      refine S.pure tOk zOk rfl rfl rfl ?_
      first | rw [show rowC l (a + j) = rowC l (a + (j + 1)) from by rw [← Nat.add_assoc, rowC_t (by omega) hj c5]] | rw [show rowC l (a + j + 1) = rowC l (a + (j + 1)) from rfl]
      refine loop_n (l.length - (a + (j + 1))) (by omega) ⟨j + 1, (by omega), (by omega), (by rw [← Nat.add_assoc, cq_f (by omega) hj c5]; simp; omega), rfl, _, _, _, _, rfl, rfl, rfl, (by rw [← Nat.add_assoc, cq_f (by omega) hj c5]; simp only [List.length_append, List.length_cons, List.length_nil, Nat.zero_add]; first | rfl | exact add_1 (by omega)), rfl, inc_i64 (by omega), trivial⟩
     ·skip
      have c5 : eqR (l.getD (a + j) Ver.z) (l.getD (a + j - 1) Ver.z) = true := by simpa using c5
      refine W.skip ?_
      refine blockK_n ?_
      refine thenK_n ?_
      refine W.region ?_
      refine S.pure tOk zOk rfl rfl rfl ?_
      refine S.pure tOk zOk rfl rfl rfl ?_
      refine S.pure tOk zOk rfl rfl rfl ?_
      first | rw [show rowC l (a + j) = rowC l (a + (j + 1)) from by rw [← Nat.add_assoc, rowC_t (by omega) hj c5]] | rw [show rowC l (a + j + 1) = rowC l (a + (j + 1)) from rfl]
      refine loop_n (l.length - (a + (j + 1))) (by omega) ⟨j + 1, (by omega), (by omega), (by rw [← Nat.add_assoc, cq_t (by omega) hj c5]; omega), rfl, _, _, _, _, rfl, rfl, rfl, (by rw [← Nat.add_assoc, cq_t (by omega) hj c5]; rfl), rfl, inc_i64 (by omega), trivial⟩
    ·skip
     have hj : a + j = l.length := by simp at c4; omega
     have e1 := cq_all (l := l) (n := a + j) (by omega)
     have e2 : rowC l (a + j) = compactF eqR l ++ l.drop (compactF eqR l).length := by unfold rowC; rw [e1]
     rw [e1] at f2_2
     rw [e2, e1]
     have hcl : (compactF eqR l).length < l.length := by omega
     refine W.exit ?_
     refine thenK_e ?_
     refine thenK_e ?_
     refine blockK_x ?_
     refine thenK_n ?_
     refine W.seq ?_
     refine W.region ?_
     refine S.pure tOk zOk rfl rfl rfl ?_
     refine S.pure tOk zOk rfl rfl rfl ?_
     refine S.sliceRow tOk (compactF eqR l).length l.length rfl rfl rfl rfl rfl rfl rfl rfl rfl rfl ⟨by omega, Nat.le_refl _, hcl⟩ (Nat.zero_add _) rfl ?_
     refine S.clearRow tOk (verD Ver.z) rfl rfl rfl rfl rfl rfl rfl (List.all_eq_true.1 rfl) clear_row rfl ?_
     refine thenK_n ?_
     refine W.seq ?_
     refine W.region ?_
     refine S.pure tOk zOk rfl rfl rfl ?_
     refine S.pure tOk zOk rfl rfl rfl ?_
     refine S.sliceRow tOk 0 (compactF eqR l).length rfl rfl rfl rfl rfl rfl rfl rfl rfl rfl ⟨by omega, by omega, by omega⟩ rfl rfl ?_
     refine S.pure tOk zOk rfl rfl rfl ?_
     refine thenK_n ?_
     refine W.ret ?_
     refine blockK_r ?_
     refine thenK_r ?_
     refine thenK_r ?_
     refine blockK_r ?_
     refine thenK_r ?_
     exact ⟨_, rfl, rfl, LeG.refl _, rfl, rfl, rfl⟩
   ·skip
    refine W.skip ?_
    refine blockK_n ?_
    refine thenK_n ?_
    refine W.region ?_
    refine S.pure tOk zOk rfl rfl rfl ?_
    refine S.pure tOk zOk rfl rfl rfl ?_
    refine S.pure tOk zOk rfl rfl rfl ?_
    refine loop_n (l.length - (a + 1)) (by omega) ⟨a + 1, (by omega), (by omega), (by rw [cq_f f0_0 hk c3, f0_2, take_getD (d := Ver.z) hk]), rfl, _, _, _, _, rfl, rfl, rfl, inc_i64 (by omega), trivial⟩
  ·skip
   have hs : compactF eqR l = l := by rw [← cq_all (show l.length ≤ a by simpa using c2), f0_2, List.take_of_length_le (by simpa using c2)]
   refine W.exit ?_
   refine thenK_e ?_
   refine thenK_e ?_
   refine blockK_x ?_
   refine thenK_n ?_
   refine W.seq ?_
   refine W.region ?_
   refine S.pure tOk zOk rfl rfl rfl ?_
   refine S.pure tOk zOk rfl rfl rfl ?_
   refine thenK_n ?_
   refine W.ret ?_
   exact ⟨_, rfl, rfl, (by rw [hs]; exact LeG.refl _), rfl, (by rw [pad_same hs]; rfl), rfl⟩
end Go.Proofs.YtnphejkeflngcaaGreatDoor
