/- Part 3 of a proof: V61, V62, W60, A42, A43, ShelfK, L6, V63, W61, W62, W63. -/
import Derived.Maps.RangeRun
import Derived.Shelf.SlIter.Nil
import Derived.Shelf.SortM.Plain
import Derived.Shelf.SortM.SortNone
import Derived.Ground.GgzProg
import Derived.Ground.SlgmProg
import Derived.Test.YtcchfmilleffjaaGreatDoorProg
import Derived.Test.YtcchfmilleffjaaGreatDoorMCRunsMatch2
/- Plain laws: what ranges over tables make, step by step. -/
set_option linter.unusedVariables false
set_option linter.unusedSimpArgs false
namespace Go.Proofs.YtcchfmilleffjaaGreatDoor
open Go
theorem lk_app (t u : Tab) : lk (t ++ u) = orF (lk t) (lk u) := by
  funext k
  induction t with
  | nil => rfl
  | cons x l ih =>
    unfold orF at ih ⊢
    by_cases h : (k == x.1) = true
    · rw [List.cons_append]
      conv => lhs; unfold lk
      rw [if_pos h]
      have : lk (x :: l) k = some x.2 := by unfold lk; rw [if_pos h]
      rw [this]
    · rw [List.cons_append]
      conv => lhs; unfold lk
      rw [if_neg h, ih]
      have : lk (x :: l) k = lk l k := by conv => lhs; unfold lk
                                          rw [if_neg h]
      rw [this]
theorem nd_app {t u : Tab} (h : ndT (t ++ u)) : ndT t ∧ ndT u ∧ ∀ k, k ∈ t.map (·.1) → k ∉ u.map (·.1) := by
  unfold ndT at h ⊢
  rw [List.map_append, List.nodup_append] at h
  exact ⟨h.1, h.2.1, fun k h1 h2 => h.2.2 k h1 k h2 rfl⟩
/-- The last entry of a list without a key twice. -/
theorem lk_snoc {dn : Tab} {x : L8 × L8} (h : ndT (dn ++ [x])) : lk (dn ++ [x]) = setF (lk dn) x.1 x.2 := by
  obtain ⟨h1, _, h3⟩ := nd_app h
  rw [lk_app]
  funext k
  unfold orF setF
  by_cases hk : (k == x.1) = true
  · rw [if_pos hk]
    have hk := beq_iff_eq.1 hk
    subst hk
    have : lk dn x.1 = none := lk_none.2 fun hm => h3 _ hm (by simp)
    rw [this]
    simp [lk]
  · rw [if_neg hk]
    cases lk dn k with
    | none => simp only [lk]; rw [if_neg hk]
    | some v => rfl
theorem nd_part {l0 dn rest : Tab} {y : L8 × L8} (h : ndT l0) (hp : l0.Perm (dn ++ y :: rest)) : ndT (dn ++ [y]) := by
  have := nd_perm h hp
  rw [show dn ++ y :: rest = (dn ++ [y]) ++ rest by simp] at this
  exact (nd_app this).1
/-- A moved entry. -/
theorem mov_t {dn : Tab} {x : L8 × L8} {moved : Tab} {key tu s : L8} (h : ndT (dn ++ [x])) (hm : lk moved = movF (lk dn) key tu) (ht : tailOf x.1 key = some s) : lk (setL beqS moved (tu ++ s) x.2) = movF (lk (dn ++ [x])) key tu := by
  rw [lk_set, hm, lk_snoc h]
  have hx := (tail_some.1 ht).1
  funext n
  unfold setF movF
  by_cases hn : (n == tu ++ s) = true
  · rw [if_pos hn]
    have hn := beq_iff_eq.1 hn
    have : tailOf n tu = some s := tail_some.2 ⟨hn, (tail_some.1 ht).2⟩
    rw [this]
    simp [hx]
  · rw [if_neg hn]
    cases hq : tailOf n tu with
    | none => rfl
    | some s' =>
      simp only
      have hn' := (tail_some.1 hq).1
      rw [if_neg]
      intro he
      have he := beq_iff_eq.1 he
      rw [hx] at he
      have := List.append_cancel_left he
      subst this
      exact hn (by simp [hn'])
theorem mov_f {dn : Tab} {x : L8 × L8} {moved : Tab} {key tu : L8} (h : ndT (dn ++ [x])) (hm : lk moved = movF (lk dn) key tu) (ht : tailOf x.1 key = none) : lk moved = movF (lk (dn ++ [x])) key tu := by
  rw [hm, lk_snoc h]
  funext n
  unfold movF setF
  cases hq : tailOf n tu with
  | none => rfl
  | some s' =>
    simp only
    rw [if_neg]
    intro he
    have he := beq_iff_eq.1 he
    have : tailOf x.1 key = some s' := tail_some.2 ⟨he.symm, (tail_some.1 hq).2⟩
    rw [ht] at this; cases this
/-- A copied entry. -/
theorem copy_t {dn dst t0 : Tab} {x : L8 × L8} (h : ndT (dn ++ [x])) (hm : lk dst = orF (lk dn) (lk t0)) : lk (setL beqS dst x.1 x.2) = orF (lk (dn ++ [x])) (lk t0) := by
  rw [lk_set, hm, lk_snoc h]
  funext k
  unfold setF orF
  by_cases hk : (k == x.1) = true
  · rw [if_pos hk]; simp [hk]
  · rw [if_neg hk]; simp [hk]
theorem lk_filter {t : Tab} (h : ndT t) (p : L8 → Bool) : lk (t.filter fun x => p x.1) = fun k => if p k then lk t k else none := by
  funext k
  induction t with
  | nil => simp [lk]
  | cons x l ih =>
    obtain ⟨h1, h2⟩ := nd_cons.1 h
    rw [List.filter_cons]
    by_cases hp : p x.1 = true
    · rw [if_pos hp]
      conv => lhs; unfold lk
      by_cases hk : (k == x.1) = true
      · rw [if_pos hk]
        rw [beq_iff_eq.1 hk, if_pos hp]
        unfold lk; simp
      · rw [if_neg hk, ih h2]
        have : lk (x :: l) k = lk l k := by conv => lhs; unfold lk
                                            rw [if_neg hk]
        rw [this]
    · rw [if_neg hp, ih h2]
      by_cases hk : (k == x.1) = true
      · rw [beq_iff_eq.1 hk, if_neg hp, if_neg hp]
      · have : lk (x :: l) k = lk l k := by conv => lhs; unfold lk
                                            rw [if_neg hk]
        rw [this]
theorem off_filter {t : Tab} (h : ndT t) (key : L8) : lk (t.filter fun x => (tailOf x.1 key).isNone) = offF (lk t) key := by
  rw [lk_filter h fun k => (tailOf k key).isNone]
  funext k
  unfold offF
  cases tailOf k key <;> rfl
theorem nd_filter {t : Tab} (h : ndT t) (p : L8 × L8 → Bool) : ndT (t.filter p) := nd_sub h (List.filter_sublist)
/-- What is kept of a table. -/
theorem off_end {l0 dn tab : Tab} {key : L8} (h : ndT l0) (hp : l0.Perm dn) (hk : tab.Perm (dn.filter fun x => (tailOf x.1 key).isNone)) : ndT tab ∧ lk tab = offF (lk l0) key := by
  have h1 := nd_perm h hp
  have h2 : ndT (dn.filter fun x => (tailOf x.1 key).isNone) := nd_filter h1 _
  have h3 := nd_perm h2 hk.symm
  exact ⟨h3, by rw [lk_perm h3 h2 hk, off_filter h1, lk_perm h h1 hp]⟩
theorem kept_t {dn : Tab} {y : L8 × L8} {key : L8} {s : L8} (h : tailOf y.1 key = some s) : (dn ++ [y]).filter (fun x => (tailOf x.1 key).isNone) = dn.filter fun x => (tailOf x.1 key).isNone := by
  rw [List.filter_append]; simp [h]
theorem kept_f {dn : Tab} {y : L8 × L8} {key : L8} (h : tailOf y.1 key = none) : (dn ++ [y]).filter (fun x => (tailOf x.1 key).isNone) = (dn.filter fun x => (tailOf x.1 key).isNone) ++ [y] := by
  rw [List.filter_append]; simp [h]
theorem any_perm {α : Type} {l l' : List α} (p : α → Bool) (h : l.Perm l') : l.any p = l'.any p := by
  rw [Bool.eq_iff_iff, List.any_eq_true, List.any_eq_true]
  exact ⟨fun ⟨x, h1, h2⟩ => ⟨x, h.mem_iff.1 h1, h2⟩, fun ⟨x, h1, h2⟩ => ⟨x, h.mem_iff.2 h1, h2⟩⟩
structure Rul where
  kd : Int
  k : L8
  tu : L8
  old : L8
  nu : L8
def Rul.z : Rul := ⟨0, [], [], [], []⟩
def rulD (r : Rul) : List D := [.int .i64 r.kd, .str r.k, .str r.tu, .str r.old, .str r.nu]
/-- Tables that tell the same. -/
structure EqT (t u : Tab) : Prop where
  l : ndT t
  r : ndT u
  e : lk t = lk u
theorem EqT.refl {t : Tab} (h : ndT t) : EqT t t := ⟨h, h, rfl⟩
theorem EqT.perm {t u : Tab} (h : EqT t u) : t.Perm u := perm_lk h.l h.r h.e
theorem EqT.len {t u : Tab} (h : EqT t u) : t.length = u.length := h.perm.length_eq
theorem EqT.trans {t u v : Tab} (h : EqT t u) (k : EqT u v) : EqT t v := ⟨h.l, k.r, h.e.trans k.e⟩
/-- A key's beginning exchanged in all of a table. -/
def movT (t : Tab) (key tu : L8) : Tab := t.filterMap fun x => (tailOf x.1 key).map fun s => (tu ++ s, x.2)
def copyT (t u : Tab) : Tab := t.foldl (fun a x => setL beqS a x.1 x.2) u
def prefT (t : Tab) (key tu : L8) : Tab := copyT (movT t key tu) (t.filter fun x => (tailOf x.1 key).isNone)
theorem mov_keys {t : Tab} {key tu k : L8} : k ∈ (movT t key tu).map (·.1) ↔ ∃ x ∈ t, ∃ s, tailOf x.1 key = some s ∧ k = tu ++ s := by
  unfold movT
  rw [List.mem_map]
  constructor
  · rintro ⟨y, hy, rfl⟩
    obtain ⟨x, hx, he⟩ := List.mem_filterMap.1 hy
    obtain ⟨s, hs, rfl⟩ := Option.map_eq_some_iff.1 he
    exact ⟨x, hx, s, hs, rfl⟩
  · rintro ⟨x, hx, s, hs, rfl⟩
    exact ⟨(tu ++ s, x.2), List.mem_filterMap.2 ⟨x, hx, by rw [hs]; rfl⟩, rfl⟩
theorem nd_mov {t : Tab} (h : ndT t) (key tu : L8) : ndT (movT t key tu) := by
  induction t with
  | nil => exact nd_nil
  | cons x l ih =>
    obtain ⟨h1, h2⟩ := nd_cons.1 h
    unfold movT
    rw [List.filterMap_cons]
    cases ht : tailOf x.1 key with
    | none => exact ih h2
    | some s =>
      refine nd_cons.2 ⟨fun hm => h1 ?_, ih h2⟩
      obtain ⟨y, hy, s', hs', he⟩ := mov_keys.1 hm
      have := List.append_cancel_left he
      subst this
      rw [(tail_some.1 ht).1, ← (tail_some.1 hs').1]
      exact List.mem_map.2 ⟨y, hy, rfl⟩
theorem lk_mov {t : Tab} (h : ndT t) (key tu : L8) : lk (movT t key tu) = movF (lk t) key tu := by
  funext n
  have hm := nd_mov h key tu
  cases hv : movF (lk t) key tu n with
  | some v =>
    unfold movF at hv
    cases hq : tailOf n tu with
    | none => rw [hq] at hv; cases hv
    | some s =>
      rw [hq] at hv
      have h1 := (lk_mem h).1 hv
      refine (lk_mem hm).2 (List.mem_filterMap.2 ⟨_, h1, ?_⟩)
      have h2 : tailOf (key ++ s) key = some s := tail_some.2 ⟨rfl, (tail_some.1 hq).2⟩
      simp [h2, (tail_some.1 hq).1]
  | none =>
    refine lk_none.2 fun hk => ?_
    obtain ⟨x, hx, s, hs, rfl⟩ := mov_keys.1 hk
    have h2 : tailOf (tu ++ s) tu = some s := tail_some.2 ⟨rfl, (tail_some.1 hs).2⟩
    unfold movF at hv
    rw [h2] at hv
    simp only at hv
    rw [lk_none] at hv
    exact hv (by rw [← (tail_some.1 hs).1]; exact List.mem_map.2 ⟨x, hx, rfl⟩)
theorem nd_copy : ∀ (t : Tab) {u : Tab}, ndT u → ndT (copyT t u)
  | [], u, h => h
  | x :: t, u, h => nd_copy t (nd_set h _ _)
theorem lk_copy : ∀ (t : Tab) {u : Tab}, ndT t → lk (copyT t u) = orF (lk t) (lk u)
  | [], u, _ => rfl
  | x :: t, u, h => by
    obtain ⟨h1, h2⟩ := nd_cons.1 h
    show lk (copyT t (setL beqS u x.1 x.2)) = _
    rw [lk_copy t h2, lk_set]
    funext k
    unfold orF setF
    by_cases hk : (k == x.1) = true
    · rw [if_pos hk]
      have : lk t k = none := lk_none.2 (by rw [beq_iff_eq.1 hk]; exact h1)
      have h3 : lk (x :: t) k = some x.2 := by unfold lk; rw [if_pos hk]
      rw [this, h3]
    · rw [if_neg hk]
      have h3 : lk (x :: t) k = lk t k := by conv => lhs; unfold lk
                                             rw [if_neg hk]
      rw [h3]
theorem nd_pref {t : Tab} (h : ndT t) (key tu : L8) : ndT (prefT t key tu) := nd_copy _ (nd_filter h _)
theorem lk_pref {t : Tab} (h : ndT t) (key tu : L8) : lk (prefT t key tu) = prefF (lk t) key tu := by
  unfold prefT prefF
  rw [lk_copy _ (nd_mov h key tu), lk_mov h, off_filter h]
/-- What a rule does. -/
def doT (t : Tab) (r : Rul) : Tab :=
  if r.kd == 1 then (if hasL beqS t r.k then setL beqS (delL beqS t r.k) r.tu (getL beqS [] t r.k) else t)
  else if r.kd == 2 then prefT t r.k r.tu
  else if r.kd == 3 then (if hasL beqS t r.k then setL beqS t r.tu (getL beqS [] t r.k) else t)
  else if r.kd == 4 then setL beqS t r.k r.nu
  else if r.kd == 5 then (if hasL beqS t r.k then t else setL beqS t r.k r.nu)
  else if r.kd == 6 then delL beqS t r.k
  else if hasL beqS t r.k && getL beqS [] t r.k == r.old then setL beqS t r.k r.nu
  else if hasL beqS t r.k && getL beqS [] t r.k == r.nu && r.kd == 8 then setL beqS t r.k r.old
  else t
theorem nd_do {t : Tab} (h : ndT t) (r : Rul) : ndT (doT t r) := by
  unfold doT
  repeat' split
  all_goals first | exact h | exact nd_set (nd_del h _) _ _ | exact nd_pref h _ _ | exact nd_set h _ _ | exact nd_del h _
theorem EqT.has {t u : Tab} (h : EqT t u) (k : L8) : hasL beqS t k = hasL beqS u k := by rw [has_lk, has_lk, h.e]
theorem EqT.get {t u : Tab} (h : EqT t u) (k : L8) : getL beqS [] t k = getL beqS [] u k := by rw [get_lk, get_lk, h.e]
theorem EqT.set {t u : Tab} (h : EqT t u) (k v : L8) : EqT (setL beqS t k v) (setL beqS u k v) := ⟨nd_set h.l _ _, nd_set h.r _ _, by rw [lk_set, lk_set, h.e]⟩
theorem EqT.del {t u : Tab} (h : EqT t u) (k : L8) : EqT (delL beqS t k) (delL beqS u k) := ⟨nd_del h.l _, nd_del h.r _, by rw [lk_del h.l, lk_del h.r, h.e]⟩
theorem EqT.pref {t u : Tab} (h : EqT t u) (key tu : L8) : EqT (prefT t key tu) (prefT u key tu) := ⟨nd_pref h.l _ _, nd_pref h.r _ _, by rw [lk_pref h.l, lk_pref h.r, h.e]⟩
theorem EqT.do {t u : Tab} (h : EqT t u) (r : Rul) : EqT (doT t r) (doT u r) := by
  unfold doT
  simp only [h.has, h.get]
  repeat' split
  all_goals first | exact h | exact (h.del _).set _ _ | exact h.pref _ _ | exact h.set _ _ | exact h.del _
theorem EqT.any {t u : Tab} (h : EqT t u) (p : L8 × L8 → Bool) : t.any p = u.any p := any_perm p h.perm
theorem EqT.list {t u : Tab} (h : EqT t u) : listT t = listT u := listT_lk h.l h.r h.e
end Go.Proofs.YtcchfmilleffjaaGreatDoor

/- Plain words: errors of rules; settings that rules have changed; rules that go back. -/
set_option linter.unusedVariables false
set_option linter.unusedSimpArgs false
namespace Go.Proofs.YtcchfmilleffjaaGreatDoor
open Go
def usTu (kd : Int) : Bool := kd == 1 || kd == 2 || kd == 3
def usOld (kd : Int) : Bool := kd == 7 || kd == 8
def usNew (kd : Int) : Bool := kd == 4 || kd == 5 || kd == 7 || kd == 8
def belowB (a b : L8) : Bool := Lib.hasPrefix a (b ++ [47])
def ruleC (r : Rul) : Int :=
  if decide (r.kd < 1) || decide (r.kd > 8) then 1
  else if !pathB r.k || usTu r.kd && !pathB r.tu then 5
  else if !usTu r.kd && !(r.tu == []) || !usOld r.kd && !(r.old == []) || !usNew r.kd && !(r.nu == []) || !valueB r.old || !valueB r.nu then 2
  else if usTu r.kd && r.k == r.tu then 11
  else if r.kd == 2 && (belowB r.k r.tu || belowB r.tu r.k) then 13
  else if usOld r.kd && r.old == r.nu then 11
  else 0
theorem path_len {s : L8} (h : pathB s = true) : s.length ≤ 200 := by
  unfold pathB at h
  rw [Bool.and_eq_true] at h
  have := of_decide_eq_true h.2
  omega
theorem path_nil : pathB [] = false := by decide
structure RulOk (r : Rul) : Prop where
  lo : 1 ≤ r.kd
  hi : r.kd ≤ 8
  k : pathB r.k = true
  tu : usTu r.kd = true → pathB r.tu = true
  tu0 : usTu r.kd = false → r.tu = []
  old0 : usOld r.kd = false → r.old = []
  nu0 : usNew r.kd = false → r.nu = []
  vo : valueB r.old = true
  vn : valueB r.nu = true
theorem rul_ok {r : Rul} (h : ruleC r = 0) : RulOk r := by
  unfold ruleC at h
  repeat' split at h
  all_goals first | (cases h; done) | skip
  rename_i h1 h2 h3 h4 h5 h6
  simp only [Bool.or_eq_true, Bool.and_eq_true, decide_eq_true_eq, Bool.not_eq_true', not_or, not_and, beq_eq_false_iff_ne, ne_eq, Bool.not_eq_false] at h1 h2 h3
  refine ⟨by omega, by omega, h2.1, h2.2, fun h => ?_, fun h => ?_, fun h => ?_, h3.1.2, h3.2⟩
  · exact Classical.not_not.1 (h3.1.1.1.1 h)
  · exact Classical.not_not.1 (h3.1.1.1.2 h)
  · exact Classical.not_not.1 (h3.1.1.2 h)
theorem RulOk.len {r : Rul} (h : RulOk r) : r.k.length ≤ 200 ∧ r.tu.length ≤ 200 := by
  refine ⟨path_len h.k, ?_⟩
  cases hu : usTu r.kd with
  | true => exact path_len (h.tu hu)
  | false => rw [h.tu0 hu]; simp
def allP (t : Tab) : Bool := t.all fun x => pathB x.1
def badP (t : Tab) (key tu : L8) : Bool := (movT t key tu).any fun x => !pathB x.1
def stepE (t : Tab) (r : Rul) : Int := if r.kd == 2 && badP t r.k r.tu then 5 else if decide (((doT t r).length : Int) > 2000) then 4 else 0
def stepR (t : Tab) (r : Rul) : Int := if (doT t r).any (fun x => !pathB x.1) then 5 else if decide (((doT t r).length : Int) > 2000) then 4 else 0
theorem all_keys {t : Tab} : allP t = true ↔ ∀ k ∈ t.map (·.1), pathB k = true := by
  unfold allP
  rw [List.all_eq_true]
  constructor
  · intro h k hk
    obtain ⟨x, hx, rfl⟩ := List.mem_map.1 hk
    exact h x hx
  · intro h x hx
    exact h _ (List.mem_map.2 ⟨x, hx, rfl⟩)
theorem any_not {t : Tab} : t.any (fun x => !pathB x.1) = !allP t := by
  unfold allP
  rw [List.not_all_eq_any_not]
theorem keys_copy {t : Tab} : ∀ {u : Tab} {k : L8}, k ∈ (copyT t u).map (·.1) ↔ k ∈ t.map (·.1) ∨ k ∈ u.map (·.1) := by
  induction t with
  | nil => intro u k; simp [copyT]
  | cons x l ih =>
    intro u k
    show k ∈ (copyT l (setL beqS u x.1 x.2)).map (·.1) ↔ _
    rw [ih, keys_set]
    simp only [List.map_cons, List.mem_cons]
    constructor
    · rintro (h | h | h)
      · exact .inl (.inr h)
      · exact .inl (.inl h)
      · exact .inr h
    · rintro ((h | h) | h)
      · exact .inr (.inl h)
      · exact .inl h
      · exact .inr (.inr h)
theorem keys_del {t : Tab} {k q : L8} (h : q ∈ (delL beqS t k).map (·.1)) : q ∈ t.map (·.1) := ((del_sub t k).map _).subset h
theorem pref_all {t : Tab} (h : allP t = true) (key tu : L8) : allP (prefT t key tu) = !badP t key tu := by
  unfold badP
  rw [any_not, Bool.not_not, Bool.eq_iff_iff, all_keys, all_keys]
  unfold prefT
  constructor
  · exact fun h1 k hk => h1 k (keys_copy.2 (.inl hk))
  · intro h1 k hk
    rcases keys_copy.1 hk with h2 | h2
    · exact h1 k h2
    · obtain ⟨x, hx, rfl⟩ := List.mem_map.1 h2
      exact all_keys.1 h _ (List.mem_map.2 ⟨x, (List.mem_filter.1 hx).1, rfl⟩)
theorem set_all {t : Tab} (h : allP t = true) {k v : L8} (hk : pathB k = true) : allP (setL beqS t k v) = true := by
  rw [all_keys] at *
  intro q hq
  rcases (keys_set t k v q).1 hq with h1 | h1
  · rw [h1]; exact hk
  · exact h q h1
theorem del_all {t : Tab} (h : allP t = true) (k : L8) : allP (delL beqS t k) = true := by
  rw [all_keys] at *
  exact fun q hq => h q (keys_del hq)
theorem do_all {t : Tab} (h : allP t = true) {r : Rul} (hr : RulOk r) : allP (doT t r) = !(r.kd == 2 && badP t r.k r.tu) := by
  have hk := hr.k
  unfold doT
  by_cases h1 : (r.kd == 1) = true
  · have e := beq_iff_eq.1 h1
    have ht : pathB r.tu = true := hr.tu (by rw [e]; rfl)
    rw [if_pos h1]
    have h2 : (r.kd == 2) = false := by rw [e]; rfl
    rw [h2]
    split
    · exact set_all (del_all h _) ht
    · exact h
  · rw [if_neg h1]
    by_cases h2 : (r.kd == 2) = true
    · rw [if_pos h2, pref_all h, h2]; rfl
    · rw [if_neg h2]
      have h2 : (r.kd == 2) = false := Bool.eq_false_iff.2 h2
      rw [h2]
      show _ = true
      by_cases h3 : (r.kd == 3) = true
      · have e := beq_iff_eq.1 h3
        have ht : pathB r.tu = true := hr.tu (by rw [e]; rfl)
        rw [if_pos h3]
        split
        · exact set_all h ht
        · exact h
      · rw [if_neg h3]
        repeat' split
        all_goals first | exact h | exact set_all h hk | exact del_all h _
theorem step_eq {t : Tab} (h : allP t = true) {r : Rul} (hr : RulOk r) : stepR t r = stepE t r := by
  unfold stepR stepE
  rw [any_not, do_all h hr, Bool.not_not]
theorem step_all {t : Tab} (h : allP t = true) {r : Rul} (hr : RulOk r) (hs : stepE t r = 0) : allP (doT t r) = true ∧ (doT t r).length ≤ 2000 := by
  unfold stepE at hs
  split at hs
  · cases hs
  · rename_i h1
    split at hs
    · cases hs
    · rename_i h2
      refine ⟨by rw [do_all h hr, Bool.eq_false_iff.2 h1]; rfl, ?_⟩
      have := h2
      simp only [decide_eq_true_eq] at this
      omega
theorem EqT.allP {t u : Tab} (h : EqT t u) : allP t = allP u := by
  have := h.any (fun x => !pathB x.1)
  rw [any_not, any_not] at this
  simpa using this
theorem EqT.mov {t u : Tab} (h : EqT t u) (key tu : L8) : EqT (movT t key tu) (movT u key tu) := ⟨nd_mov h.l _ _, nd_mov h.r _ _, by rw [lk_mov h.l, lk_mov h.r, h.e]⟩
theorem EqT.bad {t u : Tab} (h : EqT t u) (key tu : L8) : badP t key tu = badP u key tu := (h.mov key tu).any _
theorem EqT.stepE {t u : Tab} (h : EqT t u) (r : Rul) : stepE t r = stepE u r := by
  unfold Go.Proofs.YtcchfmilleffjaaGreatDoor.stepE
  rw [h.bad, (h.do r).len]
/-- The table behind so many rules. -/
def runT (ss : List Stg) (rs : List Rul) : Nat → Tab
  | 0 => tabOf ss
  | i + 1 => doT (runT ss rs i) (rs.getD i Rul.z)
theorem run_nd (ss : List Stg) (rs : List Rul) : ∀ i, ndT (runT ss rs i)
  | 0 => tabTo_nd _ _
  | i + 1 => nd_do (run_nd ss rs i) _
def rulesE (rs : List Rul) : Int := firstNe (rs.map ruleC)
def runF (ss : List Stg) (rs : List Rul) : Int := firstNe [listE pathB ss, if decide ((ss.length : Int) > 2000) then 4 else 0, if decide ((rs.length : Int) > 100) then 4 else 0, rulesE rs]
def stepsE (ss : List Stg) (rs : List Rul) : Int := firstNe ((List.range rs.length).map fun i => stepE (runT ss rs i) (rs.getD i Rul.z))
def runP (ss : List Stg) (rs : List Rul) : List Stg × Int :=
  if runF ss rs != 0 then ([], runF ss rs) else if stepsE ss rs != 0 then ([], stepsE ss rs) else (listT (runT ss rs rs.length), 0)
/-- What goes back. -/
def invR (r : Rul) : Rul × Int :=
  if ruleC r != 0 then (Rul.z, ruleC r) else if r.kd == 1 || r.kd == 2 then (⟨r.kd, r.tu, r.k, r.old, r.nu⟩, 0) else if r.kd == 7 then (⟨r.kd, r.k, r.tu, r.nu, r.old⟩, 0) else if r.kd == 8 then (r, 0) else (Rul.z, 12)
def invE (rs : List Rul) : Int := firstNe (rs.map fun r => (invR r).2)
def invAll (rs : List Rul) : List Rul × Int :=
  if decide ((rs.length : Int) > 100) then ([], 4) else if invE rs != 0 then ([], invE rs) else ((rs.map fun r => (invR r).1).reverse, 0)
def losesT (t : Tab) (r : Rul) : Bool :=
  if r.kd == 1 then hasL beqS t r.tu else if r.kd == 2 then t.any (fun x => (tailOf x.1 r.tu).isSome) else if r.kd == 7 then hasL beqS t r.k && getL beqS [] t r.k == r.nu else false
theorem EqT.loses {t u : Tab} (h : EqT t u) (r : Rul) : losesT t r = losesT u r := by
  unfold losesT
  rw [h.has, h.has, h.get, h.any]
def cleanT (ss : List Stg) (rs : List Rul) : Bool := (List.range rs.length).all fun i => !losesT (runT ss rs i) (rs.getD i Rul.z)
def cleanP (ss : List Stg) (rs : List Rul) : Bool × Int :=
  if (runP ss rs).2 != 0 then (false, (runP ss rs).2) else if (invAll rs).2 != 0 then (false, (invAll rs).2) else (cleanT ss rs, 0)
end Go.Proofs.YtcchfmilleffjaaGreatDoor

set_option linter.unusedVariables false
set_option linter.unusedSimpArgs false
set_option maxRecDepth 100000
set_option maxHeartbeats 4000000
namespace Go.Proofs.YtcchfmilleffjaaGreatDoor
open Go
open Go.RowKit
attribute [local irreducible] rangeB pathB nameB valueB firstNe
/-- A rule of texts that are not too long. -/
structure RulB (r : Rul) : Prop where
  k : r.k.length ≤ 2000000
  tu : r.tu.length ≤ 2000000
  old : r.old.length ≤ 2000000
  nu : r.nu.length ≤ 2000000
theorem pc_uses (x : Int) :
  PureCall Tryz.prog J 100 [.one (.d (.int .i64 x))] (.tup [.one (.d (.bool (usTu x))), .one (.d (.bool (usOld x))), .one (.d (.bool (usNew x)))]) := by
 refine PureCall.of_body tOk (fn := Tryz.f100) Tryz.func100 (by kernel_rfl) rfl (Nat.le_of_ble_eq_true rfl) (fun E => ?_)
 refine W.seq ?_
 refine W.region ?_
 refine S.pure tOk zOk rfl rfl rfl ?_
 refine S.pure tOk zOk rfl rfl rfl ?_
 refine S.pure tOk zOk rfl rfl rfl ?_
 refine thenK_n ?_
 refine W.seq ?_
 refine W.seq ?_
 refine W.region ?_
 refine S.pure tOk zOk rfl rfl rfl ?_
 refine thenK_n ?_
 refine W.block ?_
 refine W.seq ?_
 refine W.seq ?_
 refine W.region ?_
 refine S.pure tOk zOk rfl rfl rfl ?_
 refine S.pure tOk zOk rfl rfl rfl ?_
 refine thenK_n ?_
 refine W.cond rfl (fun c1 => ?_) (fun c1 => ?_)
 ·skip
  refine W.skip ?_
  refine thenK_n ?_
  refine W.cond rfl (fun c2 => ?_) (fun c2 => ?_)
  ·skip
   refine W.seq ?_
   refine W.region ?_
   refine S.pure tOk zOk rfl rfl rfl ?_
   refine S.pure tOk zOk rfl rfl rfl ?_
   refine S.pure tOk zOk rfl rfl rfl ?_
   refine thenK_n ?_
   refine W.ret ?_
   refine blockK_r ?_
   refine thenK_r ?_
   exact ⟨_, rfl, rfl, LeV.of_force rfl (by simp_all [usTu, usOld, usNew])⟩
  ·skip
   refine W.seq ?_
   refine W.seq ?_
   refine W.region ?_
   refine S.pure tOk zOk rfl rfl rfl ?_
   refine S.pure tOk zOk rfl rfl rfl ?_
   refine thenK_n ?_
   refine W.cond rfl (fun c3 => ?_) (fun c3 => ?_)
   ·skip
    refine W.skip ?_
    refine thenK_n ?_
    refine W.cond rfl (fun c4 => ?_) (fun c4 => ?_)
    ·skip
     refine W.seq ?_
     refine W.region ?_
     refine S.pure tOk zOk rfl rfl rfl ?_
     refine S.pure tOk zOk rfl rfl rfl ?_
     refine S.pure tOk zOk rfl rfl rfl ?_
     refine thenK_n ?_
     refine W.ret ?_
     refine blockK_r ?_
     refine thenK_r ?_
     exact ⟨_, rfl, rfl, LeV.of_force rfl (by simp_all [usTu, usOld, usNew])⟩
    ·skip
     refine W.seq ?_
     refine W.seq ?_
     refine W.region ?_
     refine S.pure tOk zOk rfl rfl rfl ?_
     refine S.pure tOk zOk rfl rfl rfl ?_
     refine thenK_n ?_
     refine W.cond rfl (fun c5 => ?_) (fun c5 => ?_)
     ·skip
      refine W.skip ?_
      refine thenK_n ?_
      refine W.cond rfl (fun c6 => ?_) (fun c6 => ?_)
      ·skip
       refine W.seq ?_
       refine W.region ?_
       refine S.pure tOk zOk rfl rfl rfl ?_
       refine S.pure tOk zOk rfl rfl rfl ?_
       refine S.pure tOk zOk rfl rfl rfl ?_
       refine thenK_n ?_
       refine W.ret ?_
       refine blockK_r ?_
       refine thenK_r ?_
       exact ⟨_, rfl, rfl, LeV.of_force rfl (by simp_all [usTu, usOld, usNew])⟩
      ·skip
       refine W.skip ?_
       refine blockK_n ?_
       refine thenK_n ?_
       refine W.seq ?_
       refine W.region ?_
       refine S.pure tOk zOk rfl rfl rfl ?_
       refine S.pure tOk zOk rfl rfl rfl ?_
       refine S.pure tOk zOk rfl rfl rfl ?_
       refine thenK_n ?_
       refine W.ret ?_
       exact ⟨_, rfl, rfl, LeV.of_force rfl (by simp_all [usTu, usOld, usNew])⟩
     ·skip
      refine W.region ?_
      refine S.pure tOk zOk rfl rfl rfl ?_
      refine S.pure tOk zOk rfl rfl rfl ?_
      refine thenK_n ?_
      refine W.cond rfl (fun c7 => ?_) (fun c7 => ?_)
      ·skip
       refine W.seq ?_
       refine W.region ?_
       refine S.pure tOk zOk rfl rfl rfl ?_
       refine S.pure tOk zOk rfl rfl rfl ?_
       refine S.pure tOk zOk rfl rfl rfl ?_
       refine thenK_n ?_
       refine W.ret ?_
       refine blockK_r ?_
       refine thenK_r ?_
       exact ⟨_, rfl, rfl, LeV.of_force rfl (by simp_all [usTu, usOld, usNew])⟩
      ·skip
       refine W.skip ?_
       refine blockK_n ?_
       refine thenK_n ?_
       refine W.seq ?_
       refine W.region ?_
       refine S.pure tOk zOk rfl rfl rfl ?_
       refine S.pure tOk zOk rfl rfl rfl ?_
       refine S.pure tOk zOk rfl rfl rfl ?_
       refine thenK_n ?_
       refine W.ret ?_
       exact ⟨_, rfl, rfl, LeV.of_force rfl (by simp_all [usTu, usOld, usNew])⟩
   ·skip
    refine W.region ?_
    refine S.pure tOk zOk rfl rfl rfl ?_
    refine S.pure tOk zOk rfl rfl rfl ?_
    refine thenK_n ?_
    refine W.cond rfl (fun c8 => ?_) (fun c8 => ?_)
    ·skip
     refine W.seq ?_
     refine W.region ?_
     refine S.pure tOk zOk rfl rfl rfl ?_
     refine S.pure tOk zOk rfl rfl rfl ?_
     refine S.pure tOk zOk rfl rfl rfl ?_
     refine thenK_n ?_
     refine W.ret ?_
     refine blockK_r ?_
     refine thenK_r ?_
     exact ⟨_, rfl, rfl, LeV.of_force rfl (by simp_all [usTu, usOld, usNew])⟩
    ·skip
     refine W.seq ?_
     refine W.seq ?_
     refine W.region ?_
     refine S.pure tOk zOk rfl rfl rfl ?_
     refine S.pure tOk zOk rfl rfl rfl ?_
     refine thenK_n ?_
     refine W.cond rfl (fun c9 => ?_) (fun c9 => ?_)
     ·skip
      refine W.skip ?_
      refine thenK_n ?_
      refine W.cond rfl (fun c10 => ?_) (fun c10 => ?_)
      ·skip
       refine W.seq ?_
       refine W.region ?_
       refine S.pure tOk zOk rfl rfl rfl ?_
       refine S.pure tOk zOk rfl rfl rfl ?_
       refine S.pure tOk zOk rfl rfl rfl ?_
       refine thenK_n ?_
       refine W.ret ?_
       refine blockK_r ?_
       refine thenK_r ?_
       exact ⟨_, rfl, rfl, LeV.of_force rfl (by simp_all [usTu, usOld, usNew])⟩
      ·skip
       refine W.skip ?_
       refine blockK_n ?_
       refine thenK_n ?_
       refine W.seq ?_
       refine W.region ?_
       refine S.pure tOk zOk rfl rfl rfl ?_
       refine S.pure tOk zOk rfl rfl rfl ?_
       refine S.pure tOk zOk rfl rfl rfl ?_
       refine thenK_n ?_
       refine W.ret ?_
       exact ⟨_, rfl, rfl, LeV.of_force rfl (by simp_all [usTu, usOld, usNew])⟩
     ·skip
      refine W.region ?_
      refine S.pure tOk zOk rfl rfl rfl ?_
      refine S.pure tOk zOk rfl rfl rfl ?_
      refine thenK_n ?_
      refine W.cond rfl (fun c11 => ?_) (fun c11 => ?_)
      ·skip
       refine W.seq ?_
       refine W.region ?_
       refine S.pure tOk zOk rfl rfl rfl ?_
       refine S.pure tOk zOk rfl rfl rfl ?_
       refine S.pure tOk zOk rfl rfl rfl ?_
       refine thenK_n ?_
       refine W.ret ?_
       refine blockK_r ?_
       refine thenK_r ?_
       exact ⟨_, rfl, rfl, LeV.of_force rfl (by simp_all [usTu, usOld, usNew])⟩
      ·skip
       refine W.skip ?_
       refine blockK_n ?_
       refine thenK_n ?_
       refine W.seq ?_
       refine W.region ?_
       refine S.pure tOk zOk rfl rfl rfl ?_
       refine S.pure tOk zOk rfl rfl rfl ?_
       refine S.pure tOk zOk rfl rfl rfl ?_
       refine thenK_n ?_
       refine W.ret ?_
       exact ⟨_, rfl, rfl, LeV.of_force rfl (by simp_all [usTu, usOld, usNew])⟩
 ·skip
  refine W.seq ?_
  refine W.region ?_
  refine S.pure tOk zOk rfl rfl rfl ?_
  refine S.pure tOk zOk rfl rfl rfl ?_
  refine thenK_n ?_
  refine W.cond rfl (fun c12 => ?_) (fun c12 => ?_)
  ·skip
   refine W.skip ?_
   refine thenK_n ?_
   refine W.cond rfl (fun c13 => ?_) (fun c13 => ?_)
   ·skip
    refine W.seq ?_
    refine W.region ?_
    refine S.pure tOk zOk rfl rfl rfl ?_
    refine S.pure tOk zOk rfl rfl rfl ?_
    refine S.pure tOk zOk rfl rfl rfl ?_
    refine thenK_n ?_
    refine W.ret ?_
    refine blockK_r ?_
    refine thenK_r ?_
    exact ⟨_, rfl, rfl, LeV.of_force rfl (by simp_all [usTu, usOld, usNew])⟩
   ·skip
    refine W.seq ?_
    refine W.seq ?_
    refine W.region ?_
    refine S.pure tOk zOk rfl rfl rfl ?_
    refine S.pure tOk zOk rfl rfl rfl ?_
    refine thenK_n ?_
    refine W.cond rfl (fun c14 => ?_) (fun c14 => ?_)
    ·skip
     refine W.skip ?_
     refine thenK_n ?_
     refine W.cond rfl (fun c15 => ?_) (fun c15 => ?_)
     ·skip
      refine W.seq ?_
      refine W.region ?_
      refine S.pure tOk zOk rfl rfl rfl ?_
      refine S.pure tOk zOk rfl rfl rfl ?_
      refine S.pure tOk zOk rfl rfl rfl ?_
      refine thenK_n ?_
      refine W.ret ?_
      refine blockK_r ?_
      refine thenK_r ?_
      exact ⟨_, rfl, rfl, LeV.of_force rfl (by simp_all [usTu, usOld, usNew])⟩
     ·skip
      refine W.seq ?_
      refine W.seq ?_
      refine W.region ?_
      refine S.pure tOk zOk rfl rfl rfl ?_
      refine S.pure tOk zOk rfl rfl rfl ?_
      refine thenK_n ?_
      refine W.cond rfl (fun c16 => ?_) (fun c16 => ?_)
      ·skip
       refine W.skip ?_
       refine thenK_n ?_
       refine W.cond rfl (fun c17 => ?_) (fun c17 => ?_)
       ·skip
        refine W.seq ?_
        refine W.region ?_
        refine S.pure tOk zOk rfl rfl rfl ?_
        refine S.pure tOk zOk rfl rfl rfl ?_
        refine S.pure tOk zOk rfl rfl rfl ?_
        refine thenK_n ?_
        refine W.ret ?_
        refine blockK_r ?_
        refine thenK_r ?_
        exact ⟨_, rfl, rfl, LeV.of_force rfl (by simp_all [usTu, usOld, usNew])⟩
       ·skip
        refine W.skip ?_
        refine blockK_n ?_
        refine thenK_n ?_
        refine W.seq ?_
        refine W.region ?_
        refine S.pure tOk zOk rfl rfl rfl ?_
        refine S.pure tOk zOk rfl rfl rfl ?_
        refine S.pure tOk zOk rfl rfl rfl ?_
        refine thenK_n ?_
        refine W.ret ?_
        exact ⟨_, rfl, rfl, LeV.of_force rfl (by simp_all [usTu, usOld, usNew])⟩
      ·skip
       refine W.region ?_
       refine S.pure tOk zOk rfl rfl rfl ?_
       refine S.pure tOk zOk rfl rfl rfl ?_
       refine thenK_n ?_
       refine W.cond rfl (fun c18 => ?_) (fun c18 => ?_)
       ·skip
        refine W.seq ?_
        refine W.region ?_
        refine S.pure tOk zOk rfl rfl rfl ?_
        refine S.pure tOk zOk rfl rfl rfl ?_
        refine S.pure tOk zOk rfl rfl rfl ?_
        refine thenK_n ?_
        refine W.ret ?_
        refine blockK_r ?_
        refine thenK_r ?_
        exact ⟨_, rfl, rfl, LeV.of_force rfl (by simp_all [usTu, usOld, usNew])⟩
       ·skip
        refine W.skip ?_
        refine blockK_n ?_
        refine thenK_n ?_
        refine W.seq ?_
        refine W.region ?_
        refine S.pure tOk zOk rfl rfl rfl ?_
        refine S.pure tOk zOk rfl rfl rfl ?_
        refine S.pure tOk zOk rfl rfl rfl ?_
        refine thenK_n ?_
        refine W.ret ?_
        exact ⟨_, rfl, rfl, LeV.of_force rfl (by simp_all [usTu, usOld, usNew])⟩
    ·skip
     refine W.region ?_
     refine S.pure tOk zOk rfl rfl rfl ?_
     refine S.pure tOk zOk rfl rfl rfl ?_
     refine thenK_n ?_
     refine W.cond rfl (fun c19 => ?_) (fun c19 => ?_)
     ·skip
      refine W.seq ?_
      refine W.region ?_
      refine S.pure tOk zOk rfl rfl rfl ?_
      refine S.pure tOk zOk rfl rfl rfl ?_
      refine S.pure tOk zOk rfl rfl rfl ?_
      refine thenK_n ?_
      refine W.ret ?_
      refine blockK_r ?_
      refine thenK_r ?_
      exact ⟨_, rfl, rfl, LeV.of_force rfl (by simp_all [usTu, usOld, usNew])⟩
     ·skip
      refine W.seq ?_
      refine W.seq ?_
      refine W.region ?_
      refine S.pure tOk zOk rfl rfl rfl ?_
      refine S.pure tOk zOk rfl rfl rfl ?_
      refine thenK_n ?_
      refine W.cond rfl (fun c20 => ?_) (fun c20 => ?_)
      ·skip
       refine W.skip ?_
       refine thenK_n ?_
       refine W.cond rfl (fun c21 => ?_) (fun c21 => ?_)
       ·skip
        refine W.seq ?_
        refine W.region ?_
        refine S.pure tOk zOk rfl rfl rfl ?_
        refine S.pure tOk zOk rfl rfl rfl ?_
        refine S.pure tOk zOk rfl rfl rfl ?_
        refine thenK_n ?_
        refine W.ret ?_
        refine blockK_r ?_
        refine thenK_r ?_
        exact ⟨_, rfl, rfl, LeV.of_force rfl (by simp_all [usTu, usOld, usNew])⟩
       ·skip
        refine W.skip ?_
        refine blockK_n ?_
        refine thenK_n ?_
        refine W.seq ?_
        refine W.region ?_
        refine S.pure tOk zOk rfl rfl rfl ?_
        refine S.pure tOk zOk rfl rfl rfl ?_
        refine S.pure tOk zOk rfl rfl rfl ?_
        refine thenK_n ?_
        refine W.ret ?_
        exact ⟨_, rfl, rfl, LeV.of_force rfl (by simp_all [usTu, usOld, usNew])⟩
      ·skip
       refine W.region ?_
       refine S.pure tOk zOk rfl rfl rfl ?_
       refine S.pure tOk zOk rfl rfl rfl ?_
       refine thenK_n ?_
       refine W.cond rfl (fun c22 => ?_) (fun c22 => ?_)
       ·skip
        refine W.seq ?_
        refine W.region ?_
        refine S.pure tOk zOk rfl rfl rfl ?_
        refine S.pure tOk zOk rfl rfl rfl ?_
        refine S.pure tOk zOk rfl rfl rfl ?_
        refine thenK_n ?_
        refine W.ret ?_
        refine blockK_r ?_
        refine thenK_r ?_
        exact ⟨_, rfl, rfl, LeV.of_force rfl (by simp_all [usTu, usOld, usNew])⟩
       ·skip
        refine W.skip ?_
        refine blockK_n ?_
        refine thenK_n ?_
        refine W.seq ?_
        refine W.region ?_
        refine S.pure tOk zOk rfl rfl rfl ?_
        refine S.pure tOk zOk rfl rfl rfl ?_
        refine S.pure tOk zOk rfl rfl rfl ?_
        refine thenK_n ?_
        refine W.ret ?_
        exact ⟨_, rfl, rfl, LeV.of_force rfl (by simp_all [usTu, usOld, usNew])⟩
  ·skip
   refine W.region ?_
   refine S.pure tOk zOk rfl rfl rfl ?_
   refine S.pure tOk zOk rfl rfl rfl ?_
   refine thenK_n ?_
   refine W.cond rfl (fun c23 => ?_) (fun c23 => ?_)
   ·skip
    refine W.seq ?_
    refine W.region ?_
    refine S.pure tOk zOk rfl rfl rfl ?_
    refine S.pure tOk zOk rfl rfl rfl ?_
    refine S.pure tOk zOk rfl rfl rfl ?_
    refine thenK_n ?_
    refine W.ret ?_
    refine blockK_r ?_
    refine thenK_r ?_
    exact ⟨_, rfl, rfl, LeV.of_force rfl (by simp_all [usTu, usOld, usNew])⟩
   ·skip
    refine W.seq ?_
    refine W.seq ?_
    refine W.region ?_
    refine S.pure tOk zOk rfl rfl rfl ?_
    refine S.pure tOk zOk rfl rfl rfl ?_
    refine thenK_n ?_
    refine W.cond rfl (fun c24 => ?_) (fun c24 => ?_)
    ·skip
     refine W.skip ?_
     refine thenK_n ?_
     refine W.cond rfl (fun c25 => ?_) (fun c25 => ?_)
     ·skip
      refine W.seq ?_
      refine W.region ?_
      refine S.pure tOk zOk rfl rfl rfl ?_
      refine S.pure tOk zOk rfl rfl rfl ?_
      refine S.pure tOk zOk rfl rfl rfl ?_
      refine thenK_n ?_
      refine W.ret ?_
      refine blockK_r ?_
      refine thenK_r ?_
      exact ⟨_, rfl, rfl, LeV.of_force rfl (by simp_all [usTu, usOld, usNew])⟩
     ·skip
      refine W.seq ?_
      refine W.seq ?_
      refine W.region ?_
      refine S.pure tOk zOk rfl rfl rfl ?_
      refine S.pure tOk zOk rfl rfl rfl ?_
      refine thenK_n ?_
      refine W.cond rfl (fun c26 => ?_) (fun c26 => ?_)
      ·skip
       refine W.skip ?_
       refine thenK_n ?_
       refine W.cond rfl (fun c27 => ?_) (fun c27 => ?_)
       ·skip
        refine W.seq ?_
        refine W.region ?_
        refine S.pure tOk zOk rfl rfl rfl ?_
        refine S.pure tOk zOk rfl rfl rfl ?_
        refine S.pure tOk zOk rfl rfl rfl ?_
        refine thenK_n ?_
        refine W.ret ?_
        refine blockK_r ?_
        refine thenK_r ?_
        exact ⟨_, rfl, rfl, LeV.of_force rfl (by simp_all [usTu, usOld, usNew])⟩
       ·skip
        refine W.skip ?_
        refine blockK_n ?_
        refine thenK_n ?_
        refine W.seq ?_
        refine W.region ?_
        refine S.pure tOk zOk rfl rfl rfl ?_
        refine S.pure tOk zOk rfl rfl rfl ?_
        refine S.pure tOk zOk rfl rfl rfl ?_
        refine thenK_n ?_
        refine W.ret ?_
        exact ⟨_, rfl, rfl, LeV.of_force rfl (by simp_all [usTu, usOld, usNew])⟩
      ·skip
       refine W.region ?_
       refine S.pure tOk zOk rfl rfl rfl ?_
       refine S.pure tOk zOk rfl rfl rfl ?_
       refine thenK_n ?_
       refine W.cond rfl (fun c28 => ?_) (fun c28 => ?_)
       ·skip
        refine W.seq ?_
        refine W.region ?_
        refine S.pure tOk zOk rfl rfl rfl ?_
        refine S.pure tOk zOk rfl rfl rfl ?_
        refine S.pure tOk zOk rfl rfl rfl ?_
        refine thenK_n ?_
        refine W.ret ?_
        refine blockK_r ?_
        refine thenK_r ?_
        exact ⟨_, rfl, rfl, LeV.of_force rfl (by simp_all [usTu, usOld, usNew])⟩
       ·skip
        refine W.skip ?_
        refine blockK_n ?_
        refine thenK_n ?_
        refine W.seq ?_
        refine W.region ?_
        refine S.pure tOk zOk rfl rfl rfl ?_
        refine S.pure tOk zOk rfl rfl rfl ?_
        refine S.pure tOk zOk rfl rfl rfl ?_
        refine thenK_n ?_
        refine W.ret ?_
        exact ⟨_, rfl, rfl, LeV.of_force rfl (by simp_all [usTu, usOld, usNew])⟩
    ·skip
     refine W.region ?_
     refine S.pure tOk zOk rfl rfl rfl ?_
     refine S.pure tOk zOk rfl rfl rfl ?_
     refine thenK_n ?_
     refine W.cond rfl (fun c29 => ?_) (fun c29 => ?_)
     ·skip
      refine W.seq ?_
      refine W.region ?_
      refine S.pure tOk zOk rfl rfl rfl ?_
      refine S.pure tOk zOk rfl rfl rfl ?_
      refine S.pure tOk zOk rfl rfl rfl ?_
      refine thenK_n ?_
      refine W.ret ?_
      refine blockK_r ?_
      refine thenK_r ?_
      exact ⟨_, rfl, rfl, LeV.of_force rfl (by simp_all [usTu, usOld, usNew])⟩
     ·skip
      refine W.seq ?_
      refine W.seq ?_
      refine W.region ?_
      refine S.pure tOk zOk rfl rfl rfl ?_
      refine S.pure tOk zOk rfl rfl rfl ?_
      refine thenK_n ?_
      refine W.cond rfl (fun c30 => ?_) (fun c30 => ?_)
      ·skip
       refine W.skip ?_
       refine thenK_n ?_
       refine W.cond rfl (fun c31 => ?_) (fun c31 => ?_)
       ·skip
        refine W.seq ?_
        refine W.region ?_
        refine S.pure tOk zOk rfl rfl rfl ?_
        refine S.pure tOk zOk rfl rfl rfl ?_
        refine S.pure tOk zOk rfl rfl rfl ?_
        refine thenK_n ?_
        refine W.ret ?_
        refine blockK_r ?_
        refine thenK_r ?_
        exact ⟨_, rfl, rfl, LeV.of_force rfl (by simp_all [usTu, usOld, usNew])⟩
       ·skip
        refine W.skip ?_
        refine blockK_n ?_
        refine thenK_n ?_
        refine W.seq ?_
        refine W.region ?_
        refine S.pure tOk zOk rfl rfl rfl ?_
        refine S.pure tOk zOk rfl rfl rfl ?_
        refine S.pure tOk zOk rfl rfl rfl ?_
        refine thenK_n ?_
        refine W.ret ?_
        exact ⟨_, rfl, rfl, LeV.of_force rfl (by simp_all [usTu, usOld, usNew])⟩
      ·skip
       refine W.region ?_
       refine S.pure tOk zOk rfl rfl rfl ?_
       refine S.pure tOk zOk rfl rfl rfl ?_
       refine thenK_n ?_
       refine W.cond rfl (fun c32 => ?_) (fun c32 => ?_)
       ·skip
        refine W.seq ?_
        refine W.region ?_
        refine S.pure tOk zOk rfl rfl rfl ?_
        refine S.pure tOk zOk rfl rfl rfl ?_
        refine S.pure tOk zOk rfl rfl rfl ?_
        refine thenK_n ?_
        refine W.ret ?_
        refine blockK_r ?_
        refine thenK_r ?_
        exact ⟨_, rfl, rfl, LeV.of_force rfl (by simp_all [usTu, usOld, usNew])⟩
       ·skip
        refine W.skip ?_
        refine blockK_n ?_
        refine thenK_n ?_
        refine W.seq ?_
        refine W.region ?_
        refine S.pure tOk zOk rfl rfl rfl ?_
        refine S.pure tOk zOk rfl rfl rfl ?_
        refine S.pure tOk zOk rfl rfl rfl ?_
        refine thenK_n ?_
        refine W.ret ?_
        exact ⟨_, rfl, rfl, LeV.of_force rfl (by simp_all [usTu, usOld, usNew])⟩
theorem pc_mbelow (a b : List UInt8) (hb : b.length ≤ 1000000000) :
  PureCall Tryz.prog J 115 [.one (.d (.str a)), .one (.d (.str b))] (.one (.d (.bool (belowB a b)))) := by
 refine PureCall.of_body tOk (fn := Tryz.f115) Tryz.func115 (by kernel_rfl) rfl (Nat.le_of_ble_eq_true rfl) (fun E => ?_)
 refine W.seq ?_
 refine W.region ?_
 refine S.pure tOk zOk rfl rfl rfl ?_
 refine thenK_n ?_
 refine W.seq ?_
 refine W.region ?_
 refine S.pure tOk zOk rfl rfl rfl ?_
 refine S.pure tOk zOk rfl rfl rfl ?_
 refine S.pure tOk zOk rfl (cat_ok (by simp [-List.getD_eq_getElem?_getD]; omega)) rfl ?_
 refine S.call rfl rfl rfl rfl rfl (pc_HasPrefix a (b ++ [47])) ?_
 refine S.pure tOk zOk rfl rfl rfl ?_
 refine thenK_n ?_
 refine W.ret ?_
 exact ⟨_, rfl, rfl, LeV.refl _⟩
theorem pc_CheckRule (r : Rul) (hr : RulB r) :
  PureCall Tryz.prog J 104 [.agg [.d (.int .i64 r.kd), .d (.str r.k), .d (.str r.tu), .d (.str r.old), .d (.str r.nu)]] (.one (.d (.int .i64 (ruleC r)))) := by
 obtain ⟨hr1, hr2, hr3, hr4⟩ := hr
 refine PureCall.of_body tOk (fn := Tryz.f104) Tryz.func104 (by kernel_rfl) rfl (Nat.le_of_ble_eq_true rfl) (fun E => ?_)
 refine W.seq ?_
 refine W.region ?_
 refine S.box rfl rfl rfl rfl ?_
 refine S.pure tOk zOk rfl rfl rfl ?_
 refine thenK_n ?_
 refine W.seq ?_
 refine W.seq ?_
 refine W.region ?_
 refine S.pure tOk zOk rfl rfl rfl ?_
 refine S.pure tOk zOk rfl rfl rfl ?_
 refine S.pure tOk zOk rfl rfl rfl ?_
 refine S.pure tOk zOk rfl rfl rfl ?_
 refine S.pureG tOk zOk rfl rfl tg (fun _ => rfl) rfl ?_
 refine S.pureG tOk zOk rfl rfl tg (fun _ => rfl) rfl ?_
 refine S.pureG tOk zOk rfl rfl tg (fun _ => rfl) rfl ?_
 refine S.pickOr tOk zOk rfl rfl tg ?_
 refine thenK_n ?_
 refine W.cond rfl (fun c1 => ?_) (fun c1 => ?_)
 ·skip
  refine W.seq ?_
  refine W.region ?_
  refine S.pure tOk zOk rfl rfl rfl ?_
  refine thenK_n ?_
  refine W.ret ?_
  refine thenK_r ?_
  exact ⟨_, rfl, rfl, LeV.of_force rfl (congrArg (fun x : Int => V.one (C.d (D.int .i64 x))) ((if_pos c1) : ruleC r = _)).symm⟩
 ·skip
  refine W.skip ?_
  refine thenK_n ?_
  refine W.seq ?_
  refine W.region ?_
  refine S.pure tOk zOk rfl rfl rfl ?_
  refine S.pure tOk zOk rfl rfl rfl ?_
  refine S.call rfl rfl rfl rfl rfl (pc_uses _) ?_
  refine S.pure tOk zOk rfl rfl rfl ?_
  refine S.pure tOk zOk rfl rfl rfl ?_
  refine S.pure tOk zOk rfl rfl rfl ?_
  refine S.pure tOk zOk rfl rfl rfl ?_
  refine S.pure tOk zOk rfl rfl rfl ?_
  refine S.pure tOk zOk rfl rfl rfl ?_
  refine S.pure tOk zOk rfl rfl rfl ?_
  refine thenK_n ?_
  refine W.seq ?_
  refine W.block ?_
  refine W.seq ?_
  refine W.region ?_
  refine S.pure tOk zOk rfl rfl rfl ?_
  refine S.pure tOk zOk rfl rfl rfl ?_
  refine S.call rfl rfl rfl rfl rfl (pc_ver_IsPath r.k (by omega)) ?_
  refine S.pure tOk zOk rfl rfl rfl ?_
  refine S.pure tOk zOk rfl rfl rfl ?_
  refine S.pureG tOk zOk rfl rfl tg (fun _ => rfl) rfl ?_
  refine S.pureG tOk zOk rfl rfl tg (fun _ => rfl) rfl ?_
  refine S.pureG tOk zOk rfl rfl tg (fun _ => rfl) rfl ?_
  refine S.pureG tOk zOk rfl rfl tg (fun _ => rfl) rfl ?_
  refine S.callG rfl rfl rfl rfl tg rfl rfl (fun _ => pc_ver_IsPath r.tu (by omega)) ?_
  refine S.pureG tOk zOk rfl rfl tg (fun _ => rfl) rfl ?_
  refine S.pickAndG tOk zOk rfl rfl rfl tg tg ?_
  refine S.pickOr tOk zOk rfl rfl tg ?_
  refine S.pure tOk zOk rfl rfl rfl ?_
  refine thenK_n ?_
  refine W.cond rfl (fun c2 => ?_) (fun c2 => ?_)
  ·skip
   refine W.seq ?_
   refine W.region ?_
   refine S.pure tOk zOk rfl rfl rfl ?_
   refine thenK_n ?_
   refine W.ret ?_
   refine blockK_r ?_
   refine thenK_r ?_
   exact ⟨_, rfl, rfl, LeV.of_force rfl (congrArg (fun x : Int => V.one (C.d (D.int .i64 x))) (((if_neg (Bool.eq_false_iff.1 c1)).trans (if_pos c2)) : ruleC r = _)).symm⟩
  ·skip
   refine W.seq ?_
   refine W.region ?_
   refine S.pure tOk zOk rfl rfl rfl ?_
   refine S.pure tOk zOk rfl rfl rfl ?_
   refine S.pure tOk zOk rfl rfl rfl ?_
   refine S.pureG tOk zOk rfl rfl tg (fun _ => rfl) rfl ?_
   refine S.pureG tOk zOk rfl rfl tg (fun _ => rfl) rfl ?_
   refine S.pureG tOk zOk rfl rfl tg (fun _ => rfl) rfl ?_
   refine S.pickAnd tOk zOk rfl rfl tg ?_
   refine S.pure tOk zOk rfl rfl rfl ?_
   refine S.pureG tOk zOk rfl rfl tg (fun _ => rfl) rfl ?_
   refine S.pureG tOk zOk rfl rfl tg (fun _ => rfl) rfl ?_
   refine S.pureG tOk zOk rfl rfl tg (fun _ => rfl) rfl ?_
   refine S.pureG tOk zOk rfl rfl tg (fun _ => rfl) rfl ?_
   refine S.pureG tOk zOk rfl rfl tg (fun _ => rfl) rfl ?_
   refine S.pureG tOk zOk rfl rfl tg (fun _ => rfl) rfl ?_
   refine S.pickAndG tOk zOk rfl rfl rfl tg tg ?_
   refine S.pickOr tOk zOk rfl rfl tg ?_
   refine S.pure tOk zOk rfl rfl rfl ?_
   refine S.pureG tOk zOk rfl rfl tg (fun _ => rfl) rfl ?_
   refine S.pureG tOk zOk rfl rfl tg (fun _ => rfl) rfl ?_
   refine S.pureG tOk zOk rfl rfl tg (fun _ => rfl) rfl ?_
   refine S.pureG tOk zOk rfl rfl tg (fun _ => rfl) rfl ?_
   refine S.pureG tOk zOk rfl rfl tg (fun _ => rfl) rfl ?_
   refine S.pureG tOk zOk rfl rfl tg (fun _ => rfl) rfl ?_
   refine S.pickAndG tOk zOk rfl rfl rfl tg tg ?_
   refine S.pickOr tOk zOk rfl rfl tg ?_
   refine S.pure tOk zOk rfl rfl rfl ?_
   refine S.pureG tOk zOk rfl rfl tg (fun _ => rfl) rfl ?_
   refine S.pureG tOk zOk rfl rfl tg (fun _ => rfl) rfl ?_
   refine S.callG rfl rfl rfl rfl tg rfl rfl (fun _ => pc_ver_IsValue r.old (by omega)) ?_
   refine S.pureG tOk zOk rfl rfl tg (fun _ => rfl) rfl ?_
   refine S.pickOr tOk zOk rfl rfl tg ?_
   refine S.pure tOk zOk rfl rfl rfl ?_
   refine S.pureG tOk zOk rfl rfl tg (fun _ => rfl) rfl ?_
   refine S.pureG tOk zOk rfl rfl tg (fun _ => rfl) rfl ?_
   refine S.callG rfl rfl rfl rfl tg rfl rfl (fun _ => pc_ver_IsValue r.nu (by omega)) ?_
   refine S.pureG tOk zOk rfl rfl tg (fun _ => rfl) rfl ?_
   refine S.pickOr tOk zOk rfl rfl tg ?_
   refine S.pure tOk zOk rfl rfl rfl ?_
   refine thenK_n ?_
   refine W.cond rfl (fun c3 => ?_) (fun c3 => ?_)
   ·skip
    refine W.seq ?_
    refine W.region ?_
    refine S.pure tOk zOk rfl rfl rfl ?_
    refine thenK_n ?_
    refine W.ret ?_
    refine blockK_r ?_
    refine thenK_r ?_
    exact ⟨_, rfl, rfl, LeV.of_force rfl (congrArg (fun x : Int => V.one (C.d (D.int .i64 x))) (((if_neg (Bool.eq_false_iff.1 c1)).trans ((if_neg (Bool.eq_false_iff.1 c2)).trans (if_pos c3))) : ruleC r = _)).symm⟩
   ·skip
    refine W.seq ?_
    refine W.region ?_
    refine S.pure tOk zOk rfl rfl rfl ?_
    refine S.pure tOk zOk rfl rfl rfl ?_
    refine S.pureG tOk zOk rfl rfl tg (fun _ => rfl) rfl ?_
    refine S.pureG tOk zOk rfl rfl tg (fun _ => rfl) rfl ?_
    refine S.pureG tOk zOk rfl rfl tg (fun _ => rfl) rfl ?_
    refine S.pureG tOk zOk rfl rfl tg (fun _ => rfl) rfl ?_
    refine S.pureG tOk zOk rfl rfl tg (fun _ => rfl) rfl ?_
    refine S.pickAnd tOk zOk rfl rfl tg ?_
    refine S.pure tOk zOk rfl rfl rfl ?_
    refine thenK_n ?_
    refine W.cond rfl (fun c4 => ?_) (fun c4 => ?_)
    ·skip
     refine W.seq ?_
     refine W.region ?_
     refine S.pure tOk zOk rfl rfl rfl ?_
     refine thenK_n ?_
     refine W.ret ?_
     refine blockK_r ?_
     refine thenK_r ?_
     exact ⟨_, rfl, rfl, LeV.of_force rfl (congrArg (fun x : Int => V.one (C.d (D.int .i64 x))) (((if_neg (Bool.eq_false_iff.1 c1)).trans ((if_neg (Bool.eq_false_iff.1 c2)).trans ((if_neg (Bool.eq_false_iff.1 c3)).trans (if_pos c4)))) : ruleC r = _)).symm⟩
    ·skip
     refine W.seq ?_
     refine W.region ?_
     refine S.pure tOk zOk rfl rfl rfl ?_
     refine S.pure tOk zOk rfl rfl rfl ?_
     refine S.pure tOk zOk rfl rfl rfl ?_
     refine S.pure tOk zOk rfl rfl rfl ?_
     refine S.pureG tOk zOk rfl rfl tg (fun _ => rfl) rfl ?_
     refine S.pureG tOk zOk rfl rfl tg (fun _ => rfl) rfl ?_
     refine S.pureG tOk zOk rfl rfl tg (fun _ => rfl) rfl ?_
     refine S.pureG tOk zOk rfl rfl tg (fun _ => rfl) rfl ?_
     refine S.callG rfl rfl rfl rfl tg rfl rfl (fun _ => pc_mbelow r.k r.tu (by omega)) ?_
     refine S.pureG tOk zOk rfl rfl tg (fun _ => rfl) rfl ?_
     refine S.pureG tOk zOk rfl rfl tg (fun _ => rfl) rfl ?_
     refine S.pureG tOk zOk rfl rfl tg (fun _ => rfl) rfl ?_
     refine S.pureG tOk zOk rfl rfl tg (fun _ => rfl) rfl ?_
     refine S.pureG tOk zOk rfl rfl tg (fun _ => rfl) rfl ?_
     refine S.callG rfl rfl rfl rfl tg rfl rfl (fun _ => pc_mbelow r.tu r.k (by omega)) ?_
     refine S.pickOrG tOk zOk rfl rfl rfl tg tg ?_
     refine S.pickAnd tOk zOk rfl rfl tg ?_
     refine S.pure tOk zOk rfl rfl rfl ?_
     refine thenK_n ?_
     refine W.cond rfl (fun c5 => ?_) (fun c5 => ?_)
     ·skip
      refine W.seq ?_
      refine W.region ?_
      refine S.pure tOk zOk rfl rfl rfl ?_
      refine thenK_n ?_
      refine W.ret ?_
      refine blockK_r ?_
      refine thenK_r ?_
      exact ⟨_, rfl, rfl, LeV.of_force rfl (congrArg (fun x : Int => V.one (C.d (D.int .i64 x))) (((if_neg (Bool.eq_false_iff.1 c1)).trans ((if_neg (Bool.eq_false_iff.1 c2)).trans ((if_neg (Bool.eq_false_iff.1 c3)).trans ((if_neg (Bool.eq_false_iff.1 c4)).trans (if_pos c5))))) : ruleC r = _)).symm⟩
     ·skip
      refine W.seq ?_
      refine W.region ?_
      refine S.pure tOk zOk rfl rfl rfl ?_
      refine S.pure tOk zOk rfl rfl rfl ?_
      refine S.pureG tOk zOk rfl rfl tg (fun _ => rfl) rfl ?_
      refine S.pureG tOk zOk rfl rfl tg (fun _ => rfl) rfl ?_
      refine S.pureG tOk zOk rfl rfl tg (fun _ => rfl) rfl ?_
      refine S.pureG tOk zOk rfl rfl tg (fun _ => rfl) rfl ?_
      refine S.pureG tOk zOk rfl rfl tg (fun _ => rfl) rfl ?_
      refine S.pickAnd tOk zOk rfl rfl tg ?_
      refine S.pure tOk zOk rfl rfl rfl ?_
      refine thenK_n ?_
      refine W.cond rfl (fun c6 => ?_) (fun c6 => ?_)
      ·skip
       refine W.seq ?_
       refine W.region ?_
       refine S.pure tOk zOk rfl rfl rfl ?_
       refine thenK_n ?_
       refine W.ret ?_
       refine blockK_r ?_
       refine thenK_r ?_
       exact ⟨_, rfl, rfl, LeV.of_force rfl (congrArg (fun x : Int => V.one (C.d (D.int .i64 x))) (((if_neg (Bool.eq_false_iff.1 c1)).trans ((if_neg (Bool.eq_false_iff.1 c2)).trans ((if_neg (Bool.eq_false_iff.1 c3)).trans ((if_neg (Bool.eq_false_iff.1 c4)).trans ((if_neg (Bool.eq_false_iff.1 c5)).trans (if_pos c6)))))) : ruleC r = _)).symm⟩
      ·skip
       refine W.skip ?_
       refine blockK_n ?_
       refine thenK_n ?_
       refine W.seq ?_
       refine W.region ?_
       refine S.pure tOk zOk rfl rfl rfl ?_
       refine thenK_n ?_
       refine W.ret ?_
       exact ⟨_, rfl, rfl, LeV.of_force rfl (congrArg (fun x : Int => V.one (C.d (D.int .i64 x))) (((if_neg (Bool.eq_false_iff.1 c1)).trans ((if_neg (Bool.eq_false_iff.1 c2)).trans ((if_neg (Bool.eq_false_iff.1 c3)).trans ((if_neg (Bool.eq_false_iff.1 c4)).trans ((if_neg (Bool.eq_false_iff.1 c5)).trans (if_neg (Bool.eq_false_iff.1 c6))))))) : ruleC r = _)).symm⟩
def ruleW (x : Int) : L8 := if x == 1 then [114, 101, 110, 97, 109, 101] else if x == 2 then [112, 114, 101, 102, 105, 120] else if x == 3 then [99, 111, 112, 121] else if x == 4 then [115, 101, 116] else if x == 5 then [100, 101, 102, 97, 117, 108, 116] else if x == 6 then [100, 114, 111, 112] else if x == 7 then [109, 97, 112] else if x == 8 then [115, 119, 97, 112] else []
theorem pc_ruleWord (x : Int) :
  PureCall Tryz.prog J 131 [.one (.d (.int .i64 x))] (.tup [.one (.d (.str (ruleW x))), .one (.d (.bool (usTu x))), .one (.d (.bool (usOld x))), .one (.d (.bool (usNew x)))]) := by
 refine PureCall.of_body tOk (fn := Tryz.f131) Tryz.func131 (by kernel_rfl) rfl (Nat.le_of_ble_eq_true rfl) (fun E => ?_)
 refine W.seq ?_
 refine W.region ?_
 refine S.pure tOk zOk rfl rfl rfl ?_
 refine S.pure tOk zOk rfl rfl rfl ?_
 refine S.pure tOk zOk rfl rfl rfl ?_
 refine S.pure tOk zOk rfl rfl rfl ?_
 refine thenK_n ?_
 refine W.seq ?_
 refine W.seq ?_
 refine W.region ?_
 refine S.pure tOk zOk rfl rfl rfl ?_
 refine thenK_n ?_
 refine W.block ?_
 refine W.seq ?_
 refine W.region ?_
 refine S.pure tOk zOk rfl rfl rfl ?_
 refine S.pure tOk zOk rfl rfl rfl ?_
 refine thenK_n ?_
 refine W.cond rfl (fun c1 => ?_) (fun c1 => ?_)
 ·skip
  refine W.seq ?_
  refine W.region ?_
  refine S.pure tOk zOk rfl rfl rfl ?_
  refine S.pure tOk zOk rfl rfl rfl ?_
  refine S.pure tOk zOk rfl rfl rfl ?_
  refine S.pure tOk zOk rfl rfl rfl ?_
  refine thenK_n ?_
  refine W.ret ?_
  refine blockK_r ?_
  refine thenK_r ?_
  exact ⟨_, rfl, rfl, LeV.of_force rfl (by simp_all [ruleW, usTu, usOld, usNew])⟩
 ·skip
  refine W.seq ?_
  refine W.region ?_
  refine S.pure tOk zOk rfl rfl rfl ?_
  refine S.pure tOk zOk rfl rfl rfl ?_
  refine thenK_n ?_
  refine W.cond rfl (fun c2 => ?_) (fun c2 => ?_)
  ·skip
   refine W.seq ?_
   refine W.region ?_
   refine S.pure tOk zOk rfl rfl rfl ?_
   refine S.pure tOk zOk rfl rfl rfl ?_
   refine S.pure tOk zOk rfl rfl rfl ?_
   refine S.pure tOk zOk rfl rfl rfl ?_
   refine thenK_n ?_
   refine W.ret ?_
   refine blockK_r ?_
   refine thenK_r ?_
   exact ⟨_, rfl, rfl, LeV.of_force rfl (by simp_all [ruleW, usTu, usOld, usNew])⟩
  ·skip
   refine W.seq ?_
   refine W.region ?_
   refine S.pure tOk zOk rfl rfl rfl ?_
   refine S.pure tOk zOk rfl rfl rfl ?_
   refine thenK_n ?_
   refine W.cond rfl (fun c3 => ?_) (fun c3 => ?_)
   ·skip
    refine W.seq ?_
    refine W.region ?_
    refine S.pure tOk zOk rfl rfl rfl ?_
    refine S.pure tOk zOk rfl rfl rfl ?_
    refine S.pure tOk zOk rfl rfl rfl ?_
    refine S.pure tOk zOk rfl rfl rfl ?_
    refine thenK_n ?_
    refine W.ret ?_
    refine blockK_r ?_
    refine thenK_r ?_
    exact ⟨_, rfl, rfl, LeV.of_force rfl (by simp_all [ruleW, usTu, usOld, usNew])⟩
   ·skip
    refine W.seq ?_
    refine W.region ?_
    refine S.pure tOk zOk rfl rfl rfl ?_
    refine S.pure tOk zOk rfl rfl rfl ?_
    refine thenK_n ?_
    refine W.cond rfl (fun c4 => ?_) (fun c4 => ?_)
    ·skip
     refine W.seq ?_
     refine W.region ?_
     refine S.pure tOk zOk rfl rfl rfl ?_
     refine S.pure tOk zOk rfl rfl rfl ?_
     refine S.pure tOk zOk rfl rfl rfl ?_
     refine S.pure tOk zOk rfl rfl rfl ?_
     refine thenK_n ?_
     refine W.ret ?_
     refine blockK_r ?_
     refine thenK_r ?_
     exact ⟨_, rfl, rfl, LeV.of_force rfl (by simp_all [ruleW, usTu, usOld, usNew])⟩
    ·skip
     refine W.seq ?_
     refine W.region ?_
     refine S.pure tOk zOk rfl rfl rfl ?_
     refine S.pure tOk zOk rfl rfl rfl ?_
     refine thenK_n ?_
     refine W.cond rfl (fun c5 => ?_) (fun c5 => ?_)
     ·skip
      refine W.seq ?_
      refine W.region ?_
      refine S.pure tOk zOk rfl rfl rfl ?_
      refine S.pure tOk zOk rfl rfl rfl ?_
      refine S.pure tOk zOk rfl rfl rfl ?_
      refine S.pure tOk zOk rfl rfl rfl ?_
      refine thenK_n ?_
      refine W.ret ?_
      refine blockK_r ?_
      refine thenK_r ?_
      exact ⟨_, rfl, rfl, LeV.of_force rfl (by simp_all [ruleW, usTu, usOld, usNew])⟩
     ·skip
      refine W.seq ?_
      refine W.region ?_
      refine S.pure tOk zOk rfl rfl rfl ?_
      refine S.pure tOk zOk rfl rfl rfl ?_
      refine thenK_n ?_
      refine W.cond rfl (fun c6 => ?_) (fun c6 => ?_)
      ·skip
       refine W.seq ?_
       refine W.region ?_
       refine S.pure tOk zOk rfl rfl rfl ?_
       refine S.pure tOk zOk rfl rfl rfl ?_
       refine S.pure tOk zOk rfl rfl rfl ?_
       refine S.pure tOk zOk rfl rfl rfl ?_
       refine thenK_n ?_
       refine W.ret ?_
       refine blockK_r ?_
       refine thenK_r ?_
       exact ⟨_, rfl, rfl, LeV.of_force rfl (by simp_all [ruleW, usTu, usOld, usNew])⟩
      ·skip
       refine W.seq ?_
       refine W.region ?_
       refine S.pure tOk zOk rfl rfl rfl ?_
       refine S.pure tOk zOk rfl rfl rfl ?_
       refine thenK_n ?_
       refine W.cond rfl (fun c7 => ?_) (fun c7 => ?_)
       ·skip
        refine W.seq ?_
        refine W.region ?_
        refine S.pure tOk zOk rfl rfl rfl ?_
        refine S.pure tOk zOk rfl rfl rfl ?_
        refine S.pure tOk zOk rfl rfl rfl ?_
        refine S.pure tOk zOk rfl rfl rfl ?_
        refine thenK_n ?_
        refine W.ret ?_
        refine blockK_r ?_
        refine thenK_r ?_
        exact ⟨_, rfl, rfl, LeV.of_force rfl (by simp_all [ruleW, usTu, usOld, usNew])⟩
       ·skip
        refine W.seq ?_
        refine W.region ?_
        refine S.pure tOk zOk rfl rfl rfl ?_
        refine S.pure tOk zOk rfl rfl rfl ?_
        refine thenK_n ?_
        refine W.cond rfl (fun c8 => ?_) (fun c8 => ?_)
        ·skip
         refine W.seq ?_
         refine W.region ?_
         refine S.pure tOk zOk rfl rfl rfl ?_
         refine S.pure tOk zOk rfl rfl rfl ?_
         refine S.pure tOk zOk rfl rfl rfl ?_
         refine S.pure tOk zOk rfl rfl rfl ?_
         refine thenK_n ?_
         refine W.ret ?_
         refine blockK_r ?_
         refine thenK_r ?_
         exact ⟨_, rfl, rfl, LeV.of_force rfl (by simp_all [ruleW, usTu, usOld, usNew])⟩
        ·skip
         refine W.skip ?_
         refine blockK_n ?_
         refine thenK_n ?_
         refine W.seq ?_
         refine W.region ?_
         refine S.pure tOk zOk rfl rfl rfl ?_
         refine S.pure tOk zOk rfl rfl rfl ?_
         refine S.pure tOk zOk rfl rfl rfl ?_
         refine S.pure tOk zOk rfl rfl rfl ?_
         refine thenK_n ?_
         refine W.ret ?_
         exact ⟨_, rfl, rfl, LeV.of_force rfl (by simp_all [ruleW, usTu, usOld, usNew])⟩
theorem word_none (x : Int) : (ruleW x == []) = (decide (x < 1) || decide (x > 8)) := by
  unfold ruleW
  by_cases h : 1 ≤ x ∧ x ≤ 8
  · have : x = 1 ∨ x = 2 ∨ x = 3 ∨ x = 4 ∨ x = 5 ∨ x = 6 ∨ x = 7 ∨ x = 8 := by omega
    rcases this with h | h | h | h | h | h | h | h <;> subst h <;> decide
  · have : ∀ k : Int, 1 ≤ k → k ≤ 8 → (x == k) = false := fun k h1 h2 => by
      rw [beq_eq_false_iff_ne]; rintro rfl; exact h ⟨h1, h2⟩
    rw [this 1 (by omega) (by omega), this 2 (by omega) (by omega), this 3 (by omega) (by omega), this 4 (by omega) (by omega), this 5 (by omega) (by omega), this 6 (by omega) (by omega), this 7 (by omega) (by omega), this 8 (by omega) (by omega)]
    have : (decide (x < 1) || decide (x > 8)) = true := by
      rw [Bool.or_eq_true, decide_eq_true_eq, decide_eq_true_eq]; omega
    rw [this]; rfl
/-- The reference's error of a rule. -/
def ruleE (r : Rul) : Int :=
  if ruleW r.kd == [] then 1
  else if !pathB r.k || usTu r.kd && !pathB r.tu then 5
  else if !usTu r.kd && !(r.tu == []) || !usOld r.kd && !(r.old == []) || !usNew r.kd && !(r.nu == []) || !valueB r.old || !valueB r.nu then 2
  else if r.k == r.tu then 11
  else if r.kd == 2 && (Lib.hasPrefix r.k (r.tu ++ [47]) || Lib.hasPrefix r.tu (r.k ++ [47])) then 13
  else if usOld r.kd && r.old == r.nu then 11
  else 0
theorem ruleE_eq (r : Rul) : ruleE r = ruleC r := by
  unfold ruleE ruleC
  rw [word_none]
  split
  · rfl
  · split
    · rfl
    · rename_i h2
      split
      · rfl
      · rename_i h3
        have e : (r.k == r.tu) = (usTu r.kd && r.k == r.tu) := by
          cases hu : usTu r.kd with
          | true => rfl
          | false =>
            rw [hu] at h3
            have h4 : r.tu = [] := by
              by_cases hz : r.tu = []
              · exact hz
              · exfalso; apply h3; simp [hz]
            have h5 : pathB r.k = true := by
              cases hp : pathB r.k with
              | true => rfl
              | false => exfalso; apply h2; simp [hp]
            have : r.k ≠ [] := fun h => by rw [h, path_nil] at h5; cases h5
            rw [h4]; simpa using this
        rw [← e]
        rfl
theorem pc_RuleError (r : Rul) (hr : RulB r) :
  PureCall Tryz.prog J 125 [.agg [.d (.int .i64 r.kd), .d (.str r.k), .d (.str r.tu), .d (.str r.old), .d (.str r.nu)]] (.one (.d (.int .i64 (ruleC r)))) := by
 obtain ⟨hr1, hr2, hr3, hr4⟩ := hr
 rw [← ruleE_eq]
 refine PureCall.of_body tOk (fn := Tryz.f125) Tryz.func125 (by kernel_rfl) rfl (Nat.le_of_ble_eq_true rfl) (fun E => ?_)
 refine W.seq ?_
 refine W.region ?_
 refine S.box rfl rfl rfl rfl ?_
 refine S.pure tOk zOk rfl rfl rfl ?_
 refine thenK_n ?_
 refine W.seq ?_
 refine W.region ?_
 refine S.pure tOk zOk rfl rfl rfl ?_
 refine S.pure tOk zOk rfl rfl rfl ?_
 refine S.call rfl rfl rfl rfl rfl (pc_ruleWord _) ?_
 refine S.pure tOk zOk rfl rfl rfl ?_
 refine S.pure tOk zOk rfl rfl rfl ?_
 refine S.pure tOk zOk rfl rfl rfl ?_
 refine S.pure tOk zOk rfl rfl rfl ?_
 refine S.pure tOk zOk rfl rfl rfl ?_
 refine S.pure tOk zOk rfl rfl rfl ?_
 refine S.pure tOk zOk rfl rfl rfl ?_
 refine S.pure tOk zOk rfl rfl rfl ?_
 refine S.pure tOk zOk rfl rfl rfl ?_
 refine thenK_n ?_
 refine W.seq ?_
 refine W.block ?_
 refine W.seq ?_
 refine W.region ?_
 refine S.pure tOk zOk rfl rfl rfl ?_
 refine S.pure tOk zOk rfl rfl rfl ?_
 refine S.pure tOk zOk rfl rfl rfl ?_
 refine thenK_n ?_
 refine W.cond rfl (fun c1 => ?_) (fun c1 => ?_)
 ·skip
  refine W.seq ?_
  refine W.region ?_
  refine S.pure tOk zOk rfl rfl rfl ?_
  refine thenK_n ?_
  refine W.ret ?_
  refine blockK_r ?_
  refine thenK_r ?_
  exact ⟨_, rfl, rfl, LeV.of_force rfl (congrArg (fun x : Int => V.one (C.d (D.int .i64 x))) ((if_pos c1) : ruleE r = _)).symm⟩
 ·skip
  refine W.seq ?_
  refine W.region ?_
  refine S.pure tOk zOk rfl rfl rfl ?_
  refine S.pure tOk zOk rfl rfl rfl ?_
  refine S.call rfl rfl rfl rfl rfl (pc_outref2_PathOf r.k (by omega)) ?_
  refine S.pure tOk zOk rfl rfl rfl ?_
  refine S.pure tOk zOk rfl rfl rfl ?_
  refine S.pureG tOk zOk rfl rfl tg (fun _ => rfl) rfl ?_
  refine S.pureG tOk zOk rfl rfl tg (fun _ => rfl) rfl ?_
  refine S.pureG tOk zOk rfl rfl tg (fun _ => rfl) rfl ?_
  refine S.pureG tOk zOk rfl rfl tg (fun _ => rfl) rfl ?_
  refine S.callG rfl rfl rfl rfl tg rfl rfl (fun _ => pc_outref2_PathOf r.tu (by omega)) ?_
  refine S.pureG tOk zOk rfl rfl tg (fun _ => rfl) rfl ?_
  refine S.pickAndG tOk zOk rfl rfl rfl tg tg ?_
  refine S.pickOr tOk zOk rfl rfl tg ?_
  refine S.pure tOk zOk rfl rfl rfl ?_
  refine thenK_n ?_
  refine W.cond rfl (fun c2 => ?_) (fun c2 => ?_)
  ·skip
   refine W.seq ?_
   refine W.region ?_
   refine S.pure tOk zOk rfl rfl rfl ?_
   refine thenK_n ?_
   refine W.ret ?_
   refine blockK_r ?_
   refine thenK_r ?_
   exact ⟨_, rfl, rfl, LeV.of_force rfl (congrArg (fun x : Int => V.one (C.d (D.int .i64 x))) (((if_neg (Bool.eq_false_iff.1 c1)).trans (if_pos c2)) : ruleE r = _)).symm⟩
  ·skip
   refine W.seq ?_
   refine W.region ?_
   refine S.pure tOk zOk rfl rfl rfl ?_
   refine S.pure tOk zOk rfl rfl rfl ?_
   refine S.pure tOk zOk rfl rfl rfl ?_
   refine S.pureG tOk zOk rfl rfl tg (fun _ => rfl) rfl ?_
   refine S.pureG tOk zOk rfl rfl tg (fun _ => rfl) rfl ?_
   refine S.pureG tOk zOk rfl rfl tg (fun _ => rfl) rfl ?_
   refine S.pickAnd tOk zOk rfl rfl tg ?_
   refine S.pure tOk zOk rfl rfl rfl ?_
   refine S.pureG tOk zOk rfl rfl tg (fun _ => rfl) rfl ?_
   refine S.pureG tOk zOk rfl rfl tg (fun _ => rfl) rfl ?_
   refine S.pureG tOk zOk rfl rfl tg (fun _ => rfl) rfl ?_
   refine S.pureG tOk zOk rfl rfl tg (fun _ => rfl) rfl ?_
   refine S.pureG tOk zOk rfl rfl tg (fun _ => rfl) rfl ?_
   refine S.pureG tOk zOk rfl rfl tg (fun _ => rfl) rfl ?_
   refine S.pickAndG tOk zOk rfl rfl rfl tg tg ?_
   refine S.pickOr tOk zOk rfl rfl tg ?_
   refine S.pure tOk zOk rfl rfl rfl ?_
   refine S.pureG tOk zOk rfl rfl tg (fun _ => rfl) rfl ?_
   refine S.pureG tOk zOk rfl rfl tg (fun _ => rfl) rfl ?_
   refine S.pureG tOk zOk rfl rfl tg (fun _ => rfl) rfl ?_
   refine S.pureG tOk zOk rfl rfl tg (fun _ => rfl) rfl ?_
   refine S.pureG tOk zOk rfl rfl tg (fun _ => rfl) rfl ?_
   refine S.pureG tOk zOk rfl rfl tg (fun _ => rfl) rfl ?_
   refine S.pickAndG tOk zOk rfl rfl rfl tg tg ?_
   refine S.pickOr tOk zOk rfl rfl tg ?_
   refine S.pure tOk zOk rfl rfl rfl ?_
   refine S.pureG tOk zOk rfl rfl tg (fun _ => rfl) rfl ?_
   refine S.pureG tOk zOk rfl rfl tg (fun _ => rfl) rfl ?_
   refine S.callG rfl rfl rfl rfl tg rfl rfl (fun _ => pc_outref2_ValueOf r.old (by omega)) ?_
   refine S.pureG tOk zOk rfl rfl tg (fun _ => rfl) rfl ?_
   refine S.pickOr tOk zOk rfl rfl tg ?_
   refine S.pure tOk zOk rfl rfl rfl ?_
   refine S.pureG tOk zOk rfl rfl tg (fun _ => rfl) rfl ?_
   refine S.pureG tOk zOk rfl rfl tg (fun _ => rfl) rfl ?_
   refine S.callG rfl rfl rfl rfl tg rfl rfl (fun _ => pc_outref2_ValueOf r.nu (by omega)) ?_
   refine S.pureG tOk zOk rfl rfl tg (fun _ => rfl) rfl ?_
   refine S.pickOr tOk zOk rfl rfl tg ?_
   refine S.pure tOk zOk rfl rfl rfl ?_
   refine thenK_n ?_
   refine W.cond rfl (fun c3 => ?_) (fun c3 => ?_)
   ·skip
    refine W.seq ?_
    refine W.region ?_
    refine S.pure tOk zOk rfl rfl rfl ?_
    refine thenK_n ?_
    refine W.ret ?_
    refine blockK_r ?_
    refine thenK_r ?_
    exact ⟨_, rfl, rfl, LeV.of_force rfl (congrArg (fun x : Int => V.one (C.d (D.int .i64 x))) (((if_neg (Bool.eq_false_iff.1 c1)).trans ((if_neg (Bool.eq_false_iff.1 c2)).trans (if_pos c3))) : ruleE r = _)).symm⟩
   ·skip
    refine W.seq ?_
    refine W.region ?_
    refine S.pure tOk zOk rfl rfl rfl ?_
    refine S.pure tOk zOk rfl rfl rfl ?_
    refine S.pure tOk zOk rfl rfl rfl ?_
    refine S.pure tOk zOk rfl rfl rfl ?_
    refine S.pure tOk zOk rfl rfl rfl ?_
    refine S.pure tOk zOk rfl rfl rfl ?_
    refine thenK_n ?_
    refine W.cond rfl (fun c4 => ?_) (fun c4 => ?_)
    ·skip
     refine W.seq ?_
     refine W.region ?_
     refine S.pure tOk zOk rfl rfl rfl ?_
     refine thenK_n ?_
     refine W.ret ?_
     refine blockK_r ?_
     refine thenK_r ?_
     exact ⟨_, rfl, rfl, LeV.of_force rfl (congrArg (fun x : Int => V.one (C.d (D.int .i64 x))) (((if_neg (Bool.eq_false_iff.1 c1)).trans ((if_neg (Bool.eq_false_iff.1 c2)).trans ((if_neg (Bool.eq_false_iff.1 c3)).trans (if_pos c4)))) : ruleE r = _)).symm⟩
    ·skip
     refine W.seq ?_
     refine W.region ?_
     refine S.pure tOk zOk rfl rfl rfl ?_
     refine S.pure tOk zOk rfl rfl rfl ?_
     refine S.pure tOk zOk rfl rfl rfl ?_
     refine S.pure tOk zOk rfl rfl rfl ?_
     refine S.pureG tOk zOk rfl rfl tg (fun _ => rfl) rfl ?_
     refine S.pureG tOk zOk rfl rfl tg (fun _ => rfl) rfl ?_
     refine S.pureG tOk zOk rfl rfl tg (fun _ => rfl) rfl ?_
     refine S.pureG tOk zOk rfl rfl tg (fun _ => rfl) rfl ?_
     refine S.pureG tOk zOk rfl rfl tg (fun _ => cat_ok (by simp [-List.getD_eq_getElem?_getD]; omega)) rfl ?_
     refine S.callG rfl rfl rfl rfl tg rfl rfl (fun _ => pc_HasPrefix r.k (r.tu ++ [47])) ?_
     refine S.pureG tOk zOk rfl rfl tg (fun _ => rfl) rfl ?_
     refine S.pureG tOk zOk rfl rfl tg (fun _ => rfl) rfl ?_
     refine S.pureG tOk zOk rfl rfl tg (fun _ => rfl) rfl ?_
     refine S.pureG tOk zOk rfl rfl tg (fun _ => rfl) rfl ?_
     refine S.pureG tOk zOk rfl rfl tg (fun _ => rfl) rfl ?_
     refine S.pureG tOk zOk rfl rfl tg (fun _ => cat_ok (by simp [-List.getD_eq_getElem?_getD]; omega)) rfl ?_
     refine S.callG rfl rfl rfl rfl tg rfl rfl (fun _ => pc_HasPrefix r.tu (r.k ++ [47])) ?_
     refine S.pickOrG tOk zOk rfl rfl rfl tg tg ?_
     refine S.pickAnd tOk zOk rfl rfl tg ?_
     refine S.pure tOk zOk rfl rfl rfl ?_
     refine thenK_n ?_
     refine W.cond rfl (fun c5 => ?_) (fun c5 => ?_)
     ·skip
      refine W.seq ?_
      refine W.region ?_
      refine S.pure tOk zOk rfl rfl rfl ?_
      refine thenK_n ?_
      refine W.ret ?_
      refine blockK_r ?_
      refine thenK_r ?_
      exact ⟨_, rfl, rfl, LeV.of_force rfl (congrArg (fun x : Int => V.one (C.d (D.int .i64 x))) (((if_neg (Bool.eq_false_iff.1 c1)).trans ((if_neg (Bool.eq_false_iff.1 c2)).trans ((if_neg (Bool.eq_false_iff.1 c3)).trans ((if_neg (Bool.eq_false_iff.1 c4)).trans (if_pos c5))))) : ruleE r = _)).symm⟩
     ·skip
      refine W.seq ?_
      refine W.region ?_
      refine S.pure tOk zOk rfl rfl rfl ?_
      refine S.pure tOk zOk rfl rfl rfl ?_
      refine S.pureG tOk zOk rfl rfl tg (fun _ => rfl) rfl ?_
      refine S.pureG tOk zOk rfl rfl tg (fun _ => rfl) rfl ?_
      refine S.pureG tOk zOk rfl rfl tg (fun _ => rfl) rfl ?_
      refine S.pureG tOk zOk rfl rfl tg (fun _ => rfl) rfl ?_
      refine S.pureG tOk zOk rfl rfl tg (fun _ => rfl) rfl ?_
      refine S.pickAnd tOk zOk rfl rfl tg ?_
      refine S.pure tOk zOk rfl rfl rfl ?_
      refine thenK_n ?_
      refine W.cond rfl (fun c6 => ?_) (fun c6 => ?_)
      ·skip
       refine W.seq ?_
       refine W.region ?_
       refine S.pure tOk zOk rfl rfl rfl ?_
       refine thenK_n ?_
       refine W.ret ?_
       refine blockK_r ?_
       refine thenK_r ?_
       exact ⟨_, rfl, rfl, LeV.of_force rfl (congrArg (fun x : Int => V.one (C.d (D.int .i64 x))) (((if_neg (Bool.eq_false_iff.1 c1)).trans ((if_neg (Bool.eq_false_iff.1 c2)).trans ((if_neg (Bool.eq_false_iff.1 c3)).trans ((if_neg (Bool.eq_false_iff.1 c4)).trans ((if_neg (Bool.eq_false_iff.1 c5)).trans (if_pos c6)))))) : ruleE r = _)).symm⟩
      ·skip
       refine W.skip ?_
       refine blockK_n ?_
       refine thenK_n ?_
       refine W.seq ?_
       refine W.region ?_
       refine S.pure tOk zOk rfl rfl rfl ?_
       refine thenK_n ?_
       refine W.ret ?_
       exact ⟨_, rfl, rfl, LeV.of_force rfl (congrArg (fun x : Int => V.one (C.d (D.int .i64 x))) (((if_neg (Bool.eq_false_iff.1 c1)).trans ((if_neg (Bool.eq_false_iff.1 c2)).trans ((if_neg (Bool.eq_false_iff.1 c3)).trans ((if_neg (Bool.eq_false_iff.1 c4)).trans ((if_neg (Bool.eq_false_iff.1 c5)).trans (if_neg (Bool.eq_false_iff.1 c6))))))) : ruleE r = _)).symm⟩
end Go.Proofs.YtcchfmilleffjaaGreatDoor

/- Ranges over maps. -/
set_option linter.unusedVariables false
set_option linter.unusedSimpArgs false
namespace Go.Proofs.YtcchfmilleffjaaGreatDoor
open Go Go.RowKit
open Go.ChangeMaps (setBlock)
section
variable {J : Inv} {k0 : Lens} {E : Env J k0} {P : Program} {T : TypeId → Option TI} {n : Nat} {t : Nat → V} {b : List (List C)} {r : List (Option RowO)} {m : List (List (DV × DV))} {ops : Array Oper} {l : List Oper}
  {K : St → Prop} {i : Nat} {ty : TypeId} {pos : String} {after : Array Edge}
/-- Told with fewer words. -/
structure Wk {J : Inv} {k0 : Lens} (E : Env J k0) (n : Nat) (s s2 : St) : Prop where
  rel : ∀ g a w, Rel E n g s a w → Rel E n g s2 a w
  live : ∀ x, s2.live x → s.live x
theorem Wk.keep {l : List (Nat × V)} {b1 b2 : List (List C)} {r1 r2 : List (Option RowO)} {m1 m2 : List (List (DV × DV))} {s : St} (he : s = ⟨t, b1 ++ b2, r1 ++ r2, m1 ++ m2⟩) (hl : holdsL t l)
    (hlow : ((loL b1.length r1.length m1.length l && loB b1.length r1.length m1.length b1) && (Nat.ble k0.L b1.length && (Nat.ble k0.R r1.length && Nat.ble k0.M m1.length))) = true) : Wk E n s ⟨ofL l, b1, r1, m1⟩ := by
  subst he
  refine ⟨fun g a w rel => Rel.keep l b1 b2 r1 r2 m1 m2 hl hlow rel, fun x hx => ?_⟩
  cases x with
  | b q => exact Nat.lt_of_lt_of_le hx (by simp)
  | r q => obtain ⟨o, ho, hal⟩ := hx; exact ⟨o, by rw [List.getElem?_append_left (List.getElem?_eq_some_iff.1 ho).1]; exact ho, hal⟩
  | m q => exact Nat.lt_of_lt_of_le hx (by simp)
/-- A block that is nobody's is written. -/
theorem Rel.aside {s : St} {g : Gh} {a : Act} {w : World} (r : Rel E n g s a w) {k : Nat} (o : Obj) (h0 : E.w0.heap.size ≤ k) (h1 : ¬ g.im k) (h2 : ∀ x, s.live x → g.at_ x ≠ k) : Rel E n g s a (setBlock w k o) := by
  have hsz : (setBlock w k o).heap.size = w.heap.size := by simp [setBlock]
  have hold : ∀ q, q ≠ k → (setBlock w k o).heap[q]? = w.heap[q]? := fun q hq => by simp only [setBlock]; rw [Array.getElem?_setIfInBounds, if_neg (Ne.symm hq)]
  have e : Ext g s.sh w g s.sh (setBlock w k o) := .of (fun _ h => h) (fun q hq => hold q (fun he => h1 (he ▸ hq))) rfl rfl rfl
  exact ⟨⟨r.below.os, r.below.tape, r.below.output, by rw [hsz]; exact r.below.size, fun q hq hn => (hold q (by omega)).trans (r.below.block q hq hn)⟩, r.ext.trans e, fun q hq => by rw [hsz]; exact r.imlt q hq, r.imold, r.own,
    r.heap.mono e (by rw [hsz]; exact Nat.le_refl _) r.heap.new rfl rfl rfl (fun x hx => hold _ (h2 x hx)), r.size, r.defers, fun i hi => (r.tmps i hi).mono e⟩
/-- Operations, and others behind them. -/
theorem wpOps_pre {Q : Exit → Act → World → Prop} : ∀ (l rest : List Oper) (k : Nat) (s : St), ops.toList.drop k = l ++ rest → WL E P n ops l K s →
    ∀ g a w, Rel E n g s a w → (∀ s' g' a' w', K s' → Rel E n g' s' a' w' → wpOps P ops Q (List.range' (k + l.length) rest.length) a' w') → wpOps P ops Q (List.range' k (l.length + rest.length)) a w
  | [], rest, k, s, hl, h, g, a, w, r, hq => by simpa using hq s g a w h r
  | o :: l, rest, k, s, hl, h, g, a, w, r, hq => by
    have ho : ops[k]? = some o := by
      have := congrArg (fun x => x[0]?) hl
      simpa using this
    have ht : ops.toList.drop (k + 1) = l ++ rest := by
      have := congrArg (List.drop 1) hl
      simpa [List.drop_drop, Nat.add_comm] using this
    have h1 := h g a w r (wpOps P ops Q (List.range' (k + 1) (l.length + rest.length))) Q (fun s' g' a' w' hk r' => wpOps_pre l rest (k + 1) s' ht hk g' a' w' r' (fun s' g' a' w' hk r' => by
      have := hq s' g' a' w' hk r'
      rwa [show k + (o :: l).length = k + 1 + l.length by simp; omega] at this))
    have e : (o :: l).length + rest.length = (l.length + rest.length) + 1 := by simp; omega
    rw [e, List.range'_succ]
    unfold wpOps
    simp only [ho]
    split
    · rename_i hw; rw [if_pos hw] at h1; exact .inl h1
    · rename_i hw; rw [if_neg hw] at h1; exact h1
theorem WL.mono' {ops : Array Oper} {K K' : St → Prop} : ∀ {l : List Oper} {s : St}, WL E P n ops l K s → (∀ s, K s → K' s) → WL E P n ops l K' s
  | [], s, h, hk => hk s h
  | o :: l, s, h, hk => fun g a w rel next Q hn => h g a w rel next Q (fun s' g' a' w' h1 h2 => hn s' g' a' w' (WL.mono' h1 hk) h2)
variable {α β : Type}
/-- Entries that tell when they were born. -/
def stMap (c : Nat) (enc : α → D) (fD : β → DV) (l : List (Nat × α × β)) : List (DV × DV) := l.map fun x => (DV.st x.1 c (enc x.2.1), fD x.2.2)
theorem stMap_get {c : Nat} {enc : α → D} {fD : β → DV} {l : List (Nat × α × β)} {i : Nat} {x : DV × DV} (h : (stMap c enc fD l)[i]? = some x) : ∃ y, l[i]? = some y ∧ (DV.st y.1 c (enc y.2.1), fD y.2.2) = x := by
  unfold stMap at h
  rw [List.getElem?_map] at h
  cases hy : l[i]? with
  | none => rw [hy] at h; cases h
  | some y => rw [hy] at h; exact ⟨y, rfl, by simpa using h⟩
theorem stMap_at {c : Nat} {enc : α → D} {fD : β → DV} {l : List (Nat × α × β)} {i : Nat} {y : Nat × α × β} (h : l[i]? = some y) : (stMap c enc fD l)[i]? = some (DV.st y.1 c (enc y.2.1), fD y.2.2) := by
  unfold stMap; rw [List.getElem?_map, h]; rfl
theorem stMap_map {enc : α → D} {fD : β → DV} {l : List (Nat × α × β)} {i : Nat} {x : DV × DV} (h : (mapOf enc fD (l.map (·.2)))[i]? = some x) : ∃ y, l[i]? = some y ∧ (DV.one (enc y.2.1), fD y.2.2) = x := by
  unfold mapOf at h
  rw [List.getElem?_map, List.getElem?_map] at h
  cases hy : l[i]? with
  | none => rw [hy] at h; cases h
  | some y => rw [hy] at h; exact ⟨y, rfl, by simpa using h⟩
/-- A map's entries told otherwise, the machine's map as it is. -/
theorem Rel.retell {s : St} {g : Gh} {a : Act} {w : World} (r : Rel E n g s a w) {mi : Nat} {es es' : List (DV × DV)} (hm : s.m[mi]? = some es)
    (h : ∀ arr clock, MapFitE arr clock es → (∀ (i : Nat) (x : DV × DV) (e : MapEntry), es[i]? = some x → arr[i]? = some e → RV g s.sh w x.1.v e.key ∧ RV g s.sh w x.2.v e.val) →
      w.heap[g.at_ (.m mi)]? = some (.map arr clock) → MapFitE arr clock es' ∧ ∀ (i : Nat) (x : DV × DV) (e : MapEntry), es'[i]? = some x → arr[i]? = some e → RV g s.sh w x.1.v e.key ∧ RV g s.sh w x.2.v e.val) :
    Rel E n g ⟨s.t, s.b, s.r, s.m.set mi es'⟩ a w := by
  have hmi : mi < s.m.length := (List.getElem?_eq_some_iff.1 hm).1
  have hsh : (⟨s.t, s.b, s.r, s.m.set mi es'⟩ : St).sh = s.sh := by simp [St.sh]
  have hlv : (⟨s.t, s.b, s.r, s.m.set mi es'⟩ : St).live = s.live := by
    funext x
    cases x with
    | b l => rfl
    | r l => rfl
    | m l => show (l < (s.m.set mi es').length) = _; rw [List.length_set]; rfl
  refine ⟨r.below, by rw [hsh]; exact r.ext, r.imlt, r.imold, fun x hx => r.own x (hlv ▸ hx), ⟨fun x hx => r.heap.lt x (hlv ▸ hx), fun x hx => r.heap.new x (hlv ▸ hx), fun x y hx hy => r.heap.inj x y (hlv ▸ hx) (hlv ▸ hy), fun l cs hl => ?_, fun l o ho => ?_, fun l es0 hes => ?_⟩, r.size, r.defers, fun i hi => by rw [hsh]; exact r.tmps i hi⟩
  · rw [hsh]; exact r.heap.box l cs hl
  · exact r.heap.row l o ho
  · have hes : (s.m.set mi es')[l]? = some es0 := hes
    rw [hsh]
    by_cases e : mi = l
    · subst e
      obtain rfl : es' = es0 := by simpa [List.getElem?_set, hmi] using hes
      obtain ⟨arr, clock, h1, h2, h3⟩ := r.heap.map mi es hm
      obtain ⟨h4, h5⟩ := h arr clock h2 h3 h1
      exact ⟨arr, clock, h1, h4, h5⟩
    · exact r.heap.map l es0 (by simpa [List.getElem?_set, e] using hes)
/-- A map with births told without them. -/
theorem Rel.unSt {s : St} {g : Gh} {a : Act} {w : World} (r : Rel E n g s a w) {mi c : Nat} {enc : α → D} {fD : β → DV} {T : List (Nat × α × β)} (hm : s.m[mi]? = some (stMap c enc fD T)) :
    Rel E n g ⟨s.t, s.b, s.r, s.m.set mi (mapOf enc fD (T.map (·.2)))⟩ a w := by
  refine r.retell hm fun arr clock h1 h2 _ => ⟨⟨?_, fun i x e hx he => ?_⟩, fun i x e hx he => ?_⟩
  · have := h1.1; simpa [stMap, mapOf] using this
  · obtain ⟨y, _, rfl⟩ := stMap_map hx; trivial
  · obtain ⟨y, hy, rfl⟩ := stMap_map hx
    obtain ⟨c1, c2⟩ := h2 i _ e (stMap_at hy) he
    exact ⟨c1, c2⟩
theorem W.unSt {c0 : Code} {KK : Ex → St → Prop} {mi c : Nat} {enc : α → D} {fD : β → DV} {T : List (Nat × α × β)} {l0 : List (α × β)} (hm : m[mi]? = some (stMap c enc fD T)) (hl : T.map (·.2) = l0) {m' : List (List (DV × DV))} (hm' : m.set mi (mapOf enc fD l0) = m')
    (h : W E P n c0 KK ⟨t, b, r, m'⟩) : W E P n c0 KK ⟨t, b, r, m⟩ := by
  subst hl; subst hm'
  exact h.weaken fun g a w rel => ⟨g, rel.unSt hm⟩
/-- The iterator stands at an entry. -/
structure EntAt {J : Inv} {k0 : Lens} (E : Env J k0) (q : V) (mi born c : Nat) : Prop where
  ex : ∃ (r0 since : Nat) (seen : Array Nat), q = .one (.d (.raw (.pointer (some ⟨r0, 0, none⟩)))) ∧ E.w0.heap[r0]? = some (.mapIter (some (E.g0.at_ (.m mi))) since (seen.push born) c) ∧ ¬ E.lent r0
  lt : mi < E.sh0.M
theorem opd_raw {s : St} {g : Gh} {a : Act} {w : World} (r : Rel E n g s a w) {i : Nat} {v : Value} (hi : Nat.blt i n = true) (hv : s.t i = .one (.d (.raw v))) : RV g s.sh w (.one (.d (.raw v))) (a.eval (.tmp i)) := by
  have := r.tmps i (by simpa using hi)
  rw [hv] at this
  exact this
theorem raw_eq {g : Gh} {h : Sh} {w : World} {v x : Value} (hx : RV g h w (.one (.d (.raw v))) x) : x = v := by
  cases hx with | one _ _ hx => cases hx with | d _ _ hx => cases hx; rfl
theorem S.entry {x : Operand} {q : V} {mi born c j : Nat} {es : List (DV × DV)} {kd : D} {vd : DV} (hE : EntAt E q mi born c) (hx : opd n ⟨t, b, r, m⟩ x = (true, q)) (hm : m[mi]? = some es) (hj : es[j]? = some (.st born c kd, vd))
    (k : WL E P n ops l K ⟨upd t i (.tup [.one (.d kd), vd.v]), b, r, m⟩) : WL E P n ops (⟨some i, .entry x, ty, pos, after, none⟩ :: l) K ⟨t, b, r, m⟩ := by
  intro g a w rel next Q hn
  have hw : Region.wanted (⟨some i, .entry x, ty, pos, after, none⟩ : Oper) (yielded ops a.tmps) = true := by simp [Region.wanted]
  rw [if_pos hw]
  obtain ⟨⟨r0, since, seen, rfl, h1, h2⟩, h3⟩ := hE
  have hv := raw_eq (opd_ok rel hx rfl)
  have hr0 : r0 < E.w0.heap.size := (Array.getElem?_eq_some_iff.1 h1).1
  have hr : w.heap[r0]? = some (.mapIter (some (g.at_ (.m mi))) since (seen.push born) c) := by
    rw [rel.below.block r0 hr0 h2, h1, rel.ext.atM mi h3]
  obtain ⟨arr, clock, p1, p2, p3⟩ := rel.heap.map mi es hm
  have hjl : j < arr.size := by rw [p2.1.len]; exact (List.getElem?_eq_some_iff.1 hj).1
  have he : arr[j]? = some arr[j] := Array.getElem?_eq_getElem hjl
  obtain ⟨hb, hc⟩ : arr[j].born = born ∧ clock = c := p2.2 j _ _ hj he
  subst hc
  obtain ⟨q1, q2⟩ := p3 j _ _ hj he
  have hnd : (arr.toList.map (·.born)).Nodup := by
    rw [List.nodup_iff_pairwise_ne]
    refine List.pairwise_map.2 (List.pairwise_iff_getElem.2 fun i' j' hi hj' hij he' => ?_)
    have := p2.1.dist i' j' _ _ (by rw [← Array.getElem?_toList, List.getElem?_eq_getElem hi]) (by rw [← Array.getElem?_toList, List.getElem?_eq_getElem hj']) he'
    omega
  have hrun := run_entry_at (P := P) w r0 (g.at_ (.m mi)) since seen arr clock arr[j] (by rw [hb]; exact hr) p1 (Array.getElem_mem_toList hjl) hnd
  have hex : (execOp a.eval (⟨some i, .entry x, ty, pos, after, none⟩ : Oper)).run P w = .ok (.value (.tuple #[arr[j].key, arr[j].val])) w := by
    simp only [execOp, hv, Sem.run_bind, hrun, Result.andThen_ok, Sem.run_pure]
  unfold Oper.wp
  rw [hex]
  refine hn _ g _ _ k (rel.put_same (some i) ?_)
  exact RV.tup2 (h := (⟨t, b, r, m⟩ : St).sh) q1 q2
end
theorem mem_idx {α : Type} {l : List α} {x : α} (h : x ∈ l) : ∃ i : Nat, l[i]? = some x := by
  obtain ⟨i, hi, he⟩ := List.getElem_of_mem h
  exact ⟨i, by rw [List.getElem?_eq_getElem hi, he]⟩
section
variable {J : Inv} {k0 : Lens} {E : Env J k0} {P : Program} {T : TypeId → Option TI} {n : Nat}
variable {α β : Type}
/-- What is known where a round of a range over a map begins. -/
structure GI {J : Inv} {k0 : Lens} (E : Env J k0) (n : Nat) (enc : α → D) (fD : β → DV) (l0 : List (α × β)) (mi : Nat) (I : Value → Nat → List (Nat × α × β) → List (α × β) → List (α × β) → St → Prop)
    (v : Value) (c : Nat) (T dn kp rem : List (Nat × α × β)) (r0 : Nat) (seen : Array Nat) (s : St) (g : Gh) (a : Act) (w : World) : Prop where
  inv : I v c T (dn.map (·.2)) (kp.map (·.2)) s
  rel : Rel E n g s a w
  v : v = .pointer (some ⟨r0, 0, none⟩)
  it : w.heap[r0]? = some (.mapIter (some (g.at_ (.m mi))) c seen c)
  ge : E.w0.heap.size ≤ r0
  im : ¬ g.im r0
  live : ∀ x, s.live x → g.at_ x ≠ r0
  seen : seen.toList = dn.map (·.1)
  perm : T.Perm (kp ++ rem)
  kept : ∀ z ∈ kp, z ∈ dn
  fresh : ∀ z ∈ rem, z.1 ∉ dn.map (·.1)
  all : l0.Perm ((dn ++ rem).map (·.2))
  sub : (T.map (·.2)).Sublist l0
set_option maxHeartbeats 1000000 in
theorem W.mapRound {enc : α → D} {fD : β → DV} {l0 : List (α × β)} {mi : Nat} {I : Value → Nat → List (Nat × α × β) → List (α × β) → List (α × β) → St → Prop}
    (hI : ∀ q c T dn kp s, I q c T dn kp s → s.m[mi]? = some (stMap c enc fD T))
    {i5 i6 i7 id1 b0 : Nat} (h5 : Nat.blt i5 n = true) (hq : ∀ v c T dn kp s, I v c T dn kp s → s.t i5 = .one (.d (.raw v))) (h7 : Nat.blt i6 n = true ∧ Nat.blt i7 n = true ∧ Nat.beq i6 i7 = false) {y1 y2 : TypeId} {p1 p2 : String} {e1 e2 : Array Edge} {body : Code} {K : Ex → St → Prop}
    (hround : ∀ (q : Value) (c : Nat) (T : List (Nat × α × β)) (dn kp : List (α × β)) (s : St) (j born : Nat) (y : α × β) (rest : List (α × β)) (E1 : Env J ⟨s.b.length, s.r.length, s.m.length⟩), I q c T dn kp s → T[j]? = some (born, y) → EntAt E1 (.one (.d (.raw q))) mi born c → l0.Perm (dn ++ y :: rest) → (T.map (·.2)).Sublist l0 →
      W E1 P n body (thenK (fun s' => ∃ s2, (I q c T (dn ++ [y]) (kp ++ [y]) s2 ∨ I q c (T.eraseIdx j) (dn ++ [y]) kp s2) ∧ Wk E1 n s' s2) K) ⟨upd (upd s.t i6 .junk) i7 .junk, s.b, s.r, s.m⟩)
    (hend : ∀ (q : Value) (c : Nat) (T : List (Nat × α × β)) (dn kp : List (α × β)) (s : St), I q c T dn kp s → l0.Perm dn → (T.map (·.2)).Perm kp → (T.map (·.2)).Sublist l0 → ∃ s2, Wk E n ⟨upd (upd s.t i6 .junk) i7 .junk, s.b, s.r, s.m.set mi (mapOf enc fD (T.map (·.2)))⟩ s2 ∧ K (.exit b0) s2)
    {q : Value} {c : Nat} {T dn kp rem : List (Nat × α × β)} {r0 : Nat} {seen : Array Nat} {s : St} {g : Gh} {a : Act} {w : World} (G : GI E n enc fD l0 mi I q c T dn kp rem r0 seen s g a w) :
    (Code.seq (.region id1 #[⟨some i6, .next (.tmp i5) false, y1, p1, e1, none⟩, ⟨some i7, .extract (.tmp i6) 0, y2, p2, e2, none⟩] false) (.seq (.cond (.tmp i7) .skip (.exit b0)) body)).wp P
      (Exit.then (fun a' w' => ∃ q c T dn kp rem' r0 seen s g, rem'.length < rem.length ∧ GI E n enc fD l0 mi I q c T dn kp rem' r0 seen s g a' w') (fun e a' w' => ∃ x s' g', e = Ex.exit' x ∧ K x s' ∧ Rel E n g' s' a' w')) a w := by
  obtain ⟨hinv, rel, rfl, hit, hge, him, hlive, hseen, hperm, hkept, hfresh, hall, hsub⟩ := G
  have hm := hI _ _ _ _ _ _ hinv
  obtain ⟨arr, clock, a1, a2, a3⟩ := rel.heap.map mi _ hm
  have hlen : arr.size = T.length := by rw [a2.1.len]; simp [stMap]
  have hst : ∀ (i : Nat) (z : Nat × α × β) (e : MapEntry), T[i]? = some z → arr[i]? = some e → e.born = z.1 ∧ clock = c := fun i z e hz he => a2.2 i _ e (stMap_at hz) he
  have hTnd : ∀ (i j : Nat) (y z : Nat × α × β), T[i]? = some y → T[j]? = some z → y.1 = z.1 → i = j := fun i j y z hy hz hb => by
    have hi : i < arr.size := by rw [hlen]; exact (List.getElem?_eq_some_iff.1 hy).1
    have hj : j < arr.size := by rw [hlen]; exact (List.getElem?_eq_some_iff.1 hz).1
    have b1 := hst i y _ hy (Array.getElem?_eq_getElem hi)
    have b2 := hst j z _ hz (Array.getElem?_eq_getElem hj)
    exact a2.1.dist i j _ _ (Array.getElem?_eq_getElem hi) (Array.getElem?_eq_getElem hj) (by rw [b1.1, b2.1, hb])
  have hidx : ∀ e ∈ arr.toList, ∃ (i : Nat) (z : Nat × α × β), arr[i]? = some e ∧ T[i]? = some z ∧ e.born = z.1 ∧ clock = c := fun e he => by
    obtain ⟨i, hi⟩ := mem_idx he
    rw [Array.getElem?_toList] at hi
    have hil : i < T.length := by rw [← hlen]; exact (Array.getElem?_eq_some_iff.1 hi).1
    exact ⟨i, _, hi, List.getElem?_eq_getElem hil, hst i _ e (List.getElem?_eq_getElem hil) hi⟩
  have hold : ∀ x ∈ arr.toList, x.born < c := fun x hx => by
    obtain ⟨i, z, h1, h2, h3, h4⟩ := hidx x hx
    have := a2.1.born i x h1
    omega
  have hcont : ∀ k, seen.contains k = true ↔ k ∈ dn.map (·.1) := fun k => by
    rw [Array.contains_iff_mem, ← hseen, Array.mem_toList_iff]
  have hn6 : i6 < n := by have := h7.1; simpa using this
  have hn7 : i7 < n := by have := h7.2.1; simpa using this
  have h67 : i6 ≠ i7 := by rintro rfl; have := h7.2.2; simp at this
  have hev : a.eval (.tmp i5) = .pointer (some ⟨r0, 0, none⟩) := raw_eq (opd_raw rel h5 (hq _ _ _ _ _ _ hinv))
  obtain ⟨QQ, hQQ⟩ : ∃ QQ : Exit → Act → World → Prop, QQ = Exit.then (fun a' w' => ∃ q c T dn kp rem' r0 seen s g, rem'.length < rem.length ∧ GI E n enc fD l0 mi I q c T dn kp rem' r0 seen s g a' w') (fun e a' w' => ∃ x s' g', e = Ex.exit' x ∧ K x s' ∧ Rel E n g' s' a' w') := ⟨_, rfl⟩
  rw [← hQQ]
  -- behind 'next'
  have step : ∀ (w2 : World) (vt : Array Value) (bb : Bool), (Instr.next (.pointer (some ⟨r0, 0, none⟩)) false y1).run P w = .ok (.tuple vt) w2 → vt[0]? = some (.bool bb) → Rel E n g s a w2 →
      (∀ a2, Rel E n g ⟨upd (upd s.t i6 .junk) i7 .junk, s.b, s.r, s.m⟩ a2 w2 → if bb then body.wp P QQ a2 w2 else QQ (.exit b0) a2 w2) →
      (Code.seq (.region id1 #[⟨some i6, .next (.tmp i5) false, y1, p1, e1, none⟩, ⟨some i7, .extract (.tmp i6) 0, y2, p2, e2, none⟩] false) (.seq (.cond (.tmp i7) .skip (.exit b0)) body)).wp P QQ a w := by
    intro w2 vt bb hrun hv0 rel2 hk
    have r1 := rel2.put_same (some i6) (u := .junk) (v := .tuple vt) (.junk _)
    have r2 := r1.put_same (some i7) (u := .junk) (v := .bool bb) (.junk _)
    refine wp_seq (wp_region ?_)
    show wpOps P _ _ [0, 1] a w
    unfold wpOps
    simp only [List.getElem?_toArray, List.getElem?_cons_zero]
    rw [if_pos (by simp [Region.wanted])]
    refine .inl ?_
    unfold Oper.wp
    have hx1 : (execOp a.eval (⟨some i6, .next (.tmp i5) false, y1, p1, e1, none⟩ : Oper)).run P w = .ok (.value (.tuple vt)) w2 := by
      simp only [execOp, hev, Sem.run_bind, hrun, Result.andThen_ok, Sem.run_pure]
    rw [hx1, Oper.upon_value]
    unfold wpOps
    simp only [List.getElem?_toArray, List.getElem?_cons_zero, List.getElem?_cons_succ]
    rw [if_pos (by simp [Region.wanted])]
    refine .inl ?_
    unfold Oper.wp
    have he6 : (a.put (some i6) (.tuple vt)).eval (.tmp i6) = .tuple vt := by
      show (a.put (some i6) (.tuple vt)).tmps.getD i6 undef = _
      rw [tmps_put rel2.size (some i6) _ i6 hn6, if_pos rfl]
    have hx2 : (execOp (a.put (some i6) (.tuple vt)).eval (⟨some i7, .extract (.tmp i6) 0, y2, p2, e2, none⟩ : Oper)).run P w2 = .ok (.value (.bool bb)) w2 := by
      simp only [execOp, he6, Instr.extract, hv0, Sem.run_bind, Result.andThen_ok, Sem.run_pure]
    rw [hx2, Oper.upon_value]
    unfold wpOps
    have he7 : ((a.put (some i6) (.tuple vt)).put (some i7) (.bool bb)).eval (.tmp i7) = .bool bb := by
      show ((a.put (some i6) (.tuple vt)).put (some i7) (.bool bb)).tmps.getD i7 undef = _
      rw [tmps_put r1.size (some i7) _ i7 hn7, if_pos rfl]
    have hk2 := hk _ r2
    refine wp_seq (wp_cond he7 ?_)
    cases bb with
    | true => exact wp_skip hk2
    | false => exact wp_exit hk2
  rcases run_next_at (P := P) w y1 r0 (g.at_ (.m mi)) c c seen arr clock hit a1 hold (Nat.le_refl _) with ⟨hz, hrun⟩ | ⟨e, hel, w1, hw1, hrun⟩
  · -- nothing is left
    refine step w _ false hrun rfl rel (fun a2 rel2 => ?_)
    simp only [Bool.false_eq_true, if_false]
    have hrem : rem = [] := by
      cases hr : rem with
      | nil => rfl
      | cons z rem' =>
        exfalso
        have hzr : z ∈ rem := by rw [hr]; exact List.mem_cons_self
        have hzT : z ∈ T := hperm.mem_iff.2 (List.mem_append_right _ hzr)
        obtain ⟨i, hi⟩ := mem_idx hzT
        have hil : i < arr.size := by rw [hlen]; exact (List.getElem?_eq_some_iff.1 hi).1
        have hb := hst i z _ hi (Array.getElem?_eq_getElem hil)
        have hmem : arr[i] ∈ leftOf arr seen := by
          unfold leftOf
          rw [Array.mem_filter]
          refine ⟨Array.getElem_mem hil, ?_⟩
          have hne := hfresh z hzr
          cases hc : seen.contains arr[i].born with
          | false => rfl
          | true => rw [hb.1] at hc; exact absurd ((hcont _).1 hc) hne
        have := Array.size_pos_of_mem hmem
        omega
    subst hrem
    rw [List.append_nil] at hperm hall
    obtain ⟨s2, hw2, hK⟩ := hend _ c T _ _ s hinv hall (hperm.map _) hsub
    have rel2 := hw2.rel _ _ _ (rel2.unSt hm)
    rw [hQQ]
    exact ⟨.exit b0, s2, g, rfl, hK, rel2⟩
  · have he0 : e ∈ arr.toList ∧ seen.contains e.born = false := by
      unfold leftOf at hel
      rw [Array.mem_toList_iff, Array.mem_filter] at hel
      refine ⟨Array.mem_toList_iff.2 hel.1, ?_⟩
      have := hel.2
      simpa using this
    obtain ⟨j, z, hj1, hj2, hj3, hj4⟩ := hidx e he0.1
    have hzT : z ∈ T := List.mem_of_getElem? hj2
    have hzn : z.1 ∉ dn.map (·.1) := fun h => by
      have := (hcont z.1).2 h
      rw [hj3] at he0
      rw [he0.2] at this; cases this
    have hzr : z ∈ rem := by
      rcases List.mem_append.1 (hperm.mem_iff.1 hzT) with h | h
      · exact absurd (List.mem_map.2 ⟨z, hkept z h, rfl⟩) hzn
      · exact h
    obtain ⟨r1, r2, hr⟩ := List.append_of_mem hzr
    have hremp : rem.Perm (z :: (r1 ++ r2)) := by rw [hr]; exact List.perm_middle
    have rel1 : Rel E n g s a w1 := by rcases hw1 with rfl | rfl
                                       · exact rel
                                       · exact rel.drew _
    have hw1h : w1.heap = w.heap := by rcases hw1 with rfl | rfl <;> rfl
    have hr0l : r0 < w.heap.size := (Array.getElem?_eq_some_iff.1 hit).1
    have rel2 := rel1.aside (.mapIter (some (g.at_ (.m mi))) c (seen.push e.born) clock) hge him hlive
    obtain ⟨w2, hw2⟩ : ∃ w2, w2 = setBlock w1 r0 (.mapIter (some (g.at_ (.m mi))) c (seen.push e.born) clock) := ⟨_, rfl⟩
    rw [← hw2] at hrun rel2
    refine step w2 _ true hrun rfl rel2 (fun aa rel3 => ?_)
    simp only [if_true]
    have hit2 : w2.heap[r0]? = some (.mapIter (some (g.at_ (.m mi))) c (seen.push e.born) clock) := by
      rw [hw2]; simp only [setBlock]; rw [Array.getElem?_setIfInBounds, if_pos rfl, hw1h, if_pos hr0l]
    have hsz2 : w2.heap.size = w.heap.size := by rw [hw2]; simp [setBlock, hw1h]
    subst hj4
    -- the round's own Env
    obtain ⟨E1, hE1⟩ : ∃ E1 : Env J ⟨s.b.length, s.r.length, s.m.length⟩, E1 = ⟨w2, g, s.sh, fun k => ∃ x, s.live x ∧ g.at_ x = k, rfl, by simp [St.sh], rfl, rel2.inv, fun k ⟨x, hx, hk⟩ => by
      rw [← hk]
      rcases rel.own x hx with h | h
      · exact E.hN _ h
      · exact Nat.le_trans (J.lt _ E.hI) h⟩ := ⟨_, rfl⟩
    have hEw : E1.w0 = w2 := by rw [hE1]
    have hEg : E1.g0 = g := by rw [hE1]
    have hEs : E1.sh0 = s.sh := by rw [hE1]
    have hEl : ∀ k, E1.lent k ↔ ∃ x, s.live x ∧ g.at_ x = k := fun k => by rw [hE1]
    have hmi : mi < s.m.length := (List.getElem?_eq_some_iff.1 hm).1
    have hEnt : EntAt E1 (.one (.d (.raw (.pointer (some ⟨r0, 0, none⟩))))) mi z.1 clock := by
      refine ⟨⟨r0, clock, seen, rfl, by rw [hEw, hEg, ← hj3]; exact hit2, fun h => ?_⟩, by rw [hEs]; exact hmi⟩
      obtain ⟨x, hx, hk⟩ := (hEl r0).1 h
      exact hlive x hx hk
    obtain ⟨s3, hs3⟩ : ∃ s3 : St, s3 = ⟨upd (upd s.t i6 .junk) i7 .junk, s.b, s.r, s.m⟩ := ⟨_, rfl⟩
    have hsh3 : s3.sh = s.sh := by rw [hs3]; rfl
    have hlv3 : ∀ x, s3.live x ↔ s.live x := fun x => by rw [hs3]; cases x <;> exact Iff.rfl
    rw [← hs3] at rel3
    have rel4 : Rel E1 n g s3 aa w2 := by
      refine ⟨by rw [hEw]; exact BelowX.refl _ _, by rw [hEg, hEs, hEw, hsh3]; exact Ext.refl _ _ _, rel3.imlt, fun k hk => .inl (by rw [hEg]; exact hk), fun x hx => .inl ((hEl _).2 ⟨x, (hlv3 x).1 hx, rfl⟩), rel3.heap, rel3.size, rel3.defers, rel3.tmps⟩
    have hperm' : l0.Perm (dn.map (·.2) ++ z.2 :: (r1 ++ r2).map (·.2)) := by
      refine hall.trans ?_
      rw [List.map_append]
      refine List.Perm.append_left _ ?_
      have := hremp.map (fun x : Nat × α × β => x.2)
      simpa using this
    have hbody := hround _ clock T _ _ s j z.1 z.2 _ E1 hinv hj2 hEnt hperm' hsub
    rw [← hs3] at hbody
    -- back to the loop's Env
    have back : ∀ g' s' a' w', Rel E1 n g' s' a' w' → Rel E n g' s' a' w' := fun g' s' a' w' rel5 => by
      have hb := rel5.below; have hx := rel5.ext
      rw [hEw] at hb hx
      rw [hEg, hEs] at hx
      refine ⟨rel2.below.trans hb (fun k hk hlt => ?_), rel2.ext.trans hx, rel5.imlt, fun k hk => ?_, fun x hx => ?_, rel5.heap, rel5.size, rel5.defers, rel5.tmps⟩
      · obtain ⟨x, hx, hk⟩ := (hEl k).1 hk
        rcases rel2.own x hx with h | h
        · rw [← hk]; exact h
        · omega
      · rcases rel5.imold k hk with h | h | h
        · rw [hEg] at h; exact rel2.imold k h
        · obtain ⟨x, hx, hk⟩ := (hEl k).1 h
          rw [← hk]; exact .inr (rel2.own x hx)
        · rw [hEw] at h; exact .inr (.inr (Nat.le_trans rel2.below.size h))
      · rcases rel5.own x hx with h | h
        · obtain ⟨y, hy, hk⟩ := (hEl _).1 h
          rw [← hk]; exact rel2.own y hy
        · rw [hEw] at h; exact .inr (Nat.le_trans rel2.below.size h)
    refine wp_mono (hbody g aa w2 rel4) ?_
    rintro ex a' w' ⟨x, s', g', rfl, hk, rel5⟩
    have hnl : ¬ E1.lent r0 := fun h => by
      obtain ⟨x, hx, hk⟩ := (hEl r0).1 h
      exact hlive x hx hk
    have hr02 : r0 < w2.heap.size := by rw [hsz2]; exact hr0l
    rw [hQQ]
    cases x with
    | exit id => exact ⟨.exit id, s', g', rfl, hk, back _ _ _ _ rel5⟩
    | ret => exact ⟨.ret, s', g', rfl, hk, back _ _ _ _ rel5⟩
    | normal =>
      obtain ⟨s2, hk, hw⟩ := hk
      have rel5 := hw.rel _ _ _ rel5
      clear hw
      generalize s2 = s' at hk rel5
      have rel6 := back _ _ _ _ rel5
      have him' : ¬ g'.im r0 := fun h => by
        rcases rel5.imold r0 h with h | h | h
        · rw [hEg] at h; exact him h
        · exact hnl h
        · rw [hEw] at h; omega
      have hlive' : ∀ x, s'.live x → g'.at_ x ≠ r0 := fun x hx he => by
        rcases rel5.own x hx with h | h
        · rw [he] at h; exact hnl h
        · rw [he, hEw] at h; omega
      have hit' : w'.heap[r0]? = some (.mapIter (some (g'.at_ (.m mi))) clock (seen.push z.1) clock) := by
        have h1 := rel5.below.block r0 (by rw [hEw]; exact hr02) hnl
        have h2 := rel5.ext.atM mi (by rw [hEs]; exact hmi)
        rw [hEg] at h2
        rw [h1, hEw, hit2, h2, hj3]
      have hseen' : (seen.push z.1).toList = (dn ++ [z]).map (·.1) := by rw [Array.toList_push, hseen, List.map_append]; rfl
      have hTb : (T.map (·.1)).Nodup := by
        rw [List.nodup_iff_pairwise_ne]
        refine List.pairwise_map.2 (List.pairwise_iff_getElem.2 fun i' j' hi hj' hij he' => ?_)
        have := hTnd i' j' _ _ (List.getElem?_eq_getElem hi) (List.getElem?_eq_getElem hj') he'
        omega
      have hfresh' : ∀ y ∈ r1 ++ r2, y.1 ∉ (dn ++ [z]).map (·.1) := fun y hy h => by
        have hyr : y ∈ rem := by rw [hr]; simp only [List.mem_append, List.mem_cons] at hy ⊢; rcases hy with h | h <;> simp [h]
        rw [List.map_append, List.mem_append] at h
        rcases h with h | h
        · exact hfresh y hyr h
        · have hyz : y.1 = z.1 := by simpa using h
          have hp : (T.map (·.1)).Perm ((kp ++ (z :: (r1 ++ r2))).map (·.1)) := (hperm.trans (hremp.append_left kp)).map _
          have hnd := hp.nodup_iff.1 hTb
          rw [List.map_append, List.map_cons] at hnd
          have h3 := (List.nodup_append.1 hnd).2.1
          rw [List.nodup_cons] at h3
          exact h3.1 (List.mem_map.2 ⟨y, hy, hyz⟩)
      have hall' : l0.Perm ((dn ++ [z] ++ (r1 ++ r2)).map (·.2)) := by
        refine hperm'.trans (List.Perm.of_eq ?_)
        simp
      have hlt : (r1 ++ r2).length < rem.length := by rw [hr]; simp
      rcases hk with hk | hk
      · refine ⟨_, clock, T, dn ++ [z], kp ++ [z], r1 ++ r2, r0, seen.push z.1, s', g', hlt, ⟨by simpa using hk, rel6, rfl, hit', hge, him', hlive', hseen', ?_, fun y hy => ?_, hfresh', hall', hsub⟩⟩
        · rw [List.append_assoc]
          exact hperm.trans (hremp.append_left kp)
        · rcases List.mem_append.1 hy with h | h
          · exact List.mem_append_left _ (hkept y h)
          · exact List.mem_append_right _ h
      · refine ⟨_, clock, T.eraseIdx j, dn ++ [z], kp, r1 ++ r2, r0, seen.push z.1, s', g', hlt, ⟨by simpa using hk, rel6, rfl, hit', hge, him', hlive', hseen', ?_, fun y hy => List.mem_append_left _ (hkept y hy), hfresh', hall', ?_⟩⟩
        · have hjl : j < T.length := (List.getElem?_eq_some_iff.1 hj2).1
          have hz : T[j] = z := by have := hj2; rw [List.getElem?_eq_getElem hjl] at this; simpa using this
          have h1 : T.Perm (z :: T.eraseIdx j) := by
            have h3 : T = T.take j ++ z :: T.drop (j + 1) := by
              rw [← hz, List.getElem_cons_drop, List.take_append_drop]
            rw [List.eraseIdx_eq_take_drop_succ]
            exact (List.Perm.of_eq h3).trans List.perm_middle
          have h2 : T.Perm (z :: (kp ++ (r1 ++ r2))) := (hperm.trans (hremp.append_left kp)).trans List.perm_middle
          exact (h1.symm.trans h2).cons_inv
        · exact ((List.eraseIdx_sublist T j).map _).trans hsub
set_option maxHeartbeats 1000000 in
/-- A range over a map: the entries in whatever order; a round may strike out the entry that it has. -/
theorem W.forMapG (hT : TabOk P T) {enc : α → D} {fD : β → DV} {l0 : List (α × β)} {mi : Nat} (I : Value → Nat → List (Nat × α × β) → List (α × β) → List (α × β) → St → Prop)
    {ops : Array Oper} (pre : List Oper) {tm kt et : TypeId} {ti : TI} {x : Operand} {i5 i6 i7 id0 id1 b0 : Nat} {y0 y1 y2 : TypeId} {p0 p1 p2 : String} {e0 e1 e2 : Array Edge} {body : Code} {K : Ex → St → Prop} {s : St}
    (hops : ops = (pre ++ [(⟨some i5, .range tm x, y0, p0, e0, none⟩ : Oper)]).toArray) (hti : T tm = some ti) (hd : ti.desc = .map kt et)
    (hI : ∀ q c T dn kp s, I q c T dn kp s → s.m[mi]? = some (stMap c enc fD T)) (h5 : Nat.blt i5 n = true) (hq : ∀ v c T dn kp s, I v c T dn kp s → s.t i5 = .one (.d (.raw v))) (h7 : Nat.blt i6 n = true ∧ Nat.blt i7 n = true ∧ Nat.beq i6 i7 = false)
    (h0 : WL E P n ops pre (fun s1 => opd n s1 x = (true, .one (.map mi)) ∧ s1.m[mi]? = some (mapOf enc fD l0) ∧ ∀ q c T, T.map (·.2) = l0 → ∃ s2, I q c T [] [] s2 ∧ Wk E n ⟨upd s1.t i5 (.one (.d (.raw q))), s1.b, s1.r, s1.m.set mi (stMap c enc fD T)⟩ s2) s)
    (hround : ∀ (q : Value) (c : Nat) (T : List (Nat × α × β)) (dn kp : List (α × β)) (s : St) (j born : Nat) (y : α × β) (rest : List (α × β)) (E1 : Env J ⟨s.b.length, s.r.length, s.m.length⟩), I q c T dn kp s → T[j]? = some (born, y) → EntAt E1 (.one (.d (.raw q))) mi born c → l0.Perm (dn ++ y :: rest) → (T.map (·.2)).Sublist l0 →
      W E1 P n body (thenK (fun s' => ∃ s2, (I q c T (dn ++ [y]) (kp ++ [y]) s2 ∨ I q c (T.eraseIdx j) (dn ++ [y]) kp s2) ∧ Wk E1 n s' s2) (blockK b0 K)) ⟨upd (upd s.t i6 .junk) i7 .junk, s.b, s.r, s.m⟩)
    (hend : ∀ (q : Value) (c : Nat) (T : List (Nat × α × β)) (dn kp : List (α × β)) (s : St), I q c T dn kp s → l0.Perm dn → (T.map (·.2)).Perm kp → (T.map (·.2)).Sublist l0 → ∃ s2, Wk E n ⟨upd (upd s.t i6 .junk) i7 .junk, s.b, s.r, s.m.set mi (mapOf enc fD (T.map (·.2)))⟩ s2 ∧ K .normal s2) :
    W E P n (.seq (.region id0 ops false) (.block b0 (.loop (.seq (.region id1 #[⟨some i6, .next (.tmp i5) false, y1, p1, e1, none⟩, ⟨some i7, .extract (.tmp i6) 0, y2, p2, e2, none⟩] false) (.seq (.cond (.tmp i7) .skip (.exit b0)) body))))) K s := by
  intro g a w rel
  refine wp_seq (wp_region ?_)
  have hsz : ops.size = pre.length + [(⟨some i5, .range tm x, y0, p0, e0, none⟩ : Oper)].length := by rw [hops]; simp
  rw [hsz, List.range_eq_range']
  refine wpOps_pre pre _ 0 s (by rw [hops]; simp) h0 g a w rel (fun s1 g1 a1 w1 ⟨hx, hm, hi⟩ rel1 => ?_)
  have hop : ops[0 + pre.length]? = some ⟨some i5, .range tm x, y0, p0, e0, none⟩ := by rw [hops]; simp
  simp only [List.length_cons, List.length_nil, Nat.zero_add, List.range'_one]
  unfold wpOps
  rw [Nat.zero_add] at hop
  simp only [hop]
  rw [if_pos (by simp [Region.wanted])]
  refine .inl ?_
  have hp := opd_ok rel1 hx rfl
  generalize hxx : a1.eval x = xv at hp
  cases hp with | one _ _ hp => cases hp with | map _ hmi =>
  have ht := (hT tm ti hti).1
  rw [hd] at ht
  obtain ⟨arr, clock, q1, q2, q3⟩ := rel1.heap.map mi _ hm
  have hrun := run_range_map w1 tm kt et (g1.at_ (.m mi)) arr clock ht q1
  unfold Oper.wp
  have hex : (execOp a1.eval (⟨some i5, .range tm x, y0, p0, e0, none⟩ : Oper)).run P w1 = .ok (.value (.pointer (some ⟨w1.heap.size, 0, none⟩))) (w1.alloc (.mapIter (some (g1.at_ (.m mi))) clock #[] clock)) := by
    simp only [execOp, hxx, Sem.run_bind, hrun, Result.andThen_ok, Sem.run_pure]
  rw [hex, Oper.upon_value]
  unfold wpOps
  obtain ⟨w2, hw2⟩ : ∃ w2, w2 = w1.alloc (.mapIter (some (g1.at_ (.m mi))) clock #[] clock) := ⟨_, rfl⟩
  have hsz2 : w2.heap.size = w1.heap.size + 1 := by rw [hw2]; simp
  have hB : Below w1.heap.size w1 w2 := by rw [hw2]; exact (Below.refl _ _).alloc (Nat.le_refl _) _
  rw [← hw2]
  have rel2 := rel1.later g1.im hB (fun _ h => h) (fun b hb => by rw [hsz2]; have := rel1.imlt b hb; omega) (fun _ h => .inl h)
  have rel3 := rel2.put_same (some i5) (u := .one (.d (.raw (.pointer (some ⟨w1.heap.size, 0, none⟩))))) (v := .pointer (some ⟨w1.heap.size, 0, none⟩)) (.one _ _ (.d _ _ (.raw _ rfl)))
  obtain ⟨T0, hT0⟩ : ∃ T0 : List (Nat × α × β), T0 = (arr.toList.map (·.born)).zip l0 := ⟨_, rfl⟩
  have hl : arr.size = l0.length := by rw [q2.1.len]; simp [mapOf]
  have hT2 : T0.map (·.2) = l0 := by
    rw [hT0]
    exact List.map_snd_zip (by simp [hl])
  have hTi : ∀ (i : Nat) (z : Nat × α × β), T0[i]? = some z → ∃ e, arr[i]? = some e ∧ e.born = z.1 ∧ l0[i]? = some z.2 := fun i z hz => by
    rw [hT0, List.getElem?_zip_eq_some] at hz
    obtain ⟨h1, h2⟩ := hz
    rw [List.getElem?_map, Array.getElem?_toList] at h1
    cases he : arr[i]? with
    | none => rw [he] at h1; cases h1
    | some e => rw [he] at h1; exact ⟨e, rfl, by simpa using h1, h2⟩
  have rel4 := rel3.retell (mi := mi) (es' := stMap clock enc fD T0) hm (fun arr' clock' h1 h2 h3 => by
    have e1 : w2.heap[g1.at_ (.m mi)]? = some (.map arr' clock') := h3
    rw [hB.block _ (rel1.heap.lt (.m mi) (List.getElem?_eq_some_iff.1 hm).1), q1] at e1
    obtain ⟨rfl, rfl⟩ : arr = arr' ∧ clock = clock' := by simpa using e1
    refine ⟨⟨?_, fun i y e hy he => ?_⟩, fun i y e hy he => ?_⟩
    · have h4 := h1.1
      rwa [show (stMap clock enc fD T0).length = (mapOf enc fD l0).length by simp [stMap, mapOf, ← hT2]]
    · obtain ⟨z, hz, rfl⟩ := stMap_get hy
      obtain ⟨e', he', hb, _⟩ := hTi i z hz
      rw [he] at he'
      obtain rfl : e = e' := by simpa using he'
      exact ⟨hb, rfl⟩
    · obtain ⟨z, hz, rfl⟩ := stMap_get hy
      obtain ⟨_, _, _, hl0⟩ := hTi i z hz
      have h6 : (mapOf enc fD l0)[i]? = some (DV.one (enc z.2.1), fD z.2.2) := by unfold mapOf; rw [List.getElem?_map, hl0]; rfl
      obtain ⟨c1, c2⟩ := h2 i _ e h6 he
      exact ⟨c1, c2⟩)
  have hit : w2.heap[w1.heap.size]? = some (.mapIter (some (g1.at_ (.m mi))) clock #[] clock) := by
    rw [hw2]; show (w1.heap.push _)[w1.heap.size]? = _; simp
  obtain ⟨a2, ha2⟩ : ∃ a2, a2 = a1.put (some i5) (.pointer (some ⟨w1.heap.size, 0, none⟩)) := ⟨_, rfl⟩
  rw [← ha2] at rel4
  show (Code.block b0 _).wp P _ (a1.put (some i5) (.pointer (some ⟨w1.heap.size, 0, none⟩))) w2
  rw [← ha2]
  -- the loop
  obtain ⟨s2, hi2, hw2'⟩ := hi (.pointer (some ⟨w1.heap.size, 0, none⟩)) clock T0 hT2
  have rel5 := hw2'.rel _ _ _ rel4
  have hloop : (Code.loop (.seq (.region id1 #[⟨some i6, .next (.tmp i5) false, y1, p1, e1, none⟩, ⟨some i7, .extract (.tmp i6) 0, y2, p2, e2, none⟩] false) (.seq (.cond (.tmp i7) .skip (.exit b0)) body))).wp P
      (fun e a' w' => ∃ x s' g', e = Ex.exit' x ∧ blockK b0 K x s' ∧ Rel E n g' s' a' w') a2 w2 := by
    refine wp_loop_ghost (fun k a w => ∃ q c T dn kp rem r0 seen s g, rem.length = k ∧ GI E n enc fD l0 mi I q c T dn kp rem r0 seen s g a w) T0.length ⟨_, clock, T0, [], [], T0, w1.heap.size, #[], s2, g1, rfl, ⟨hi2, rel5, rfl, hit, rel1.below.size, fun h => absurd (rel1.imlt _ h) (Nat.lt_irrefl _), fun x hx he => ?_, rfl, by simp, by simp, by simp, by simp [hT2], by rw [hT2]; exact List.Sublist.refl _⟩⟩ ?_
    · have hx := hw2'.live x hx
      have : s1.live x := by
        cases x with
        | b l => exact hx
        | r l => exact hx
        | m l => have := show l < (s1.m.set mi _).length from hx; rw [List.length_set] at this; exact this
      have := rel1.heap.lt x this
      have he : g1.at_ x = w1.heap.size := he
      omega
    · rintro k a w ⟨q, c, T, dn, kp, rem, r0, seen, s, g, rfl, G⟩
      have := W.mapRound (K := blockK b0 K) hI h5 hq h7 hround (fun q c T dn kp s h1 h2 h3 h4 => by
        obtain ⟨s2, h5, h6⟩ := hend q c T dn kp s h1 h2 h3 h4
        exact ⟨s2, h5, by simpa [blockK] using h6⟩) (b0 := b0) (id1 := id1) (y1 := y1) (y2 := y2) (p1 := p1) (p2 := p2) (e1 := e1) (e2 := e2) G
      refine wp_mono this ?_
      intro e a' w' h
      cases e with
      | normal => obtain ⟨q, c, T, dn, kp, rem', r0, seen, s, g, hlt, G⟩ := h; exact ⟨rem'.length, hlt, q, c, T, dn, kp, rem', r0, seen, s, g, rfl, G⟩
      | _ => exact h
  refine wp_block (wp_mono hloop ?_)
  rintro _ a' w' ⟨e, s', g', rfl, hk, r'⟩
  cases e with
  | normal => exact ⟨.normal, s', g', rfl, hk, r'⟩
  | exit j =>
    show if j = b0 then _ else _
    by_cases hj : j = b0
    · rw [if_pos hj]
      subst hj
      have : K .normal s' := by simpa [blockK] using hk
      exact ⟨.normal, s', g', rfl, this, r'⟩
    · rw [if_neg hj]
      have hb : Nat.beq j b0 = false := by simpa [← Bool.not_eq_true] using hj
      have : K (.exit j) s' := by simpa [blockK, hb] using hk
      exact ⟨.exit j, s', g', rfl, this, r'⟩
  | ret => exact ⟨.ret, s', g', rfl, hk, r'⟩
/-- What is told of a map under way: the entry at hand is its j-th. -/
def StM (enc : α → D) (fD : β → DV) (l0 : List (α × β)) (M : List (DV × DV)) (j born c : Nat) (y : α × β) : Prop := ∃ T : List (Nat × α × β), M = stMap c enc fD T ∧ T[j]? = some (born, y) ∧ (T.map (·.2)).Sublist l0
theorem StM.at {enc : α → D} {fD : β → DV} {l0 : List (α × β)} {M : List (DV × DV)} {j born c : Nat} {y : α × β} (h : StM enc fD l0 M j born c y) : M[j]? = some (.st born c (enc y.1), fD y.2) := by
  obtain ⟨T, rfl, h1, _⟩ := h
  exact stMap_at h1
/-- A range over a map that the rounds leave as it is. -/
theorem W.forMap (hT : TabOk P T) {enc : α → D} {fD : β → DV} {l0 : List (α × β)} {mi : Nat} (I : Value → List (DV × DV) → List (α × β) → St → Prop)
    {ops pre : List Oper} (k : Nat) {tm kt et : TypeId} {ti : TI} {x : Operand} {i5 i6 i7 id0 id1 b0 : Nat} {y0 y1 y2 : TypeId} {p0 p1 p2 : String} {e0 e1 e2 : Array Edge} {body : Code} {K : Ex → St → Prop} {s : St}
    (hops : cutF k ops = some (pre, [(⟨some i5, .range tm x, y0, p0, e0, none⟩ : Oper)])) (hti : T tm = some ti) (hd : ti.desc = .map kt et)
    (hI : ∀ q M dn s, I q M dn s → s.m[mi]? = some M ∧ s.t i5 = .one (.d (.raw q))) (h7 : Nat.blt i5 n = true ∧ Nat.blt i6 n = true ∧ Nat.blt i7 n = true ∧ Nat.beq i6 i7 = false)
    (h0 : WL E P n ops.toArray pre (fun s1 => opd n s1 x = (true, .one (.map mi)) ∧ s1.m[mi]? = some (mapOf enc fD l0) ∧ ∀ q M, ∃ s2, I q M [] s2 ∧ Wk E n ⟨upd s1.t i5 (.one (.d (.raw q))), s1.b, s1.r, s1.m.set mi M⟩ s2) s)
    (hround : ∀ (q : Value) (M : List (DV × DV)) (dn : List (α × β)) (s : St) (j c born : Nat) (y : α × β) (rest : List (α × β)) (E1 : Env J ⟨s.b.length, s.r.length, s.m.length⟩), I q M dn s → EntAt E1 (.one (.d (.raw q))) mi born c → StM enc fD l0 M j born c y → l0.Perm (dn ++ y :: rest) →
      (∀ (b : List (List C)) (r : List (Option RowO)) (m m' : List (List (DV × DV))) (t : Nat → V) (c0 : Code) (KK : Ex → St → Prop), m[mi]? = some M → m.set mi (mapOf enc fD l0) = m' → W E1 P n c0 KK ⟨t, b, r, m'⟩ → W E1 P n c0 KK ⟨t, b, r, m⟩) →
      W E1 P n body (thenK (fun s' => ∃ s2, I q M (dn ++ [y]) s2 ∧ Wk E1 n s' s2) (blockK b0 K)) ⟨upd (upd s.t i6 .junk) i7 .junk, s.b, s.r, s.m⟩)
    (hend : ∀ (q : Value) (M : List (DV × DV)) (dn : List (α × β)) (s : St), I q M dn s → l0.Perm dn → ∃ s2, Wk E n ⟨upd (upd s.t i6 .junk) i7 .junk, s.b, s.r, s.m.set mi (mapOf enc fD l0)⟩ s2 ∧ K .normal s2) :
    W E P n (.seq (.region id0 ops.toArray false) (.block b0 (.loop (.seq (.region id1 #[⟨some i6, .next (.tmp i5) false, y1, p1, e1, none⟩, ⟨some i7, .extract (.tmp i6) 0, y2, p2, e2, none⟩] false) (.seq (.cond (.tmp i7) .skip (.exit b0)) body))))) K s := by
  refine W.forMapG (l0 := l0) hT (fun q c T dn kp s => I q (stMap c enc fD T) dn s ∧ T.map (·.2) = l0 ∧ kp = dn) pre (by rw [cutF_eq hops]) hti hd (fun q c T dn kp s h => (hI _ _ _ _ h.1).1) h7.1 (fun q c T dn kp s h => (hI _ _ _ _ h.1).2) h7.2 ?_ ?_ ?_
  · exact WL.mono' h0 fun s1 ⟨h1, h2, h3⟩ => ⟨h1, h2, fun q c T hT => by
      obtain ⟨s2, h4, h5⟩ := h3 q (stMap c enc fD T)
      exact ⟨s2, ⟨h4, hT, rfl⟩, h5⟩⟩
  · intro q c T dn kp s j born y rest E1 ⟨h1, h2, h3⟩ hj hE hp hs
    subst h3
    refine W.mono (hround q _ kp s j c born y rest E1 h1 hE ⟨T, rfl, hj, hs⟩ hp (fun b r m m' t c0 KK hm hm' hW => W.unSt hm h2 hm' hW)) ?_
    rintro (_ | _ | _) s' hk
    · obtain ⟨s2, h4, h5⟩ := hk
      exact ⟨s2, .inl ⟨h4, h2, rfl⟩, h5⟩
    · exact hk
    · exact hk
  · intro q c T dn kp s ⟨h1, h2, h3⟩ hp _ _
    rw [h2]
    exact hend q _ dn s h1 hp
/-- A range over a map whose rounds may strike out the entry at hand. -/
theorem W.forMapDel (hT : TabOk P T) {enc : α → D} {fD : β → DV} {l0 : List (α × β)} {mi : Nat} (I : Value → List (DV × DV) → List (α × β) → List (α × β) → St → Prop)
    {ops pre : List Oper} (k : Nat) {tm kt et : TypeId} {ti : TI} {x : Operand} {i5 i6 i7 id0 id1 b0 : Nat} {y0 y1 y2 : TypeId} {p0 p1 p2 : String} {e0 e1 e2 : Array Edge} {body : Code} {K : Ex → St → Prop} {s : St}
    (hops : cutF k ops = some (pre, [(⟨some i5, .range tm x, y0, p0, e0, none⟩ : Oper)])) (hti : T tm = some ti) (hd : ti.desc = .map kt et)
    (hI : ∀ q M dn kp s, I q M dn kp s → s.m[mi]? = some M ∧ s.t i5 = .one (.d (.raw q))) (h7 : Nat.blt i5 n = true ∧ Nat.blt i6 n = true ∧ Nat.blt i7 n = true ∧ Nat.beq i6 i7 = false)
    (h0 : WL E P n ops.toArray pre (fun s1 => opd n s1 x = (true, .one (.map mi)) ∧ s1.m[mi]? = some (mapOf enc fD l0) ∧ ∀ q M, ∃ s2, I q M [] [] s2 ∧ Wk E n ⟨upd s1.t i5 (.one (.d (.raw q))), s1.b, s1.r, s1.m.set mi M⟩ s2) s)
    (hround : ∀ (q : Value) (M : List (DV × DV)) (dn kp : List (α × β)) (s : St) (j c born : Nat) (y : α × β) (rest : List (α × β)) (E1 : Env J ⟨s.b.length, s.r.length, s.m.length⟩), I q M dn kp s → EntAt E1 (.one (.d (.raw q))) mi born c → StM enc fD l0 M j born c y → l0.Perm (dn ++ y :: rest) →
      W E1 P n body (thenK (fun s' => ∃ s2, (I q M (dn ++ [y]) (kp ++ [y]) s2 ∨ I q (M.eraseIdx j) (dn ++ [y]) kp s2) ∧ Wk E1 n s' s2) (blockK b0 K)) ⟨upd (upd s.t i6 .junk) i7 .junk, s.b, s.r, s.m⟩)
    (hend : ∀ (q : Value) (M : List (DV × DV)) (dn kp tab : List (α × β)) (s : St), I q M dn kp s → l0.Perm dn → tab.Perm kp → tab.Sublist l0 → ∃ s2, Wk E n ⟨upd (upd s.t i6 .junk) i7 .junk, s.b, s.r, s.m.set mi (mapOf enc fD tab)⟩ s2 ∧ K .normal s2) :
    W E P n (.seq (.region id0 ops.toArray false) (.block b0 (.loop (.seq (.region id1 #[⟨some i6, .next (.tmp i5) false, y1, p1, e1, none⟩, ⟨some i7, .extract (.tmp i6) 0, y2, p2, e2, none⟩] false) (.seq (.cond (.tmp i7) .skip (.exit b0)) body))))) K s := by
  refine W.forMapG (l0 := l0) hT (fun q c T dn kp s => I q (stMap c enc fD T) dn kp s) pre (by rw [cutF_eq hops]) hti hd (fun q c T dn kp s h => (hI _ _ _ _ _ h).1) h7.1 (fun q c T dn kp s h => (hI _ _ _ _ _ h).2) h7.2 ?_ ?_ ?_
  · exact WL.mono' h0 fun s1 ⟨h1, h2, h3⟩ => ⟨h1, h2, fun q c T hT => h3 q (stMap c enc fD T)⟩
  · intro q c T dn kp s j born y rest E1 h1 hj hE hp hs
    refine W.mono (hround q _ dn kp s j c born y rest E1 h1 hE ⟨T, rfl, hj, hs⟩ hp) ?_
    rintro (_ | _ | _) s' hk
    · obtain ⟨s2, h4 | h4, h5⟩ := hk
      · exact ⟨s2, .inl h4, h5⟩
      · refine ⟨s2, .inr ?_, h5⟩
        rwa [show (stMap c enc fD T).eraseIdx j = stMap c enc fD (T.eraseIdx j) from (Go.ChangeMaps.map_eraseIdx _ _ _).symm] at h4
    · exact hk
    · exact hk
  · intro q c T dn kp s h1 hp hk hs
    exact hend q _ dn kp _ s h1 hp hk hs
end
end Go.Proofs.YtcchfmilleffjaaGreatDoor

/- Contracts that leave open what exactly is behind a call; what is struck out of a map under way; guards that are known. -/
set_option linter.unusedVariables false
set_option linter.unusedSimpArgs false
namespace Go.Proofs.YtcchfmilleffjaaGreatDoor
open Go Go.RowKit
/-- Behind it stands one of many. -/
def isX {X : Type} (φ : X → Prop) (rv : X → V) (b : X → List (List C)) (r : X → List (Option RowO)) (m : X → List (List (DV × DV))) : HPost := fun rv' b' r' m' => ∃ x, φ x ∧ isH (rv x) (b x) (r x) (m x) rv' b' r' m'
section
variable {J : Inv} {P : Program} {f : FuncId} {args : List V} {b : List (List C)} {r : List (Option RowO)} {m : List (List (DV × DV))} {B : List (List C)} {R : List (Option RowO)} {M : List (List (DV × DV))} {X : Type} {φ : X → Prop}
theorem HCall.frameX {rv Rv : X → V} {b' B' : X → List (List C)} {r' R' : X → List (Option RowO)} {m' M' : X → List (List (DV × DV))} (pc : HCall P J f args b r m (isX φ rv b' r' m')) (ρb ρr ρm : List Nat) {Args : List V}
    (hA : renVs (renOf ρb ρr ρm B.length R.length M.length) args = Args)
    (hb : pickL B ρb = some (renB (renOf ρb ρr ρm B.length R.length M.length) b)) (hr : pickL R ρr = some r) (hm : pickL M ρm = some m)
    (hok : ((nodupB ρb && (nodupB ρr && nodupB ρm)) && ((allLt ρb B.length && (allLt ρr R.length && allLt ρm M.length)) && (loVs b.length r.length m.length args && loB b.length r.length m.length b))) = true)
    (h1 : ∀ x, renV (renOf ρb ρr ρm B.length R.length M.length) (rv x) = Rv x) (h2 : ∀ x, putL B ρb (renB (renOf ρb ρr ρm B.length R.length M.length) (b' x)) = B' x) (h3 : ∀ x, putL R ρr (r' x) = R' x) (h4 : ∀ x, putL M ρm (m' x) = M' x) :
    HCall P J f Args B R M (isX φ Rv B' R' M') :=
  (pc.frame ρb ρr ρm hA hb hr hm hok).mono fun rv B' R' M' ⟨rv0, b0, r0, m0, ⟨x, hx, e1, e2, e3, e4⟩, e5, e6, e7, e8⟩ => by
    subst e1; subst e2; subst e3; subst e4
    exact ⟨x, hx, e5.trans (h1 x), e6.trans (h2 x), e7.trans (h3 x), e8.trans (h4 x)⟩
def HEndsX (k0 : Lens) (k1 : X → Lens) (T : TypeId → Option TI) (fn : Func) (φ : X → Prop) (rv : X → V) (b' : X → List (List C)) (r' : X → List (Option RowO)) (m' : X → List (List (DV × DV))) : Ex → St → Prop :=
  fun e s => ∃ x, φ x ∧ HEndsD k0 (k1 x) T fn (rv x) (b' x) (r' x) (m' x) e s
theorem HCall.ofX {T : TypeId → Option TI} (hT : TabOk P T) (k1 : X → Lens) {fn : Func} {c : Code} {rv : X → V} {b' : X → List (List C)} {r' : X → List (Option RowO)} {m' : X → List (List (DV × DV))} (hf : P.funcs[f]? = some fn)
    (hname : (fn.name == "runtime.NumGoroutine") = false) (hb : fn.body = some c) (hn : args.length ≤ fn.ntmps)
    (h : ∀ E : Env J ⟨b.length, r.length, m.length⟩, W E P fn.ntmps c (HEndsX ⟨b.length, r.length, m.length⟩ k1 T fn φ rv b' r' m') ⟨argsV args, b, r, m⟩) : HCall P J f args b r m (isX φ rv b' r' m') := by
  refine HCall.le (HCall.of_body hT hf hname hb hn (fun E => (h E).mono ?_))
  have key : ∀ s, (∃ x, φ x ∧ ∃ vs, resAll T fn.ntmps s fn.results.toList = some vs ∧ (loV (k1 x).L (k1 x).R (k1 x).M (resV vs) && (Nat.ble (k1 x).L s.b.length && (Nat.ble (k1 x).R s.r.length && (Nat.ble (k1 x).M s.m.length &&
      (loB (k1 x).L (k1 x).R (k1 x).M (s.b.take (k1 x).L) && (Nat.ble b.length (k1 x).L && (Nat.ble r.length (k1 x).R && Nat.ble m.length (k1 x).M))))))) = true ∧ LeG (resV vs) (rv x) ∧ s.b.take (k1 x).L = b' x ∧ s.r.take (k1 x).R = r' x ∧ s.m.take (k1 x).M = m' x) →
      ∃ vs, resAll T fn.ntmps s fn.results.toList = some vs ∧ ((∃ rv', LeG (resV vs) rv' ∧ isX φ rv b' r' m' rv' s.b s.r s.m) ∨ ∃ k1 : Lens, (loV k1.L k1.R k1.M (resV vs) && (Nat.ble k1.L s.b.length && (Nat.ble k1.R s.r.length && (Nat.ble k1.M s.m.length &&
      (loB k1.L k1.R k1.M (s.b.take k1.L) && (Nat.ble b.length k1.L && (Nat.ble r.length k1.R && Nat.ble m.length k1.M))))))) = true ∧ ∃ rv', LeG (resV vs) rv' ∧ isX φ rv b' r' m' rv' (s.b.take k1.L) (s.r.take k1.R) (s.m.take k1.M)) :=
    fun s ⟨x, hx, vs, h1, h2, h3, h4, h5, h6⟩ => ⟨vs, h1, .inr ⟨k1 x, h2, rv x, h3, x, hx, rfl, h4, h5, h6⟩⟩
  intro e s hs
  cases e with
  | normal => obtain ⟨x, hx, hs⟩ := hs; exact key s ⟨x, hx, hs⟩
  | exit id => obtain ⟨x, hx, hs⟩ := hs; exact hs.elim
  | ret => obtain ⟨x, hx, hs⟩ := hs; exact key s ⟨x, hx, hs⟩
end
section
variable {J : Inv} {k0 : Lens} {E : Env J k0} {P : Program} {T : TypeId → Option TI} {n : Nat} {t : Nat → V} {b : List (List C)} {r : List (Option RowO)} {m : List (List (DV × DV))} {ops : Array Oper} {l : List Oper}
  {K : St → Prop} {i : Nat} {ty : TypeId} {pos : String} {after : Array Edge}
theorem S.hcallX {X : Type} {φ : X → Prop} {dst : Option Nat} {fo : Operand} {args : Array Operand} {ats : Array TypeId} {u : V} {f : FuncId} {caps : List C} {us ws : List V} {rv : X → V} {b' : X → List (List C)} {r' : X → List (Option RowO)} {m' : X → List (List (DV × DV))}
    (hu : opd n ⟨t, b, r, m⟩ fo = (true, u)) (hc : calleeV u = some (f, caps))
    (ha : allOpdL n ⟨t, b, r, m⟩ args.toList = (true, us)) (hw : forceVs (appL us (caps.map V.one)) = some ws) (pc : HCall P J f ws b r m (isX φ rv b' r' m'))
    (k : ∀ x, φ x → WL E P n ops l K ⟨updO t dst (rv x), b' x, r' x, m' x⟩) : WL E P n ops (⟨dst, .call ⟨.value fo, args, ats⟩, ty, pos, after, none⟩ :: l) K ⟨t, b, r, m⟩ :=
  S.hcall hu hc ha hw pc (fun _ _ _ _ ⟨x, hx, h1, h2, h3, h4⟩ => by rw [h1, h2, h3, h4]; exact k x hx)
variable {α β : Type} {kind : TypeDesc} {enc : α → D} {val : α → Value} {same : α → α → Bool}
/-- The entry at hand struck out. -/
theorem S.mapDeleteSt (hT : TabOk P T) (ke : KeyOk kind enc val same) (hsame : ∀ a b, same a b = true ↔ a = b) {tm kt et tk : TypeId} {ti ki : TI} {x y : Operand} {mi : Nat} {M : List (DV × DV)} {j born c : Nat} {e0 : α × β} {fD : β → DV} {l0 : List (α × β)}
    (hst : StM enc fD l0 M j born c e0) (hnd : (l0.map (·.1)).Nodup) (hti : T tm = some ti) (hd : ti.desc = .map kt et) (hki : T kt = some ki) (hkd : ki.desc = kind)
    (hx : opd n ⟨t, b, r, m⟩ x = (true, .one (.map mi))) (hy : opd n ⟨t, b, r, m⟩ y = (true, .one (.d (enc e0.1)))) (hm : m[mi]? = some M)
    {m' : List (List (DV × DV))} (hm' : m.set mi (M.eraseIdx j) = m') (k : WL E P n ops l K ⟨t, b, r, m'⟩) : WL E P n ops (⟨none, .call ⟨.builtin .delete, #[x, y], #[tm, tk]⟩, ty, pos, after, none⟩ :: l) K ⟨t, b, r, m⟩ := by
  subst hm'
  obtain ⟨T0, rfl, hj, hsub⟩ := hst
  intro g a w rel next Q hn
  have hw : Region.wanted (⟨none, .call ⟨.builtin .delete, #[x, y], #[tm, tk]⟩, ty, pos, after, none⟩ : Oper) (yielded ops a.tmps) = true := by simp [Region.wanted]
  rw [if_pos hw]
  have hp := opd_ok rel hx rfl
  have hq := opd_ok rel hy rfl
  generalize hxx : a.eval x = xv at hp
  generalize hyy : a.eval y = yv at hq
  cases hp with | one _ _ hp => cases hp with | map _ hmi =>
  have hyv : yv = val e0.1 := ke.eq (a := e0.1) hq
  subst hyv
  have h1 := (hT tm ti hti).1
  have h2 := (hT kt ki hki).1
  rw [hd] at h1; rw [hkd] at h2
  have rel' := rel.unSt hm
  have hmi' : mi < m.length := (List.getElem?_eq_some_iff.1 hm).1
  obtain ⟨arr, clock, q1, q2, q3, q4⟩ := map_find (s := ⟨t, b, r, m.set mi (mapOf enc fD (T0.map (·.2)))⟩) ke rel' (show (m.set mi (mapOf enc fD (T0.map (·.2))))[mi]? = some (mapOf enc fD (T0.map (·.2))) by simp [List.getElem?_set, hmi']) e0.1
  obtain ⟨arr2, clock2, o1, o2, o3⟩ := rel.heap.map mi _ hm
  obtain ⟨rfl, rfl⟩ : arr = arr2 ∧ clock = clock2 := by rw [q1] at o1; simpa using o1
  have hndT : ((T0.map (·.2)).map (·.1)).Nodup := (hsub.map _).nodup hnd
  have hjl : (T0.map (·.2))[j]? = some e0 := by rw [List.getElem?_map, hj]; rfl
  obtain ⟨A, hA⟩ : ∃ A, A = g.at_ (.m mi) := ⟨_, rfl⟩
  rw [← hA] at q1
  rcases q4 with ⟨p1, p2, _, p4, _⟩ | ⟨p1, p, x', e, p2, p3, p4, p5, _, p7, _⟩
  · exfalso
    have : hasL same (T0.map (·.2)) e0.1 = true := by
      unfold hasL
      rw [List.any_eq_true]
      exact ⟨e0, List.mem_of_getElem? hjl, (hsame _ _).2 rfl⟩
    rw [p1] at this; cases this
  · obtain rfl : p = j := by
      have h5 := (hsame _ _).1 p5
      have h6 : ((T0.map (·.2)).map (·.1))[p]? = some e0.1 := by rw [List.getElem?_map, p2, h5]; rfl
      have h7 : ((T0.map (·.2)).map (·.1))[j]? = some e0.1 := by rw [List.getElem?_map, hjl]; rfl
      exact (List.getElem?_inj (List.getElem?_eq_some_iff.1 h6).1 hndT).1 (h6.trans h7.symm)
    have hpl : p < arr.size := (Array.getElem?_eq_some_iff.1 p3).1
    have hTl : T0.length = arr.size := by rw [o2.1.len]; simp [stMap]
    have hget : ∀ i, (arr.eraseIdxIfInBounds p)[i]? = if i < p then arr[i]? else arr[i + 1]? := fun i => by
      unfold Array.eraseIdxIfInBounds
      rw [dif_pos hpl, Array.getElem?_eraseIdx]
    have hgetT : ∀ i, (stMap c enc fD T0 |>.eraseIdx p)[i]? = if i < p then (stMap c enc fD T0)[i]? else (stMap c enc fD T0)[i + 1]? := fun i => by
      rw [List.getElem?_eraseIdx]
    have hfit : MapFitE (arr.eraseIdxIfInBounds p) clock ((stMap c enc fD T0).eraseIdx p) := by
      refine ⟨⟨?_, fun i f h => ?_, fun i j f f2 h h' hbb => ?_⟩, fun i z f hz hf => ?_⟩
      · unfold Array.eraseIdxIfInBounds
        rw [dif_pos hpl, Array.size_eraseIdx, List.length_eraseIdx, if_pos (by simp [stMap]; omega)]
        simp [stMap, hTl]
      · rw [hget] at h
        split at h
        · exact o2.1.born _ f h
        · exact o2.1.born _ f h
      · rw [hget] at h h'
        split at h <;> split at h' <;> (have := o2.1.dist _ _ f f2 h h' hbb; omega)
      · rw [hgetT] at hz; rw [hget] at hf
        split at hz
        · rename_i hi; rw [if_pos hi] at hf; exact o2.2 i z f hz hf
        · rename_i hi; rw [if_neg hi] at hf; exact o2.2 (i + 1) z f hz hf
    have hrun0 : (Builtin.delete_ #[tm, tk] ty #[.map (some A), val e0.1]).run P w = .ok (.tuple #[]) { w with heap := w.heap.setIfInBounds A (.map (arr.eraseIdxIfInBounds p) clock) } := by
      simp [Builtin.delete_, MapKept.run_setObj_map _ q1, run_underlying h1, MapKept.run_getObj_map q1, ke.chk P w _ kt e0.1 h2, run_findKey_now h2 p4]
    have hrun : (execOp a.eval (⟨none, .call ⟨.builtin .delete, #[x, y], #[tm, tk]⟩, ty, pos, after, none⟩ : Oper)).run P w = .ok (.value (.tuple #[])) { w with heap := w.heap.setIfInBounds A (.map (arr.eraseIdxIfInBounds p) clock) } := by
      simp only [execOp, resolve, invoke, builtin, Sem.run_bind, Sem.run_pure, Result.andThen_ok, List.map_toArray, List.map_cons, List.map_nil, hxx, hyy, ← hA, hrun0]
    unfold Oper.wp
    rw [hrun]
    have := rel.setMap (es' := (stMap c enc fD T0).eraseIdx p) hm hfit (fun i z f hz hf => by
      rw [hgetT] at hz; rw [hget] at hf
      split at hz
      · rename_i hi; rw [if_pos hi] at hf; exact o3 i z f hz hf
      · rename_i hi; rw [if_neg hi] at hf; exact o3 (i + 1) z f hz hf)
    rw [← hA] at this
    exact hn _ g _ _ k (this.put_same none (u := .junk) (.junk _))
end
end Go.Proofs.YtcchfmilleffjaaGreatDoor

/-
  DERIVED: THE SHELF's CONTRACTS AT THIS DUMP, IN PLAIN WORDS (tools/lay-plain.mjs out of 'TryzShelfK.lean', which tools/lay-shelf.mjs wrote): THE SAME DECLARATIONS UNDER THE SAME NAMES: 'import', 'namespace', 'open', 'def', 'theorem' AND NOTHING ELSE: no command of the shelf's: FOR A HAND-IN. Each laying: the table of numbers ('.._ren') and one theorem, a field a fact of the dump's own or the kernel's comparison; each contract: ONE APPLICATION.
-/
namespace Go.Proofs
open Go.Shelf
def Tryz.sort167_ren : Go.Shelf.Ren := ⟨fun | 6 => 167 | 8 => 215 | 9 => 214 | 19 => 261 | 20 => 262 | 21 => 252 | 22 => 253 | 23 => 254 | 24 => 255 | 25 => 256 | 26 => 257 | 27 => 258 | 28 => 259 | 29 => 260 | 36 => 276 | 31 => 277 | 32 => 278 | 37 => 279 | 38 => 280 | 39 => 281 | 41 => 291 | n => n, fun | 27 => 71 | 29 => 9 | 3 => 3 | 32 => 242 | 26 => 71 | 0 => 0 | 44 => 281 | 46 => 297 | 4 => 4 | 36 => 290 | 35 => 289 | 41 => 261 | 5 => 5 | 9 => 9 | 53 => 315 | 57 => 319 | 63 => 337 | 64 => 338 | n => n, fun | n => n⟩
theorem Tryz.sort167 : Go.Proofs.SlLaysM.n6 Tryz.prog Tryz.sort167_ren := {
  mixed := by kernel_rfl
  f6 := ⟨Tryz.f167.name, by decide, Tryz.func167.trans (congrArg some (by kernel_rfl))⟩
  f8 := Tryz.func215.trans (congrArg some (by kernel_rfl))
  f9 := ⟨Tryz.f214.name, by decide, Tryz.func214.trans (congrArg some (by kernel_rfl))⟩
  f19 := Tryz.func261.trans (congrArg some (by kernel_rfl))
  f20 := Tryz.func262.trans (congrArg some (by kernel_rfl))
  f21 := ⟨Tryz.f252.name, by decide, Tryz.func252.trans (congrArg some (by kernel_rfl))⟩
  f22 := ⟨Tryz.f253.name, by decide, Tryz.func253.trans (congrArg some (by kernel_rfl))⟩
  f23 := ⟨Tryz.f254.name, by decide, Tryz.func254.trans (congrArg some (by kernel_rfl))⟩
  f24 := ⟨Tryz.f255.name, by decide, Tryz.func255.trans (congrArg some (by kernel_rfl))⟩
  f25 := ⟨Tryz.f256.name, by decide, Tryz.func256.trans (congrArg some (by kernel_rfl))⟩
  f26 := ⟨Tryz.f257.name, by decide, Tryz.func257.trans (congrArg some (by kernel_rfl))⟩
  f27 := ⟨Tryz.f258.name, by decide, Tryz.func258.trans (congrArg some (by kernel_rfl))⟩
  f28 := ⟨Tryz.f259.name, by decide, Tryz.func259.trans (congrArg some (by kernel_rfl))⟩
  f29 := ⟨Tryz.f260.name, by decide, Tryz.func260.trans (congrArg some (by kernel_rfl))⟩
  f31 := Tryz.func277.trans (congrArg some (by kernel_rfl))
  f32 := Tryz.func278.trans (congrArg some (by kernel_rfl))
  f36 := ⟨Tryz.f276.name, by decide, Tryz.func276.trans (congrArg some (by kernel_rfl))⟩
  f37 := ⟨Tryz.f279.name, by decide, Tryz.func279.trans (congrArg some (by kernel_rfl))⟩
  f38 := ⟨Tryz.f280.name, by decide, Tryz.func280.trans (congrArg some (by kernel_rfl))⟩
  f39 := ⟨Tryz.f281.name, by decide, Tryz.func281.trans (congrArg some (by kernel_rfl))⟩
  f41 := ⟨Tryz.f291.name, by decide, Tryz.func291.trans (congrArg some (by kernel_rfl))⟩
  t0 := Tryz.underlying0
  a0 := Tryz.isAgg0
  z0 := Tryz.sizeOf0
  v0 := Tryz.zeroValue0
  t3 := Tryz.underlying3
  a3 := Tryz.isAgg3
  z3 := Tryz.sizeOf3
  v3 := Tryz.zeroValue3
  t4 := Tryz.underlying4
  a4 := Tryz.isAgg4
  z4 := Tryz.sizeOf4
  v4 := Tryz.zeroValue4
  t5 := Tryz.underlying5
  a5 := Tryz.isAgg5
  z5 := Tryz.sizeOf5
  v5 := Tryz.zeroValue5
  t9 := Tryz.underlying9
  a9 := Tryz.isAgg9
  z9 := Tryz.sizeOf9
  v9 := Tryz.zeroValue9
  t26 := Tryz.underlying71
  a26 := Tryz.isAgg71
  z26 := Tryz.sizeOf71
  v26 := Tryz.zeroValue71
  t27 := Tryz.underlying71
  a27 := Tryz.isAgg71
  z27 := Tryz.sizeOf71
  v27 := Tryz.zeroValue71
  t29 := Tryz.underlying9
  a29 := Tryz.isAgg9
  z29 := Tryz.sizeOf9
  v29 := Tryz.zeroValue9
  t32 := Tryz.underlying242
  a32 := Tryz.isAgg242
  z32 := Tryz.sizeOf242
  v32 := Tryz.zeroValue242
  t35 := Tryz.underlying289
  a35 := Tryz.isAgg289
  z35 := Tryz.sizeOf289
  v35 := Tryz.zeroValue289
  t36 := Tryz.underlying290
  a36 := Tryz.isAgg290
  z36 := Tryz.sizeOf290
  v36 := Tryz.zeroValue290
  t41 := Tryz.underlying261
  a41 := Tryz.isAgg261
  z41 := Tryz.sizeOf261
  v41 := Tryz.zeroValue261
  t44 := Tryz.underlying281
  a44 := Tryz.isAgg281
  z44 := Tryz.sizeOf281
  v44 := Tryz.zeroValue281
  t46 := Tryz.underlying297
  a46 := Tryz.isAgg297
  z46 := Tryz.sizeOf297
  v46 := Tryz.zeroValue297
  t53 := Tryz.underlying315
  a53 := Tryz.isAgg315
  z53 := Tryz.sizeOf315
  v53 := Tryz.zeroValue315
  t57 := Tryz.underlying319
  a57 := Tryz.isAgg319
  z57 := Tryz.sizeOf319
  v57 := Tryz.zeroValue319
  t63 := Tryz.underlying337
  a63 := Tryz.isAgg337
  z63 := Tryz.sizeOf337
  v63 := Tryz.zeroValue337
  t64 := Tryz.underlying338
  a64 := Tryz.isAgg338
  z64 := Tryz.sizeOf338
  v64 := Tryz.zeroValue338 }
def Tryz.sorted117_ren : Go.Shelf.Ren := ⟨fun | 6 => 117 | 8 => 166 | 9 => 167 | 11 => 213 | 13 => 215 | 12 => 214 | 23 => 261 | 24 => 262 | 14 => 252 | 15 => 253 | 16 => 254 | 17 => 255 | 18 => 256 | 19 => 257 | 20 => 258 | 21 => 259 | 22 => 260 | 25 => 276 | 26 => 277 | 27 => 278 | 28 => 279 | 29 => 280 | 30 => 281 | 31 => 291 | n => n, fun | 26 => 9 | 28 => 165 | 24 => 71 | 0 => 0 | 3 => 3 | 37 => 242 | 48 => 281 | 50 => 297 | 4 => 4 | 40 => 290 | 39 => 289 | 45 => 261 | 5 => 5 | 9 => 9 | 51 => 315 | 55 => 319 | 57 => 337 | 58 => 338 | 33 => 89 | n => n, fun | n => n⟩
theorem Tryz.sorted117 : Go.Proofs.SlLaysZ.n6 Tryz.prog Tryz.sorted117_ren := {
  mixed := by kernel_rfl
  f6 := ⟨Tryz.f117.name, by decide, Tryz.func117.trans (congrArg some (by kernel_rfl))⟩
  f8 := ⟨Tryz.f166.name, by decide, Tryz.func166.trans (congrArg some (by kernel_rfl))⟩
  f11 := ⟨Tryz.f213.name, by decide, Tryz.func213.trans (congrArg some (by kernel_rfl))⟩
  t0 := Tryz.underlying0
  a0 := Tryz.isAgg0
  z0 := Tryz.sizeOf0
  v0 := Tryz.zeroValue0
  t24 := Tryz.underlying71
  a24 := Tryz.isAgg71
  z24 := Tryz.sizeOf71
  v24 := Tryz.zeroValue71
  t26 := Tryz.underlying9
  a26 := Tryz.isAgg9
  z26 := Tryz.sizeOf9
  v26 := Tryz.zeroValue9
  t28 := Tryz.underlying165
  a28 := Tryz.isAgg165
  z28 := Tryz.sizeOf165
  v28 := Tryz.zeroValue165
  i26 := by kernel_rfl }
def Tryz.keys118_ren : Go.Shelf.Ren := ⟨fun | 7 => 118 | 10 => 168 | n => n, fun | 23 => 111 | 26 => 9 | 3 => 9 | 28 => 165 | 0 => 0 | 27 => 164 | 33 => 89 | 4 => 4 | n => n, fun | n => n⟩
theorem Tryz.keys118 : Go.Proofs.SlLaysZ.n7 Tryz.prog Tryz.keys118_ren := {
  mixed := by kernel_rfl
  f7 := ⟨Tryz.f118.name, by decide, Tryz.func118.trans (congrArg some (by kernel_rfl))⟩
  f10 := ⟨Tryz.f168.name, by decide, Tryz.func168.trans (congrArg some (by kernel_rfl))⟩
  t0 := Tryz.underlying0
  a0 := Tryz.isAgg0
  z0 := Tryz.sizeOf0
  v0 := Tryz.zeroValue0
  t4 := Tryz.underlying4
  a4 := Tryz.isAgg4
  z4 := Tryz.sizeOf4
  v4 := Tryz.zeroValue4
  t23 := Tryz.underlying111
  a23 := Tryz.isAgg111
  z23 := Tryz.sizeOf111
  v23 := Tryz.zeroValue111
  t26 := Tryz.underlying9
  a26 := Tryz.isAgg9
  z26 := Tryz.sizeOf9
  v26 := Tryz.zeroValue9
  t27 := Tryz.underlying164
  a27 := Tryz.isAgg164
  z27 := Tryz.sizeOf164
  v27 := Tryz.zeroValue164
  t28 := Tryz.underlying165
  a28 := Tryz.isAgg165
  z28 := Tryz.sizeOf165
  v28 := Tryz.zeroValue165
  t33 := Tryz.underlying89
  a33 := Tryz.isAgg89
  z33 := Tryz.sizeOf89
  v33 := Tryz.zeroValue89 }
def Tryz.keys127_ren : Go.Shelf.Ren := ⟨fun | 7 => 127 | 10 => 175 | n => n, fun | 23 => 104 | 26 => 9 | 3 => 9 | 28 => 165 | 0 => 0 | 27 => 164 | 33 => 89 | 4 => 4 | n => n, fun | n => n⟩
theorem Tryz.keys127 : Go.Proofs.SlLaysZ.n7 Tryz.prog Tryz.keys127_ren := {
  mixed := by kernel_rfl
  f7 := ⟨Tryz.f127.name, by decide, Tryz.func127.trans (congrArg some (by kernel_rfl))⟩
  f10 := ⟨Tryz.f175.name, by decide, Tryz.func175.trans (congrArg some (by kernel_rfl))⟩
  t0 := Tryz.underlying0
  a0 := Tryz.isAgg0
  z0 := Tryz.sizeOf0
  v0 := Tryz.zeroValue0
  t4 := Tryz.underlying4
  a4 := Tryz.isAgg4
  z4 := Tryz.sizeOf4
  v4 := Tryz.zeroValue4
  t23 := Tryz.underlying104
  a23 := Tryz.isAgg104
  z23 := Tryz.sizeOf104
  v23 := Tryz.zeroValue104
  t26 := Tryz.underlying9
  a26 := Tryz.isAgg9
  z26 := Tryz.sizeOf9
  v26 := Tryz.zeroValue9
  t27 := Tryz.underlying164
  a27 := Tryz.isAgg164
  z27 := Tryz.sizeOf164
  v27 := Tryz.zeroValue164
  t28 := Tryz.underlying165
  a28 := Tryz.isAgg165
  z28 := Tryz.sizeOf165
  v28 := Tryz.zeroValue165
  t33 := Tryz.underlying89
  a33 := Tryz.isAgg89
  z33 := Tryz.sizeOf89
  v33 := Tryz.zeroValue89 }
end Go.Proofs

/- slices.Sorted of a map's keys, out of the library's contracts. -/
set_option linter.unusedVariables false
namespace Go.Proofs.YtcchfmilleffjaaGreatDoor
open Go Go.RowKit Go.Maps Go.Sort Go.Shelf
theorem sorts_in (m : Nat) : AnyZ.SortsIn Tryz.prog Tryz.sorted117_ren Fence.wide m :=
  ⟨fun blk off cap ss W hH hblk hsz => callsIn_wide.2 (AnyM.slices_Sort_string Tryz.sort167 blk off cap ss W hH hblk hsz), fun p cap W => callsIn_wide.2 (AnyM.slices_Sort_string_none Tryz.sort167 p cap W)⟩
set_option maxHeartbeats 1000000 in
theorem so_118 : SortedOk Tryz.prog 117 168 9 := fun b nn Bm D0 R w hB hc hown hmax hbytes => by
  have hseq : SeqGives Fence.wide 2 Tryz.prog 168 #[.pointer (some ⟨Bm, 0, none⟩)] encStr (fun ss => ss.Perm (strKeys D0)) (Maps.size D0) w :=
    AnyZ.keys_gives (ρ := Tryz.keys118_ren) { Tryz.keys118 with } Fence.wide _ trivial rfl (by omega) Bm b nn D0 _ hB hc hown
  refine (callsIn_wide.1 (AnyZ.sorted_in Tryz.sorted117 Fence.wide 5 trivial trivial trivial trivial rfl (by omega) (sorts_in _) (enters_of Tryz.func167 (by kernel_rfl) rfl) 168 #[.pointer (some ⟨Bm, 0, none⟩)] trivial (enters_of Tryz.func168 (by kernel_rfl) rfl) _ _ hmax hbytes _ hseq)).mono ?_
  rintro e w' ⟨v, ss, he, hp, hrow, _, hb⟩
  exact ⟨v, ss, he, hp, hrow, hb⟩
theorem pc_Sorted_118 {β : Type} {fD : β → DV} (tab : List (List UInt8 × β)) (hn : tab.length * 16 ≤ 140737488355328) (hl : ∀ x ∈ tab, x.1.length ≤ maxLen) (hd : (tab.map (·.1)).Nodup) :
    HCall Tryz.prog J 117 [.one (.clo 168 [.ptr 0 0])] [[.map 0]] [] [mapOf D.str fD tab] (isH (.one (.d (strsD (sortS (tab.map (·.1)))))) [[.map 0]] [] [mapOf D.str fD tab]) :=
  HCall.sorted so_118 (by kernel_rfl) Tryz.func117 (by kernel_rfl) (by kernel_rfl) tab hn hl hd
set_option maxHeartbeats 1000000 in
theorem so_127 : SortedOk Tryz.prog 117 175 9 := fun b nn Bm D0 R w hB hc hown hmax hbytes => by
  have hseq : SeqGives Fence.wide 2 Tryz.prog 175 #[.pointer (some ⟨Bm, 0, none⟩)] encStr (fun ss => ss.Perm (strKeys D0)) (Maps.size D0) w :=
    AnyZ.keys_gives (ρ := Tryz.keys127_ren) { Tryz.keys127 with } Fence.wide _ trivial rfl (by omega) Bm b nn D0 _ hB hc hown
  refine (callsIn_wide.1 (AnyZ.sorted_in Tryz.sorted117 Fence.wide 5 trivial trivial trivial trivial rfl (by omega) (sorts_in _) (enters_of Tryz.func167 (by kernel_rfl) rfl) 175 #[.pointer (some ⟨Bm, 0, none⟩)] trivial (enters_of Tryz.func175 (by kernel_rfl) rfl) _ _ hmax hbytes _ hseq)).mono ?_
  rintro e w' ⟨v, ss, he, hp, hrow, _, hb⟩
  exact ⟨v, ss, he, hp, hrow, hb⟩
theorem pc_Sorted_127 {β : Type} {fD : β → DV} (tab : List (List UInt8 × β)) (hn : tab.length * 16 ≤ 140737488355328) (hl : ∀ x ∈ tab, x.1.length ≤ maxLen) (hd : (tab.map (·.1)).Nodup) :
    HCall Tryz.prog J 117 [.one (.clo 175 [.ptr 0 0])] [[.map 0]] [] [mapOf D.str fD tab] (isH (.one (.d (strsD (sortS (tab.map (·.1)))))) [[.map 0]] [] [mapOf D.str fD tab]) :=
  HCall.sorted so_127 (by kernel_rfl) Tryz.func117 (by kernel_rfl) (by kernel_rfl) tab hn hl hd
end Go.Proofs.YtcchfmilleffjaaGreatDoor

/- Plain laws for the walks of rules: keys at or below others, what is moved, listed tables. -/
set_option linter.unusedVariables false
set_option linter.unusedSimpArgs false
namespace Go.Proofs.YtcchfmilleffjaaGreatDoor
open Go
theorem beqS_iff (a b : L8) : beqS a b = true ↔ a = b := by unfold beqS; simp
theorem tail_is (a top : L8) : (tailOf a top).isSome = (a == top || belowB a top) := by
  unfold tailOf belowB
  by_cases h : (a == top) = true
  · rw [if_pos h, h]; rfl
  · rw [if_neg h, Bool.eq_false_iff.2 h, Bool.false_or]
    by_cases h2 : Lib.hasPrefix a (top ++ [47]) = true
    · rw [if_pos h2, h2]; rfl
    · rw [if_neg h2, Bool.eq_false_iff.2 h2]; rfl
theorem tail_t {a top : L8} (h : (a == top || belowB a top) = true) : ∃ s, tailOf a top = some s := by
  rw [← tail_is] at h; exact Option.isSome_iff_exists.1 h
theorem tail_f {a top : L8} (h : (a == top || belowB a top) = false) : tailOf a top = none := by
  rw [← tail_is] at h
  cases ht : tailOf a top with
  | none => rfl
  | some s => rw [ht] at h; cases h
theorem tail_nt {a top : L8} (h : (!(a == top) && !belowB a top) = true) : tailOf a top = none := tail_f (by cases h1 : (a == top) <;> cases h2 : belowB a top <;> simp_all)
theorem tail_nf {a top : L8} (h : (!(a == top) && !belowB a top) = false) : ∃ s, tailOf a top = some s := tail_t (by cases h1 : (a == top) <;> cases h2 : belowB a top <;> simp_all)
theorem tail_len {a top s : L8} (h : tailOf a top = some s) : top.length ≤ a.length ∧ a.drop top.length = s ∧ a.length = top.length + s.length := by
  have := (tail_some.1 h).1
  subst this
  simp
/-- Whether a key that is moved is a key. -/
def okM (key tu : L8) (x : L8 × L8) : Bool := match tailOf x.1 key with | some s => pathB (tu ++ s) | none => true
theorem okM_t {key tu s : L8} {x : L8 × L8} (h : tailOf x.1 key = some s) : okM key tu x = pathB (tu ++ s) := by unfold okM; rw [h]
theorem okM_f {key tu : L8} {x : L8 × L8} (h : tailOf x.1 key = none) : okM key tu x = true := by unfold okM; rw [h]
theorem bad_ok (t : Tab) (key tu : L8) : badP t key tu = !t.all (okM key tu) := by
  rw [List.not_all_eq_any_not, Bool.eq_iff_iff]
  unfold badP
  rw [List.any_eq_true, List.any_eq_true]
  constructor
  · rintro ⟨x, hx, h⟩
    obtain ⟨y, hy, s, hs, he⟩ := mov_keys.1 (List.mem_map.2 ⟨x, hx, rfl⟩)
    exact ⟨y, hy, by rw [okM_t hs, ← he]; exact h⟩
  · rintro ⟨y, hy, h⟩
    cases ht : tailOf y.1 key with
    | none => rw [okM_f ht] at h; cases h
    | some s =>
      rw [okM_t ht] at h
      obtain ⟨x, hx, he⟩ := List.mem_map.1 (mov_keys.2 ⟨y, hy, s, ht, rfl⟩ : tu ++ s ∈ (movT t key tu).map (·.1))
      exact ⟨x, hx, by rw [he]; exact h⟩
theorem all_perm {α : Type} {l l' : List α} (p : α → Bool) (h : l.Perm l') : l.all p = l'.all p := by
  rw [Bool.eq_iff_iff, List.all_eq_true, List.all_eq_true]
  exact ⟨fun q x h1 => q x (h.mem_iff.2 h1), fun q x h1 => q x (h.mem_iff.1 h1)⟩
theorem bad_hit {t dn rest : Tab} {y : L8 × L8} {key tu s : L8} (hp : t.Perm (dn ++ y :: rest)) (h : tailOf y.1 key = some s) (hb : (!pathB (tu ++ s)) = true) : badP t key tu = true := by
  rw [bad_ok, Bool.not_eq_true', ← Bool.not_eq_true, List.all_eq_true]
  intro hall
  have := hall y (hp.mem_iff.2 (by simp))
  rw [okM_t h] at this
  rw [this] at hb; cases hb
theorem bad_none {t dn : Tab} {key tu : L8} (hp : t.Perm dn) (h : dn.all (okM key tu) = true) : badP t key tu = false := by
  rw [bad_ok, all_perm _ hp, h]; rfl
theorem all_snoc {α : Type} {p : α → Bool} {l : List α} {x : α} (h : l.all p = true) (hx : p x = true) : (l ++ [x]).all p = true := by
  rw [List.all_append, h]; simp [hx]
theorem any_snoc {α : Type} {p : α → Bool} {l : List α} {x : α} (h : l.any p = false) (hx : p x = false) : (l ++ [x]).any p = false := by
  rw [List.any_append, h]; simp [hx]
theorem mem_len {t dn rest : Tab} {y : L8 × L8} {N : Nat} (hl : ∀ x ∈ t, x.1.length ≤ N) (hp : t.Perm (dn ++ y :: rest)) : y.1.length ≤ N := hl y (hp.mem_iff.2 (by simp))
theorem sum_pref {t tab1 tab2 mv : Tab} {key tu : L8} (hd : ndT t) (hm : ndT mv) (hmv : lk mv = movF (lk t) key tu) (h1 : EqT tab1 (t.filter fun x => (tailOf x.1 key).isNone)) (h2 : EqT tab2 (copyT mv tab1)) : EqT tab2 (prefT t key tu) :=
  ⟨h2.l, nd_pref hd _ _, by rw [h2.e, lk_copy _ hm, h1.e, off_filter hd, lk_pref hd, hmv]; rfl⟩
theorem orF_nil (g : Fm) : g = orF (lk []) g := rfl
theorem mov_nil (key tu : L8) : lk [] = movF (lk []) key tu := by
  funext n
  unfold movF
  cases tailOf n tu <;> rfl
theorem nd_keys {t : Tab} (h : ndT t) : (t.map (·.1)).Nodup := h
def cutPre (s p : L8) : L8 × Bool := (Lib.trimPrefix s p, Lib.hasPrefix s p)
theorem cutPre_eq (s p : L8) : cutPre s p = if Lib.hasPrefix s p then (s.drop p.length, true) else (s, false) := by
  unfold cutPre Lib.trimPrefix
  cases h : Lib.hasPrefix s p with
  | true => simp_all [Lib.hasPrefix]
  | false => simp_all [Lib.hasPrefix]
def belowR (a top : L8) : L8 × Bool := if a == top then ([], true) else ([47] ++ (cutPre a (top ++ [47])).1, (cutPre a (top ++ [47])).2)
theorem belowR_t {a top : L8} (h : (belowR a top).2 = true) : tailOf a top = some (belowR a top).1 := by
  unfold belowR at h ⊢
  by_cases he : (a == top) = true
  · rw [if_pos he]
    unfold tailOf; rw [if_pos he]
  · rw [if_neg he] at h ⊢
    have h : (cutPre a (top ++ [47])).2 = true := h
    rw [cutPre_eq] at h ⊢
    by_cases hp : Lib.hasPrefix a (top ++ [47]) = true
    · rw [if_pos hp]
      obtain ⟨z, rfl⟩ := hasPrefix_iff.1 hp
      refine tail_some.2 ⟨by simp, .inr (by simp)⟩
    · rw [if_neg hp] at h; cases h
theorem belowR_f {a top : L8} (h : (belowR a top).2 = false) : tailOf a top = none := by
  unfold belowR at h
  by_cases he : (a == top) = true
  · rw [if_pos he] at h; cases h
  · rw [if_neg he] at h
    have h : (cutPre a (top ++ [47])).2 = false := h
    unfold tailOf
    rw [if_neg he]
    rw [cutPre_eq] at h
    by_cases hp : Lib.hasPrefix a (top ++ [47]) = true
    · rw [if_pos hp] at h; cases h
    · rw [if_neg hp]
def keysT (t : Tab) : List L8 := sortS (t.map (·.1))
def listTo (t : Tab) (i : Nat) : List Stg := ((keysT t).take i).map fun k => ⟨k, getL beqS [] t k⟩
theorem listTo_0 (t : Tab) : listTo t 0 = [] := rfl
theorem listTo_succ {t : Tab} {i : Nat} (hi : i < (keysT t).length) : (listTo t i).map stgD ++ [[.str ((keysT t).getD i []), .str (getL beqS [] t ((keysT t).getD i []))]] = (listTo t (i + 1)).map stgD := by
  unfold listTo
  rw [take_getD (d := []) hi]
  simp [stgD]
theorem listTo_end (t : Tab) : listTo t (keysT t).length = listT t := by unfold listTo listT; rw [List.take_length]; rfl
theorem listTo_len (t : Tab) {i : Nat} (hi : i ≤ (keysT t).length) : (listTo t i).length = i := by unfold listTo; simp [hi]
theorem keysT_len (t : Tab) : (keysT t).length = t.length := by unfold keysT sortS; rw [List.length_mergeSort, List.length_map]
theorem step_4 {t tab : Tab} {r : Rul} (h : EqT tab (doT t r)) (hb : (r.kd == 2 && badP t r.k r.tu) = false) (c : decide ((tab.length : Int) > 2000) = true) : stepE t r = 4 := by
  unfold stepE
  rw [if_neg (Bool.eq_false_iff.1 hb), ← h.len, if_pos c]
theorem step_0 {t tab : Tab} {r : Rul} (h : EqT tab (doT t r)) (hb : (r.kd == 2 && badP t r.k r.tu) = false) (c : decide ((tab.length : Int) > 2000) = false) : stepE t r = 0 := by
  unfold stepE
  rw [if_neg (Bool.eq_false_iff.1 hb), ← h.len, if_neg (Bool.eq_false_iff.1 c)]
theorem step_5 {t : Tab} {r : Rul} (hb : (r.kd == 2 && badP t r.k r.tu) = true) : stepE t r = 5 := by unfold stepE; rw [if_pos hb]
end Go.Proofs.YtcchfmilleffjaaGreatDoor

set_option linter.unusedVariables false
set_option linter.unusedSimpArgs false
set_option maxRecDepth 100000
set_option maxHeartbeats 4000000
namespace Go.Proofs.YtcchfmilleffjaaGreatDoor
open Go
open Go.RowKit
attribute [local irreducible] rangeB pathB nameB valueB firstNe tailOf listT ndT lk badP keysT belowR
theorem pc_CopyT (dst src : Tab) (hd : ndT dst) (hs : ndT src) :
  HCall Tryz.prog J 165 ([.one (.map 0), .one (.map 1)]) ([]) ([]) ([tabD dst, tabD src]) (isX (X := Tab) (fun tab => EqT tab (copyT src dst)) (fun tab => .tup []) (fun tab => []) (fun tab => []) (fun tab => [tabD tab, tabD src])) := by
 refine HCall.ofX tOk (fun _ => ⟨0, 0, 2⟩) (fn := Tryz.f165) Tryz.func165 (by kernel_rfl) rfl (Nat.le_of_ble_eq_true rfl) (fun E => ?_)
 refine W.forMap (enc := D.str) (fD := fun v : List UInt8 => DV.one (.str v)) (l0 := src) (mi := 1) tOk (fun q M dn st => ∃ tab : Tab, ndT tab ∧ lk tab = orF (lk dn) (lk dst) ∧ st = ⟨ofL [(7, .one (.d (.raw q))), (0, .one (.map 0)), (1, .one (.map 1))], [], [], [tabD tab, M]⟩) 1 rfl rfl rfl (by rintro q M dn _ ⟨tab, f0_0, f0_1, rfl⟩; exact ⟨rfl, rfl⟩) ⟨rfl, rfl, rfl, rfl⟩ ?_ ?_ ?_
 ·skip
  refine S.pure tOk zOk rfl rfl rfl ?_
  refine WL.nil ?_
  exact ⟨rfl, rfl, fun q M => ⟨_, ⟨dst, hd, orF_nil _, rfl⟩, Wk.keep rfl ⟨rfl, rfl, rfl, trivial⟩ rfl⟩⟩
 ·skip
  rintro q M dn _ j0 c1000 born0 y rest E1 ⟨tab, f0_0, f0_1, rfl⟩ hE0 hst0 hp un0
  refine W.keep [(7, .one (.d (.raw q))), (0, .one (.map 0)), (1, .one (.map 1))] ⟨rfl, rfl, rfl, trivial⟩ ?_
  refine W.block ?_
  refine W.seq ?_
  refine W.region ?_
  refine S.entry hE0 rfl rfl hst0.at ?_
  refine S.pure tOk zOk rfl rfl rfl ?_
  refine S.pure tOk zOk rfl rfl rfl ?_
  refine S.pure tOk zOk rfl rfl rfl ?_
  refine S.pure tOk zOk rfl rfl rfl ?_
  refine thenK_n ?_
  refine W.region ?_
  refine S.pure tOk zOk rfl rfl rfl ?_
  refine S.pure tOk zOk rfl rfl rfl ?_
  refine S.pure tOk zOk rfl rfl rfl ?_
  refine S.mapUpdate tOk keyS (fD := fun v : List UInt8 => DV.one (.str v)) (y.2) (tab) rfl rfl rfl rfl rfl rfl rfl rfl (show _ = [tabD (setL beqS tab y.1 y.2), M] from rfl) ?_
  refine blockK_n ?_
  exact thenK_n ⟨_, ⟨setL beqS tab y.1 y.2, nd_set f0_0 _ _, copy_t (nd_part hs hp) f0_1, rfl⟩, Wk.keep rfl ⟨rfl, rfl, rfl, trivial⟩ rfl⟩
 ·skip
  rintro q M dn _ ⟨tab, f0_0, f0_1, rfl⟩ hp
  refine ⟨_, Wk.keep (l := [(7, .one (.d (.raw q))), (0, .one (.map 0)), (1, .one (.map 1))]) (b1 := []) (b2 := []) (r1 := []) (r2 := []) (m1 := [tabD tab, mapOf D.str (fun v : List UInt8 => DV.one (.str v)) (src)]) (m2 := []) rfl ⟨rfl, rfl, rfl, trivial⟩ rfl, ?_⟩
  exact ⟨tab, ⟨f0_0, nd_copy _ hd, by rw [f0_1, lk_copy _ hs, lk_perm hs (nd_perm hs hp) hp]⟩, _, rfl, rfl, LeG.refl _, rfl, rfl, rfl⟩
theorem pc_CopyM (dst src : Tab) (hd : ndT dst) (hs : ndT src) :
  HCall Tryz.prog J 126 ([.one (.map 0), .one (.map 1)]) ([]) ([]) ([tabD dst, tabD src]) (isX (X := Tab) (fun tab => EqT tab (copyT src dst)) (fun tab => .tup []) (fun tab => []) (fun tab => []) (fun tab => [tabD tab, tabD src])) := by
 refine HCall.ofX tOk (fun _ => ⟨0, 0, 2⟩) (fn := Tryz.f126) Tryz.func126 (by kernel_rfl) rfl (Nat.le_of_ble_eq_true rfl) (fun E => ?_)
 refine W.forMap (enc := D.str) (fD := fun v : List UInt8 => DV.one (.str v)) (l0 := src) (mi := 1) tOk (fun q M dn st => ∃ tab : Tab, ndT tab ∧ lk tab = orF (lk dn) (lk dst) ∧ st = ⟨ofL [(7, .one (.d (.raw q))), (0, .one (.map 0)), (1, .one (.map 1))], [], [], [tabD tab, M]⟩) 1 rfl rfl rfl (by rintro q M dn _ ⟨tab, f0_0, f0_1, rfl⟩; exact ⟨rfl, rfl⟩) ⟨rfl, rfl, rfl, rfl⟩ ?_ ?_ ?_
 ·skip
  refine S.pure tOk zOk rfl rfl rfl ?_
  refine WL.nil ?_
  exact ⟨rfl, rfl, fun q M => ⟨_, ⟨dst, hd, orF_nil _, rfl⟩, Wk.keep rfl ⟨rfl, rfl, rfl, trivial⟩ rfl⟩⟩
 ·skip
  rintro q M dn _ j0 c1000 born0 y rest E1 ⟨tab, f0_0, f0_1, rfl⟩ hE0 hst0 hp un0
  refine W.keep [(7, .one (.d (.raw q))), (0, .one (.map 0)), (1, .one (.map 1))] ⟨rfl, rfl, rfl, trivial⟩ ?_
  refine W.block ?_
  refine W.seq ?_
  refine W.region ?_
  refine S.entry hE0 rfl rfl hst0.at ?_
  refine S.pure tOk zOk rfl rfl rfl ?_
  refine S.pure tOk zOk rfl rfl rfl ?_
  refine S.pure tOk zOk rfl rfl rfl ?_
  refine S.pure tOk zOk rfl rfl rfl ?_
  refine thenK_n ?_
  refine W.region ?_
  refine S.pure tOk zOk rfl rfl rfl ?_
  refine S.pure tOk zOk rfl rfl rfl ?_
  refine S.pure tOk zOk rfl rfl rfl ?_
  refine S.mapUpdate tOk keyS (fD := fun v : List UInt8 => DV.one (.str v)) (y.2) (tab) rfl rfl rfl rfl rfl rfl rfl rfl (show _ = [tabD (setL beqS tab y.1 y.2), M] from rfl) ?_
  refine blockK_n ?_
  exact thenK_n ⟨_, ⟨setL beqS tab y.1 y.2, nd_set f0_0 _ _, copy_t (nd_part hs hp) f0_1, rfl⟩, Wk.keep rfl ⟨rfl, rfl, rfl, trivial⟩ rfl⟩
 ·skip
  rintro q M dn _ ⟨tab, f0_0, f0_1, rfl⟩ hp
  refine ⟨_, Wk.keep (l := [(7, .one (.d (.raw q))), (0, .one (.map 0)), (1, .one (.map 1))]) (b1 := []) (b2 := []) (r1 := []) (r2 := []) (m1 := [tabD tab, mapOf D.str (fun v : List UInt8 => DV.one (.str v)) (src)]) (m2 := []) rfl ⟨rfl, rfl, rfl, trivial⟩ rfl, ?_⟩
  exact ⟨tab, ⟨f0_0, nd_copy _ hd, by rw [f0_1, lk_copy _ hs, lk_perm hs (nd_perm hs hp) hp]⟩, _, rfl, rfl, LeG.refl _, rfl, rfl, rfl⟩
theorem pc_pre1 (x v key : List UInt8) (hk : key.length ≤ 1000000000) :
  HCall Tryz.prog J 164 ([.one (.d (.str x)), .one (.d (.str v)), .one (.ptr 0 0)]) ([[.d (.str key)]]) ([]) ([]) (isH (.one (.d (.bool (x == key || belowB x key)))) ([[.d (.str key)]]) ([]) ([])) := by
 refine HCall.ofD tOk ⟨1, 0, 0⟩ (fn := Tryz.f164) Tryz.func164 (by kernel_rfl) rfl (Nat.le_of_ble_eq_true rfl) (fun E => ?_)
 refine W.seq ?_
 refine W.region ?_
 refine S.pure tOk zOk rfl rfl rfl ?_
 refine thenK_n ?_
 refine W.seq ?_
 refine W.region ?_
 refine S.pure tOk zOk rfl rfl rfl ?_
 refine S.pure tOk zOk rfl rfl rfl ?_
 refine S.pure tOk zOk rfl rfl rfl ?_
 refine S.pure tOk zOk rfl rfl rfl ?_
 refine S.pureG tOk zOk rfl rfl tg (fun _ => rfl) rfl ?_
 refine S.pureG tOk zOk rfl rfl tg (fun _ => rfl) rfl ?_
 refine S.callG rfl rfl rfl rfl tg rfl rfl (fun _ => pc_mbelow x key hk) ?_
 refine S.pickOr tOk zOk rfl rfl tg ?_
 refine S.pure tOk zOk rfl rfl rfl ?_
 refine thenK_n ?_
 refine W.ret ?_
 exact ⟨_, rfl, rfl, LeG.refl _, rfl, rfl, rfl⟩
theorem pc_DelFunc (t : Tab) (key : List UInt8) (hd : ndT t) (hk : key.length ≤ 1000000000) :
  HCall Tryz.prog J 163 ([.one (.map 0), .one (.clo 164 [.ptr 0 0])]) ([[.d (.str key)]]) ([]) ([tabD t]) (isX (X := Tab) (fun tab => EqT tab (t.filter fun x => (tailOf x.1 key).isNone)) (fun tab => .tup []) (fun tab => [[.d (.str key)]]) (fun tab => []) (fun tab => [tabD tab])) := by
 refine HCall.ofX tOk (fun _ => ⟨1, 0, 1⟩) (fn := Tryz.f163) Tryz.func163 (by kernel_rfl) rfl (Nat.le_of_ble_eq_true rfl) (fun E => ?_)
 refine W.forMapDel (enc := D.str) (fD := fun v : List UInt8 => DV.one (.str v)) (l0 := t) (mi := 0) tOk (fun q M dn kp st => kp = dn.filter (fun x => (tailOf x.1 key).isNone) ∧ st = ⟨ofL [(7, .one (.d (.raw q))), (0, .one (.map 0)), (1, .one (.clo 164 [.ptr 0 0]))], [[.d (.str key)]], [], [M]⟩) 1 rfl rfl rfl (by rintro q M dn kp _ ⟨f0_0, rfl⟩; exact ⟨rfl, rfl⟩) ⟨rfl, rfl, rfl, rfl⟩ ?_ ?_ ?_
 ·skip
  refine S.pure tOk zOk rfl rfl rfl ?_
  refine WL.nil ?_
  exact ⟨rfl, rfl, fun q M => ⟨_, ⟨rfl, rfl⟩, Wk.keep rfl ⟨rfl, rfl, rfl, trivial⟩ rfl⟩⟩
 ·skip
  rintro q M dn kp _ j0 c1000 born0 y rest E1 ⟨f0_0, rfl⟩ hE0 hst0 hp
  refine W.keep [(7, .one (.d (.raw q))), (0, .one (.map 0)), (1, .one (.clo 164 [.ptr 0 0]))] ⟨rfl, rfl, rfl, trivial⟩ ?_
  refine W.block ?_
  refine W.seq ?_
  refine W.region ?_
  refine S.entry hE0 rfl rfl hst0.at ?_
  refine S.pure tOk zOk rfl rfl rfl ?_
  refine S.pure tOk zOk rfl rfl rfl ?_
  refine S.pure tOk zOk rfl rfl rfl ?_
  refine S.pure tOk zOk rfl rfl rfl ?_
  refine thenK_n ?_
  refine W.seq ?_
  refine W.region ?_
  refine S.pure tOk zOk rfl rfl rfl ?_
  refine S.pure tOk zOk rfl rfl rfl ?_
  refine S.pure tOk zOk rfl rfl rfl ?_
  refine S.hcallD rfl rfl rfl rfl ((pc_pre1 y.1 y.2 key hk).frameD [0] [] [] rfl rfl rfl rfl rfl rfl rfl rfl rfl) ?_
  refine thenK_n ?_
  refine W.cond rfl (fun c1 => ?_) (fun c1 => ?_)
  ·skip
   obtain ⟨sf, hs⟩ := tail_t c1
   refine W.region ?_
   refine S.pure tOk zOk rfl rfl rfl ?_
   refine S.pure tOk zOk rfl rfl rfl ?_
   refine S.mapDeleteSt tOk keyS beqS_iff hst0 (nd_keys hd) rfl rfl rfl rfl rfl rfl rfl (show _ = [M.eraseIdx j0] from rfl) ?_
   refine blockK_n ?_
   exact thenK_n ⟨_, .inr ⟨f0_0.trans (kept_t hs).symm, rfl⟩, Wk.keep rfl ⟨rfl, rfl, rfl, trivial⟩ rfl⟩
  ·skip
   have hs := tail_f c1
   refine W.skip ?_
   refine blockK_n ?_
   exact thenK_n ⟨_, .inl ⟨by rw [f0_0, kept_f hs], rfl⟩, Wk.keep rfl ⟨rfl, rfl, rfl, trivial⟩ rfl⟩
 ·skip
  rintro q M dn kp tab _ ⟨f0_0, rfl⟩ hp hkp hsub
  have ho := off_end (tab := tab) (key := key) hd hp (by rw [← f0_0]; exact hkp)
  refine ⟨_, Wk.keep (l := [(7, .one (.d (.raw q))), (0, .one (.map 0)), (1, .one (.clo 164 [.ptr 0 0]))]) (b1 := [[.d (.str key)]]) (b2 := []) (r1 := []) (r2 := []) (m1 := [mapOf D.str (fun v : List UInt8 => DV.one (.str v)) tab]) (m2 := []) rfl ⟨rfl, rfl, rfl, trivial⟩ rfl, ?_⟩
  exact ⟨tab, ⟨ho.1, nd_filter hd _, by rw [ho.2, off_filter hd]⟩, _, rfl, rfl, LeG.refl _, rfl, rfl, rfl⟩
theorem pc_prefix (t : Tab) (key tu : List UInt8) (hd : ndT t) (hl : ∀ x ∈ t, x.1.length ≤ 2000000) (hk : key.length ≤ 2000000) (ht : tu.length ≤ 2000000) :
  HCall Tryz.prog J 116 ([.one (.map 0), .one (.d (.str key)), .one (.d (.str tu))]) ([]) ([]) ([tabD t]) (isX (X := Tab) (fun tab => EqT tab (if badP t key tu then t else prefT t key tu)) (fun tab => .one (.d (.bool (!badP t key tu)))) (fun tab => []) (fun tab => []) (fun tab => [tabD tab])) := by
 refine HCall.ofX tOk (fun _ => ⟨0, 0, 1⟩) (fn := Tryz.f116) Tryz.func116 (by kernel_rfl) rfl (Nat.le_of_ble_eq_true rfl) (fun E => ?_)
 refine W.seq ?_
 refine W.region ?_
 refine S.box rfl rfl rfl rfl ?_
 refine S.pure tOk zOk rfl rfl rfl ?_
 refine thenK_n ?_
 refine W.seq ?_
 refine W.region ?_
 refine S.makeMap rfl ?_
 refine S.pure tOk zOk rfl rfl rfl ?_
 refine thenK_n ?_
 refine W.seq ?_
 refine W.forMap (enc := D.str) (fD := fun v : List UInt8 => DV.one (.str v)) (l0 := t) (mi := 0) tOk (fun q M dn st => ∃ mv : Tab, ndT mv ∧ lk mv = movF (lk dn) key tu ∧ dn.all (okM key tu) = true ∧ st = ⟨ofL [(13, .one (.d (.raw q))), (0, .one (.map 0)), (2, .one (.d (.str tu))), (4, .one (.ptr 0 0)), (7, .one (.map 1))], [[.d (.str key)]], [], [M, tabD mv]⟩) 1 rfl rfl rfl (by rintro q M dn _ ⟨mv, f0_0, f0_1, f0_2, rfl⟩; exact ⟨rfl, rfl⟩) ⟨rfl, rfl, rfl, rfl⟩ ?_ ?_ ?_
 ·skip
  refine S.pure tOk zOk rfl rfl rfl ?_
  refine WL.nil ?_
  exact ⟨rfl, rfl, fun q M => ⟨_, ⟨[], nd_nil, mov_nil _ _, rfl, rfl⟩, Wk.keep rfl ⟨rfl, rfl, rfl, rfl, rfl, trivial⟩ rfl⟩⟩
 ·skip
  rintro q M dn _ j0 c1000 born0 y rest E1 ⟨mv, f0_0, f0_1, f0_2, rfl⟩ hE0 hst0 hp un0
  refine W.keep [(13, .one (.d (.raw q))), (0, .one (.map 0)), (2, .one (.d (.str tu))), (4, .one (.ptr 0 0)), (7, .one (.map 1))] ⟨rfl, rfl, rfl, rfl, rfl, trivial⟩ ?_
  have hy := mem_len hl hp
  refine W.block ?_
  refine W.seq ?_
  refine W.region ?_
  refine S.entry hE0 rfl rfl hst0.at ?_
  refine S.pure tOk zOk rfl rfl rfl ?_
  refine S.pure tOk zOk rfl rfl rfl ?_
  refine S.pure tOk zOk rfl rfl rfl ?_
  refine S.pure tOk zOk rfl rfl rfl ?_
  refine thenK_n ?_
  refine W.seq ?_
  refine W.seq ?_
  refine W.region ?_
  refine S.pure tOk zOk rfl rfl rfl ?_
  refine S.pure tOk zOk rfl rfl rfl ?_
  refine S.pure tOk zOk rfl rfl rfl ?_
  refine S.pure tOk zOk rfl rfl rfl ?_
  refine S.pureG tOk zOk rfl rfl tg (fun _ => rfl) rfl ?_
  refine S.pureG tOk zOk rfl rfl tg (fun _ => rfl) rfl ?_
  refine S.callG rfl rfl rfl rfl tg rfl rfl (fun _ => pc_mbelow y.1 key (by omega)) ?_
  refine S.pureG tOk zOk rfl rfl tg (fun _ => rfl) rfl ?_
  refine S.pickAnd tOk zOk rfl rfl tg ?_
  refine thenK_n ?_
  refine W.cond rfl (fun c1 => ?_) (fun c1 => ?_)
  ·skip
   have hs := tail_nt c1
   refine W.exit ?_
   refine thenK_e ?_
   refine blockK_x ?_
   exact thenK_n ⟨_, ⟨mv, f0_0, mov_f (nd_part hd hp) f0_1 hs, all_snoc f0_2 (okM_f hs), rfl⟩, Wk.keep rfl ⟨rfl, rfl, rfl, rfl, rfl, trivial⟩ rfl⟩
  ·skip
   obtain ⟨sf, hs⟩ := tail_nf c1
   obtain ⟨hs1, hs2, hs3⟩ := tail_len hs
   refine W.skip ?_
   refine thenK_n ?_
   refine W.seq ?_
   refine W.region ?_
   refine S.pure tOk zOk rfl rfl rfl ?_
   refine S.pure tOk zOk rfl rfl rfl ?_
   refine S.pure tOk zOk rfl rfl rfl ?_
   refine S.pure tOk zOk rfl rfl rfl ?_
   refine S.pureE tOk zOk rfl (sl_ok (by omega) (by omega) (by omega)) (show _ = V.one (.d (.str sf)) by rw [← hs2]; simp) rfl ?_
   refine S.pure tOk zOk rfl (cat_ok (by omega)) rfl ?_
   refine S.pure tOk zOk rfl rfl rfl ?_
   refine thenK_n ?_
   refine W.seq ?_
   refine W.seq ?_
   refine W.region ?_
   refine S.pure tOk zOk rfl rfl rfl ?_
   refine S.call rfl rfl rfl rfl rfl (pc_ver_IsPath (tu ++ sf) (by simp; omega)) ?_
   refine S.pure tOk zOk rfl rfl rfl ?_
   refine thenK_n ?_
   refine W.cond rfl (fun c2 => ?_) (fun c2 => ?_)
   ·skip
    have hb := bad_hit hp hs c2
    rw [hb]
    refine W.seq ?_
    refine W.region ?_
    refine S.pure tOk zOk rfl rfl rfl ?_
    refine thenK_n ?_
    refine un0 _ _ _ _ _ _ _ rfl rfl ?_
    refine W.ret ?_
    refine thenK_r ?_
    refine blockK_r ?_
    refine thenK_r ?_
    refine blockK_r ?_
    refine thenK_r ?_
    exact ⟨t, by rw [if_pos rfl]; exact EqT.refl hd, _, rfl, rfl, LeG.refl _, rfl, rfl, rfl⟩
   ·skip
    refine W.skip ?_
    refine thenK_n ?_
    refine W.region ?_
    refine S.pure tOk zOk rfl rfl rfl ?_
    refine S.pure tOk zOk rfl rfl rfl ?_
    refine S.pure tOk zOk rfl rfl rfl ?_
    refine S.mapUpdate tOk keyS (fD := fun v : List UInt8 => DV.one (.str v)) (y.2) (mv) rfl rfl rfl rfl rfl rfl rfl rfl (show _ = [M, tabD (setL beqS mv (tu ++ sf) y.2)] from rfl) ?_
    refine blockK_n ?_
    exact thenK_n ⟨_, ⟨setL beqS mv (tu ++ sf) y.2, nd_set f0_0 _ _, mov_t (nd_part hd hp) f0_1 hs, all_snoc f0_2 ((okM_t hs).trans (by simpa using c2)), rfl⟩, Wk.keep rfl ⟨rfl, rfl, rfl, rfl, rfl, trivial⟩ rfl⟩
 ·skip
  rintro q M dn _ ⟨mv, f0_0, f0_1, f0_2, rfl⟩ hp
  have hb := bad_none hp f0_2
  have hm : lk mv = movF (lk t) key tu := by rw [f0_1, lk_perm hd (nd_perm hd hp) hp]
  rw [hb]
  refine ⟨_, Wk.keep (l := [(13, .one (.d (.raw q))), (0, .one (.map 0)), (2, .one (.d (.str tu))), (4, .one (.ptr 0 0)), (7, .one (.map 1))]) (b1 := [[.d (.str key)]]) (b2 := []) (r1 := []) (r2 := []) (m1 := [mapOf D.str (fun v : List UInt8 => DV.one (.str v)) (t), tabD mv]) (m2 := []) rfl ⟨rfl, rfl, rfl, rfl, rfl, trivial⟩ rfl, ?_⟩
  refine thenK_n ?_
  refine W.seq ?_
  refine W.region ?_
  refine S.pure tOk zOk rfl rfl rfl ?_
  refine S.makeFunc rfl rfl rfl ?_
  refine S.hcallX rfl rfl rfl rfl ((pc_DelFunc t key hd (by omega)).frameX [0] [] [0] rfl rfl rfl rfl rfl (fun _ => rfl) (fun _ => rfl) (fun _ => rfl) (fun _ => rfl)) ?_
  rintro tab1 h1
  refine thenK_n ?_
  refine W.seq ?_
  refine W.region ?_
  refine S.pure tOk zOk rfl rfl rfl ?_
  refine S.pure tOk zOk rfl rfl rfl ?_
  refine S.hcallX rfl rfl rfl rfl ((pc_CopyT tab1 mv h1.l f0_0).frameX [] [] [0, 1] rfl rfl rfl rfl rfl (fun _ => rfl) (fun _ => rfl) (fun _ => rfl) (fun _ => rfl)) ?_
  rintro tab2 h2
  refine thenK_n ?_
  refine W.seq ?_
  refine W.region ?_
  refine S.pure tOk zOk rfl rfl rfl ?_
  refine thenK_n ?_
  refine W.ret ?_
  exact ⟨tab2, by rw [if_neg (by simp)]; exact sum_pref hd f0_0 hm h1 h2, _, rfl, rfl, LeG.refl _, rfl, rfl, rfl⟩
end Go.Proofs.YtcchfmilleffjaaGreatDoor

set_option linter.unusedVariables false
set_option linter.unusedSimpArgs false
set_option maxRecDepth 100000
set_option maxHeartbeats 4000000
namespace Go.Proofs.YtcchfmilleffjaaGreatDoor
open Go
open Go.RowKit
attribute [local irreducible] rangeB pathB nameB valueB firstNe tailOf listT ndT badP sortS belowR prefT stepE
theorem pc_keys118 (es : List (DV × DV)) :
  HCall Tryz.prog J 118 ([.one (.map 0)]) ([]) ([]) ([es]) (isH (.one (.clo 168 [.ptr 0 0])) ([[.map 0]]) ([]) ([es])) := by
 refine HCall.ofD tOk ⟨1, 0, 1⟩ (fn := Tryz.f118) Tryz.func118 (by kernel_rfl) rfl (Nat.le_of_ble_eq_true rfl) (fun E => ?_)
 refine W.seq ?_
 refine W.region ?_
 refine S.box rfl rfl rfl rfl ?_
 refine S.pure tOk zOk rfl rfl rfl ?_
 refine thenK_n ?_
 refine W.seq ?_
 refine W.region ?_
 refine S.makeFunc rfl rfl rfl ?_
 refine S.pure tOk zOk rfl rfl rfl ?_
 refine thenK_n ?_
 refine W.ret ?_
 exact ⟨_, rfl, rfl, LeG.refl _, rfl, rfl, rfl⟩
theorem pc_settings (u : Tab) (hd : ndT u) (hl : ∀ x ∈ u, x.1.length ≤ 2000000) (hn : u.length ≤ 1000000) :
  HCall Tryz.prog J 68 ([.one (.map 0)]) ([]) ([]) ([tabD u]) (isH (.one (.d (.vec 2 ((listT u).map stgD)))) ([]) ([]) ([tabD u])) := by
 have hkl := keysT_len u
 refine HCall.ofD tOk ⟨0, 0, 1⟩ (fn := Tryz.f68) Tryz.func68 (by kernel_rfl) rfl (Nat.le_of_ble_eq_true rfl) (fun E => ?_)
 refine W.seq ?_
 refine W.region ?_
 refine S.pure tOk zOk rfl rfl rfl ?_
 refine thenK_n ?_
 refine W.seq ?_
 refine W.region ?_
 refine S.pure tOk zOk rfl rfl rfl ?_
 refine thenK_n ?_
 refine W.seq ?_
 refine W.seq ?_
 refine W.region ?_
 refine S.pure tOk zOk rfl rfl rfl ?_
 refine S.hcallD rfl rfl rfl rfl (pc_keys118 (tabD u)) ?_
 refine S.hcallD rfl rfl rfl rfl (pc_Sorted_118 u (by omega) (fun x hx => Nat.le_trans (hl x hx) (by decide)) (nd_keys hd)) ?_
 refine S.pure tOk zOk rfl rfl rfl ?_
 refine S.pure tOk zOk rfl rfl rfl ?_
 refine thenK_n ?_
 refine W.newRow 3 2 40 rfl ?_
 refine W.block ?_
 refine W.loop (fun k st => ∃ i : Nat, ∃ v : Nat, ∃ al : Bool, i ≤ (keysT u).length ∧ k = (keysT u).length - i ∧ ∃ t b2 r2 m2, st = ⟨t, [] ++ b2, [some ⟨al, v, 2, 40, (listTo u i).map stgD⟩] ++ r2, [tabD u] ++ m2⟩ ∧ holdsL t [(0, .one (.map 0)), (3, .one (.row 0 v 0 ((listTo u i).map stgD).length)), (8, .one (.d (.vec 1 ((keysT u).map fun x => [.str x])))), (9, .one (.d (.int .i64 (((keysT u).map fun x => ([.str x] : List D)).length : Int)))), (10, .one (.d (.int .i64 (i : Int))))]) ((keysT u).length) ⟨0, _, _, Nat.zero_le _, rfl, _, _, _, _, rfl, rfl, rfl, rfl, rfl, rfl, trivial⟩ ?_
 rintro k0 _ ⟨i, v, al, f0_0, rfl, t0, bb0, rr0, mm0, rfl, hh0⟩
 refine W.keepR _ _ _ _ _ _ _ hh0 rfl ?_
 refine W.seq ?_
 refine W.region ?_
 refine S.pure tOk zOk rfl rfl rfl ?_
 refine thenK_n ?_
 refine W.seq ?_
 refine W.cond rfl (fun c1 => ?_) (fun c1 => ?_)
 ·skip
  have hi := row_lt c1
  have hll := listTo_len u (Nat.le_of_lt hi)
  refine W.skip ?_
  refine thenK_n ?_
  refine W.seq ?_
  refine W.block ?_
  refine W.seq ?_
  refine W.region ?_
  refine S.pureE tOk zOk rfl (row_ok hi) (row_at [] hi) rfl ?_
  refine S.pure tOk zOk rfl rfl rfl ?_
  refine S.pure tOk zOk rfl rfl rfl ?_
  refine thenK_n ?_
  refine W.region ?_
  refine S.pure tOk zOk rfl rfl rfl ?_
  refine S.pure tOk zOk rfl rfl rfl ?_
  refine S.pure tOk zOk rfl rfl rfl ?_
  refine S.pure tOk zOk rfl rfl rfl ?_
  refine S.lookup tOk keyS (fD := fun v : List UInt8 => DV.one (.str v)) [] (u) rfl rfl rfl rfl rfl rfl rfl rfl rfl rfl (show mapV false _ _ = _ from rfl) ?_
  refine S.pure tOk zOk rfl rfl rfl ?_
  refine S.slice tOk rfl rfl ?_
  refine S.append tOk rfl rfl rfl rfl rfl rfl rfl rfl rfl rfl rfl rfl (by show _ + 1 ≤ _; rw [List.length_map, hll]; omega) rfl (listTo_succ hi) rfl ?_
  refine S.pure tOk zOk rfl rfl rfl ?_
  refine blockK_n ?_
  refine thenK_n ?_
  refine W.region ?_
  refine S.pure tOk zOk rfl rfl rfl ?_
  refine S.pure tOk zOk rfl rfl rfl ?_
  refine loop_n ((keysT u).length - (i + 1)) (by omega) ⟨i + 1, _, _, hi, rfl, _, _, _, _, rfl, rfl, rfl, rfl, rfl, inc_i64 (by omega), trivial⟩
 ·skip
  have hi := row_ge c1
  obtain rfl : i = (keysT u).length := by omega
  rw [listTo_end]
  refine W.exit ?_
  refine thenK_e ?_
  refine thenK_e ?_
  refine blockK_x ?_
  refine thenK_n ?_
  refine W.seq ?_
  refine W.freeze (ri := 0) (q := ⟨_, _, _, _, _⟩) [3] rfl (by intro k hk; simp at hk; subst hk; rfl) ?_
  refine W.region ?_
  refine S.pure tOk zOk rfl rfl rfl ?_
  refine S.pure tOk zOk rfl rfl rfl ?_
  refine thenK_n ?_
  refine W.ret ?_
  exact ⟨_, rfl, rfl, LeG.refl _, rfl, rfl, rfl⟩
theorem pc_keys127 (es : List (DV × DV)) :
  HCall Tryz.prog J 127 ([.one (.map 0)]) ([]) ([]) ([es]) (isH (.one (.clo 175 [.ptr 0 0])) ([[.map 0]]) ([]) ([es])) := by
 refine HCall.ofD tOk ⟨1, 0, 1⟩ (fn := Tryz.f127) Tryz.func127 (by kernel_rfl) rfl (Nat.le_of_ble_eq_true rfl) (fun E => ?_)
 refine W.seq ?_
 refine W.region ?_
 refine S.box rfl rfl rfl rfl ?_
 refine S.pure tOk zOk rfl rfl rfl ?_
 refine thenK_n ?_
 refine W.seq ?_
 refine W.region ?_
 refine S.makeFunc rfl rfl rfl ?_
 refine S.pure tOk zOk rfl rfl rfl ?_
 refine thenK_n ?_
 refine W.ret ?_
 exact ⟨_, rfl, rfl, LeG.refl _, rfl, rfl, rfl⟩
theorem pc_Listed (u : Tab) (hd : ndT u) (hl : ∀ x ∈ u, x.1.length ≤ 2000000) (hn : u.length ≤ 1000000) :
  HCall Tryz.prog J 78 ([.one (.map 0)]) ([]) ([]) ([tabD u]) (isH (.one (.d (.vec 2 ((listT u).map stgD)))) ([]) ([]) ([tabD u])) := by
 have hkl := keysT_len u
 refine HCall.ofD tOk ⟨0, 0, 1⟩ (fn := Tryz.f78) Tryz.func78 (by kernel_rfl) rfl (Nat.le_of_ble_eq_true rfl) (fun E => ?_)
 refine W.seq ?_
 refine W.region ?_
 refine S.pure tOk zOk rfl rfl rfl ?_
 refine thenK_n ?_
 refine W.seq ?_
 refine W.region ?_
 refine S.pure tOk zOk rfl rfl rfl ?_
 refine thenK_n ?_
 refine W.seq ?_
 refine W.seq ?_
 refine W.region ?_
 refine S.pure tOk zOk rfl rfl rfl ?_
 refine S.hcallD rfl rfl rfl rfl (pc_keys127 (tabD u)) ?_
 refine S.hcallD rfl rfl rfl rfl (pc_Sorted_127 u (by omega) (fun x hx => Nat.le_trans (hl x hx) (by decide)) (nd_keys hd)) ?_
 refine S.pure tOk zOk rfl rfl rfl ?_
 refine S.pure tOk zOk rfl rfl rfl ?_
 refine thenK_n ?_
 refine W.newRow 3 2 40 rfl ?_
 refine W.block ?_
 refine W.loop (fun k st => ∃ i : Nat, ∃ v : Nat, ∃ al : Bool, i ≤ (keysT u).length ∧ k = (keysT u).length - i ∧ ∃ t b2 r2 m2, st = ⟨t, [] ++ b2, [some ⟨al, v, 2, 40, (listTo u i).map stgD⟩] ++ r2, [tabD u] ++ m2⟩ ∧ holdsL t [(0, .one (.map 0)), (3, .one (.row 0 v 0 ((listTo u i).map stgD).length)), (8, .one (.d (.vec 1 ((keysT u).map fun x => [.str x])))), (9, .one (.d (.int .i64 (((keysT u).map fun x => ([.str x] : List D)).length : Int)))), (10, .one (.d (.int .i64 (i : Int))))]) ((keysT u).length) ⟨0, _, _, Nat.zero_le _, rfl, _, _, _, _, rfl, rfl, rfl, rfl, rfl, rfl, trivial⟩ ?_
 rintro k0 _ ⟨i, v, al, f0_0, rfl, t0, bb0, rr0, mm0, rfl, hh0⟩
 refine W.keepR _ _ _ _ _ _ _ hh0 rfl ?_
 refine W.seq ?_
 refine W.region ?_
 refine S.pure tOk zOk rfl rfl rfl ?_
 refine thenK_n ?_
 refine W.seq ?_
 refine W.cond rfl (fun c1 => ?_) (fun c1 => ?_)
 ·skip
  have hi := row_lt c1
  have hll := listTo_len u (Nat.le_of_lt hi)
  refine W.skip ?_
  refine thenK_n ?_
  refine W.seq ?_
  refine W.block ?_
  refine W.seq ?_
  refine W.region ?_
  refine S.pureE tOk zOk rfl (row_ok hi) (row_at [] hi) rfl ?_
  refine S.pure tOk zOk rfl rfl rfl ?_
  refine S.pure tOk zOk rfl rfl rfl ?_
  refine thenK_n ?_
  refine W.region ?_
  refine S.pure tOk zOk rfl rfl rfl ?_
  refine S.pure tOk zOk rfl rfl rfl ?_
  refine S.pure tOk zOk rfl rfl rfl ?_
  refine S.pure tOk zOk rfl rfl rfl ?_
  refine S.lookup tOk keyS (fD := fun v : List UInt8 => DV.one (.str v)) [] (u) rfl rfl rfl rfl rfl rfl rfl rfl rfl rfl (show mapV false _ _ = _ from rfl) ?_
  refine S.pure tOk zOk rfl rfl rfl ?_
  refine S.slice tOk rfl rfl ?_
  refine S.append tOk rfl rfl rfl rfl rfl rfl rfl rfl rfl rfl rfl rfl (by show _ + 1 ≤ _; rw [List.length_map, hll]; omega) rfl (listTo_succ hi) rfl ?_
  refine S.pure tOk zOk rfl rfl rfl ?_
  refine blockK_n ?_
  refine thenK_n ?_
  refine W.region ?_
  refine S.pure tOk zOk rfl rfl rfl ?_
  refine S.pure tOk zOk rfl rfl rfl ?_
  refine loop_n ((keysT u).length - (i + 1)) (by omega) ⟨i + 1, _, _, hi, rfl, _, _, _, _, rfl, rfl, rfl, rfl, rfl, inc_i64 (by omega), trivial⟩
 ·skip
  have hi := row_ge c1
  obtain rfl : i = (keysT u).length := by omega
  rw [listTo_end]
  refine W.exit ?_
  refine thenK_e ?_
  refine thenK_e ?_
  refine blockK_x ?_
  refine thenK_n ?_
  refine W.seq ?_
  refine W.freeze (ri := 0) (q := ⟨_, _, _, _, _⟩) [3] rfl (by intro k hk; simp at hk; subst hk; rfl) ?_
  refine W.region ?_
  refine S.pure tOk zOk rfl rfl rfl ?_
  refine S.pure tOk zOk rfl rfl rfl ?_
  refine thenK_n ?_
  refine W.ret ?_
  exact ⟨_, rfl, rfl, LeG.refl _, rfl, rfl, rfl⟩
theorem two_not {r : Rul} {u : Tab} (h : (r.kd == 2) = false) : (r.kd == 2 && badP u r.k r.tu) = false := by rw [h]; rfl
theorem two_is {r : Rul} {u : Tab} (h : (r.kd == 2) = true) : (r.kd == 2 && badP u r.k r.tu) = badP u r.k r.tu := by rw [h]; rfl
theorem one_two {r : Rul} (h : (r.kd == 1) = true) : (r.kd == 2) = false := by have := beq_iff_eq.1 h; rw [this]; rfl
theorem do_pref {r : Rul} {u : Tab} (h : (r.kd == 2) = true) : doT u r = prefT u r.k r.tu := by have := beq_iff_eq.1 h; unfold doT; rw [this]; rfl
def doX (u : Tab) (r : Rul) : Tab := if (r.kd == 2 && badP u r.k r.tu) = true then u else doT u r
theorem doX_f {u : Tab} {r : Rul} (h : (r.kd == 2 && badP u r.k r.tu) = false) : doX u r = doT u r := if_neg (Bool.eq_false_iff.1 h)
theorem do_wit {u tab : Tab} {r : Rul} (hb : (r.kd == 2 && badP u r.k r.tu) = false) (h : EqT tab (doT u r)) : EqT tab (doX u r) := by rw [doX_f hb]; exact h
theorem do_bad {u tab : Tab} {r : Rul} (hb : (r.kd == 2 && badP u r.k r.tu) = true) (h : EqT tab u) : EqT tab (doX u r) := by unfold doX; rw [if_pos hb]; exact h
theorem tabD_len (u : Tab) : ((tabD u).length : Int) = (u.length : Int) := by simp [tabD, mapOf]
theorem pc_do (u : Tab) (r : Rul) (hr : RulB r) (hd : ndT u) (hl : ∀ x ∈ u, x.1.length ≤ 2000000) (hn : u.length ≤ 1000000) :
  HCall Tryz.prog J 66 ([.one (.map 0), .agg [.d (.int .i64 r.kd), .d (.str r.k), .d (.str r.tu), .d (.str r.old), .d (.str r.nu)]]) ([]) ([]) ([tabD u]) (isX (X := Tab) (fun tab => EqT tab (doX u r)) (fun tab => .one (.d (.int .i64 (stepE u r)))) (fun tab => []) (fun tab => []) (fun tab => [tabD tab])) := by
 obtain ⟨hr1, hr2, hr3, hr4⟩ := hr
 refine HCall.ofX tOk (fun _ => ⟨0, 0, 1⟩) (fn := Tryz.f66) Tryz.func66 (by kernel_rfl) rfl (Nat.le_of_ble_eq_true rfl) (fun E => ?_)
 refine W.seq ?_
 refine W.region ?_
 refine S.box rfl rfl rfl rfl ?_
 refine S.pure tOk zOk rfl rfl rfl ?_
 refine thenK_n ?_
 refine W.seq ?_
 refine W.region ?_
 refine S.pure tOk zOk rfl rfl rfl ?_
 refine S.pure tOk zOk rfl rfl rfl ?_
 refine S.pure tOk zOk rfl rfl rfl ?_
 refine S.lookup tOk keyS (fD := fun v : List UInt8 => DV.one (.str v)) [] (u) rfl rfl rfl rfl rfl rfl rfl rfl rfl rfl (show mapV true _ _ = V.tup [_, _] from rfl) ?_
 refine S.pure tOk zOk rfl rfl rfl ?_
 refine S.pure tOk zOk rfl rfl rfl ?_
 refine S.pure tOk zOk rfl rfl rfl ?_
 refine S.pure tOk zOk rfl rfl rfl ?_
 refine S.pure tOk zOk rfl rfl rfl ?_
 refine thenK_n ?_
 refine W.seq ?_
 refine W.seq ?_
 refine W.region ?_
 refine S.pure tOk zOk rfl rfl rfl ?_
 refine S.pure tOk zOk rfl rfl rfl ?_
 refine thenK_n ?_
 refine W.block ?_
 refine W.seq ?_
 refine W.region ?_
 refine S.pure tOk zOk rfl rfl rfl ?_
 refine S.pure tOk zOk rfl rfl rfl ?_
 refine thenK_n ?_
 refine W.cond rfl (fun c1 => ?_) (fun c1 => ?_)
 ·skip
  refine W.seq ?_
  refine W.region ?_
  refine S.pure tOk zOk rfl rfl rfl ?_
  refine thenK_n ?_
  refine W.cond rfl (fun c2 => ?_) (fun c2 => ?_)
  ·skip
   refine W.seq ?_
   refine W.region ?_
   refine S.pure tOk zOk rfl rfl rfl ?_
   refine S.pure tOk zOk rfl rfl rfl ?_
   refine S.pure tOk zOk rfl rfl rfl ?_
   refine S.mapDelete tOk keyS (fD := fun v : List UInt8 => DV.one (.str v)) (u) rfl rfl rfl rfl rfl rfl rfl (show _ = [tabD (delL beqS u r.k)] from rfl) ?_
   refine thenK_n ?_
   refine W.region ?_
   refine S.pure tOk zOk rfl rfl rfl ?_
   refine S.pure tOk zOk rfl rfl rfl ?_
   refine S.pure tOk zOk rfl rfl rfl ?_
   refine S.pure tOk zOk rfl rfl rfl ?_
   refine S.mapUpdate tOk keyS (fD := fun v : List UInt8 => DV.one (.str v)) (getL beqS [] u r.k) (delL beqS u r.k) rfl rfl rfl rfl rfl rfl rfl rfl (show _ = [tabD (setL beqS (delL beqS u r.k) (r.tu) (getL beqS [] u r.k))] from rfl) ?_
   refine blockK_n ?_
   refine thenK_n ?_
   refine W.seq ?_
   refine W.seq ?_
   have hb := two_not (u := u) (one_two c1)
   have hT : EqT (setL beqS (delL beqS u r.k) (r.tu) (getL beqS [] u r.k)) (doT u r) := by unfold doT; simp only [c1, c2, Bool.false_eq_true, if_false, if_true, ↓reduceIte]; exact EqT.refl (by first | exact hd | exact nd_set (nd_del hd _) _ _ | exact nd_set hd _ _ | exact nd_del hd _)
   refine W.region ?_
   refine S.pure tOk zOk rfl rfl rfl ?_
   refine S.mapLen tOk rfl rfl rfl rfl (tabD_len _) ?_
   refine S.pure tOk zOk rfl rfl rfl ?_
   refine thenK_n ?_
   refine W.cond rfl (fun c3 => ?_) (fun c3 => ?_)
   ·skip
    refine W.seq ?_
    refine W.region ?_
    refine S.pure tOk zOk rfl rfl rfl ?_
    refine thenK_n ?_
    refine W.ret ?_
    refine thenK_r ?_
    exact ⟨_, do_wit hb hT, _, rfl, rfl, LeG.of_force rfl (by rw [step_4 hT hb c3]; rfl), rfl, rfl, rfl⟩
   ·skip
    refine W.skip ?_
    refine thenK_n ?_
    refine W.seq ?_
    refine W.region ?_
    refine S.pure tOk zOk rfl rfl rfl ?_
    refine thenK_n ?_
    refine W.ret ?_
    exact ⟨_, do_wit hb hT, _, rfl, rfl, LeG.of_force rfl (by rw [step_0 hT hb c3]; rfl), rfl, rfl, rfl⟩
  ·skip
   refine W.skip ?_
   refine blockK_n ?_
   refine thenK_n ?_
   refine W.seq ?_
   refine W.seq ?_
   have hb := two_not (u := u) (one_two c1)
   have hT : EqT (u) (doT u r) := by unfold doT; simp only [c1, c2, Bool.false_eq_true, if_false, if_true, ↓reduceIte]; exact EqT.refl (by first | exact hd | exact nd_set (nd_del hd _) _ _ | exact nd_set hd _ _ | exact nd_del hd _)
   refine W.region ?_
   refine S.pure tOk zOk rfl rfl rfl ?_
   refine S.mapLen tOk rfl rfl rfl rfl (tabD_len _) ?_
   refine S.pure tOk zOk rfl rfl rfl ?_
   refine thenK_n ?_
   refine W.cond rfl (fun c4 => ?_) (fun c4 => ?_)
   ·skip
    refine W.seq ?_
    refine W.region ?_
    refine S.pure tOk zOk rfl rfl rfl ?_
    refine thenK_n ?_
    refine W.ret ?_
    refine thenK_r ?_
    exact ⟨_, do_wit hb hT, _, rfl, rfl, LeG.of_force rfl (by rw [step_4 hT hb c4]; rfl), rfl, rfl, rfl⟩
   ·skip
    refine W.skip ?_
    refine thenK_n ?_
    refine W.seq ?_
    refine W.region ?_
    refine S.pure tOk zOk rfl rfl rfl ?_
    refine thenK_n ?_
    refine W.ret ?_
    exact ⟨_, do_wit hb hT, _, rfl, rfl, LeG.of_force rfl (by rw [step_0 hT hb c4]; rfl), rfl, rfl, rfl⟩
 ·skip
  refine W.seq ?_
  refine W.region ?_
  refine S.pure tOk zOk rfl rfl rfl ?_
  refine S.pure tOk zOk rfl rfl rfl ?_
  refine thenK_n ?_
  refine W.cond rfl (fun c5 => ?_) (fun c5 => ?_)
  ·skip
   refine W.seq ?_
   refine W.region ?_
   refine S.pure tOk zOk rfl rfl rfl ?_
   refine S.pure tOk zOk rfl rfl rfl ?_
   refine S.pure tOk zOk rfl rfl rfl ?_
   refine S.pure tOk zOk rfl rfl rfl ?_
   refine S.pure tOk zOk rfl rfl rfl ?_
   refine S.hcallX rfl rfl rfl rfl ((pc_prefix u r.k r.tu hd hl (by omega) (by omega)).frameX [] [] [0] rfl rfl rfl rfl rfl (fun _ => rfl) (fun _ => rfl) (fun _ => rfl) (fun _ => rfl)) ?_
   rintro tab1 h1
   refine S.pure tOk zOk rfl rfl rfl ?_
   refine thenK_n ?_
   refine W.cond rfl (fun c6 => ?_) (fun c6 => ?_)
   ·skip
    have hb1 : badP u r.k r.tu = true := by simpa using c6
    have hb := (two_is (u := u) c5).trans hb1
    refine W.seq ?_
    refine W.region ?_
    refine S.pure tOk zOk rfl rfl rfl ?_
    refine thenK_n ?_
    refine W.ret ?_
    refine blockK_r ?_
    refine thenK_r ?_
    exact ⟨tab1, do_bad hb (by rw [if_pos hb1] at h1; exact h1), _, rfl, rfl, LeG.of_force rfl (by rw [step_5 hb]; rfl), rfl, rfl, rfl⟩
   ·skip
    refine W.skip ?_
    refine blockK_n ?_
    refine thenK_n ?_
    refine W.seq ?_
    refine W.seq ?_
    have hb0 : badP u r.k r.tu = false := by simpa using c6
    have hb := (two_is (u := u) c5).trans hb0
    have hT : EqT tab1 (doT u r) := by rw [do_pref c5]; rw [if_neg (Bool.eq_false_iff.1 hb0)] at h1; exact h1
    refine W.region ?_
    refine S.pure tOk zOk rfl rfl rfl ?_
    refine S.mapLen tOk rfl rfl rfl rfl (tabD_len _) ?_
    refine S.pure tOk zOk rfl rfl rfl ?_
    refine thenK_n ?_
    refine W.cond rfl (fun c7 => ?_) (fun c7 => ?_)
    ·skip
     refine W.seq ?_
     refine W.region ?_
     refine S.pure tOk zOk rfl rfl rfl ?_
     refine thenK_n ?_
     refine W.ret ?_
     refine thenK_r ?_
     exact ⟨_, do_wit hb hT, _, rfl, rfl, LeG.of_force rfl (by rw [step_4 hT hb c7]; rfl), rfl, rfl, rfl⟩
    ·skip
     refine W.skip ?_
     refine thenK_n ?_
     refine W.seq ?_
     refine W.region ?_
     refine S.pure tOk zOk rfl rfl rfl ?_
     refine thenK_n ?_
     refine W.ret ?_
     exact ⟨_, do_wit hb hT, _, rfl, rfl, LeG.of_force rfl (by rw [step_0 hT hb c7]; rfl), rfl, rfl, rfl⟩
  ·skip
   refine W.seq ?_
   refine W.region ?_
   refine S.pure tOk zOk rfl rfl rfl ?_
   refine S.pure tOk zOk rfl rfl rfl ?_
   refine thenK_n ?_
   refine W.cond rfl (fun c8 => ?_) (fun c8 => ?_)
   ·skip
    refine W.seq ?_
    refine W.region ?_
    refine S.pure tOk zOk rfl rfl rfl ?_
    refine thenK_n ?_
    refine W.cond rfl (fun c9 => ?_) (fun c9 => ?_)
    ·skip
     refine W.region ?_
     refine S.pure tOk zOk rfl rfl rfl ?_
     refine S.pure tOk zOk rfl rfl rfl ?_
     refine S.pure tOk zOk rfl rfl rfl ?_
     refine S.pure tOk zOk rfl rfl rfl ?_
     refine S.mapUpdate tOk keyS (fD := fun v : List UInt8 => DV.one (.str v)) (getL beqS [] u r.k) (u) rfl rfl rfl rfl rfl rfl rfl rfl (show _ = [tabD (setL beqS (u) (r.tu) (getL beqS [] u r.k))] from rfl) ?_
     refine blockK_n ?_
     refine thenK_n ?_
     refine W.seq ?_
     refine W.seq ?_
     have hb := two_not (u := u) c5
     have hT : EqT (setL beqS (u) (r.tu) (getL beqS [] u r.k)) (doT u r) := by unfold doT; simp only [c1, c5, c8, c9, Bool.false_eq_true, if_false, if_true, ↓reduceIte]; exact EqT.refl (by first | exact hd | exact nd_set (nd_del hd _) _ _ | exact nd_set hd _ _ | exact nd_del hd _)
     refine W.region ?_
     refine S.pure tOk zOk rfl rfl rfl ?_
     refine S.mapLen tOk rfl rfl rfl rfl (tabD_len _) ?_
     refine S.pure tOk zOk rfl rfl rfl ?_
     refine thenK_n ?_
     refine W.cond rfl (fun c10 => ?_) (fun c10 => ?_)
     ·skip
      refine W.seq ?_
      refine W.region ?_
      refine S.pure tOk zOk rfl rfl rfl ?_
      refine thenK_n ?_
      refine W.ret ?_
      refine thenK_r ?_
      exact ⟨_, do_wit hb hT, _, rfl, rfl, LeG.of_force rfl (by rw [step_4 hT hb c10]; rfl), rfl, rfl, rfl⟩
     ·skip
      refine W.skip ?_
      refine thenK_n ?_
      refine W.seq ?_
      refine W.region ?_
      refine S.pure tOk zOk rfl rfl rfl ?_
      refine thenK_n ?_
      refine W.ret ?_
      exact ⟨_, do_wit hb hT, _, rfl, rfl, LeG.of_force rfl (by rw [step_0 hT hb c10]; rfl), rfl, rfl, rfl⟩
    ·skip
     refine W.skip ?_
     refine blockK_n ?_
     refine thenK_n ?_
     refine W.seq ?_
     refine W.seq ?_
     have hb := two_not (u := u) c5
     have hT : EqT (u) (doT u r) := by unfold doT; simp only [c1, c5, c8, c9, Bool.false_eq_true, if_false, if_true, ↓reduceIte]; exact EqT.refl (by first | exact hd | exact nd_set (nd_del hd _) _ _ | exact nd_set hd _ _ | exact nd_del hd _)
     refine W.region ?_
     refine S.pure tOk zOk rfl rfl rfl ?_
     refine S.mapLen tOk rfl rfl rfl rfl (tabD_len _) ?_
     refine S.pure tOk zOk rfl rfl rfl ?_
     refine thenK_n ?_
     refine W.cond rfl (fun c11 => ?_) (fun c11 => ?_)
     ·skip
      refine W.seq ?_
      refine W.region ?_
      refine S.pure tOk zOk rfl rfl rfl ?_
      refine thenK_n ?_
      refine W.ret ?_
      refine thenK_r ?_
      exact ⟨_, do_wit hb hT, _, rfl, rfl, LeG.of_force rfl (by rw [step_4 hT hb c11]; rfl), rfl, rfl, rfl⟩
     ·skip
      refine W.skip ?_
      refine thenK_n ?_
      refine W.seq ?_
      refine W.region ?_
      refine S.pure tOk zOk rfl rfl rfl ?_
      refine thenK_n ?_
      refine W.ret ?_
      exact ⟨_, do_wit hb hT, _, rfl, rfl, LeG.of_force rfl (by rw [step_0 hT hb c11]; rfl), rfl, rfl, rfl⟩
   ·skip
    refine W.seq ?_
    refine W.region ?_
    refine S.pure tOk zOk rfl rfl rfl ?_
    refine S.pure tOk zOk rfl rfl rfl ?_
    refine thenK_n ?_
    refine W.cond rfl (fun c12 => ?_) (fun c12 => ?_)
    ·skip
     refine W.region ?_
     refine S.pure tOk zOk rfl rfl rfl ?_
     refine S.pure tOk zOk rfl rfl rfl ?_
     refine S.pure tOk zOk rfl rfl rfl ?_
     refine S.pure tOk zOk rfl rfl rfl ?_
     refine S.pure tOk zOk rfl rfl rfl ?_
     refine S.mapUpdate tOk keyS (fD := fun v : List UInt8 => DV.one (.str v)) (r.nu) (u) rfl rfl rfl rfl rfl rfl rfl rfl (show _ = [tabD (setL beqS (u) (r.k) (r.nu))] from rfl) ?_
     refine blockK_n ?_
     refine thenK_n ?_
     refine W.seq ?_
     refine W.seq ?_
     have hb := two_not (u := u) c5
     have hT : EqT (setL beqS (u) (r.k) (r.nu)) (doT u r) := by unfold doT; simp only [c1, c5, c8, c12, Bool.false_eq_true, if_false, if_true, ↓reduceIte]; exact EqT.refl (by first | exact hd | exact nd_set (nd_del hd _) _ _ | exact nd_set hd _ _ | exact nd_del hd _)
     refine W.region ?_
     refine S.pure tOk zOk rfl rfl rfl ?_
     refine S.mapLen tOk rfl rfl rfl rfl (tabD_len _) ?_
     refine S.pure tOk zOk rfl rfl rfl ?_
     refine thenK_n ?_
     refine W.cond rfl (fun c13 => ?_) (fun c13 => ?_)
     ·skip
      refine W.seq ?_
      refine W.region ?_
      refine S.pure tOk zOk rfl rfl rfl ?_
      refine thenK_n ?_
      refine W.ret ?_
      refine thenK_r ?_
      exact ⟨_, do_wit hb hT, _, rfl, rfl, LeG.of_force rfl (by rw [step_4 hT hb c13]; rfl), rfl, rfl, rfl⟩
     ·skip
      refine W.skip ?_
      refine thenK_n ?_
      refine W.seq ?_
      refine W.region ?_
      refine S.pure tOk zOk rfl rfl rfl ?_
      refine thenK_n ?_
      refine W.ret ?_
      exact ⟨_, do_wit hb hT, _, rfl, rfl, LeG.of_force rfl (by rw [step_0 hT hb c13]; rfl), rfl, rfl, rfl⟩
    ·skip
     refine W.seq ?_
     refine W.region ?_
     refine S.pure tOk zOk rfl rfl rfl ?_
     refine S.pure tOk zOk rfl rfl rfl ?_
     refine thenK_n ?_
     refine W.cond rfl (fun c14 => ?_) (fun c14 => ?_)
     ·skip
      refine W.seq ?_
      refine W.region ?_
      refine S.pure tOk zOk rfl rfl rfl ?_
      refine S.pure tOk zOk rfl rfl rfl ?_
      refine thenK_n ?_
      refine W.cond rfl (fun c15 => ?_) (fun c15 => ?_)
      ·skip
       refine W.region ?_
       refine S.pure tOk zOk rfl rfl rfl ?_
       refine S.pure tOk zOk rfl rfl rfl ?_
       refine S.pure tOk zOk rfl rfl rfl ?_
       refine S.pure tOk zOk rfl rfl rfl ?_
       refine S.pure tOk zOk rfl rfl rfl ?_
       refine S.mapUpdate tOk keyS (fD := fun v : List UInt8 => DV.one (.str v)) (r.nu) (u) rfl rfl rfl rfl rfl rfl rfl rfl (show _ = [tabD (setL beqS (u) (r.k) (r.nu))] from rfl) ?_
       refine blockK_n ?_
       refine thenK_n ?_
       refine W.seq ?_
       refine W.seq ?_
       have hz : hasL beqS u r.k = false := by simpa using c15
       have hb := two_not (u := u) c5
       have hT : EqT (setL beqS (u) (r.k) (r.nu)) (doT u r) := by unfold doT; simp only [c1, c5, c8, c12, c14, hz, Bool.false_eq_true, if_false, if_true, ↓reduceIte]; exact EqT.refl (by first | exact hd | exact nd_set (nd_del hd _) _ _ | exact nd_set hd _ _ | exact nd_del hd _)
       refine W.region ?_
       refine S.pure tOk zOk rfl rfl rfl ?_
       refine S.mapLen tOk rfl rfl rfl rfl (tabD_len _) ?_
       refine S.pure tOk zOk rfl rfl rfl ?_
       refine thenK_n ?_
       refine W.cond rfl (fun c16 => ?_) (fun c16 => ?_)
       ·skip
        refine W.seq ?_
        refine W.region ?_
        refine S.pure tOk zOk rfl rfl rfl ?_
        refine thenK_n ?_
        refine W.ret ?_
        refine thenK_r ?_
        exact ⟨_, do_wit hb hT, _, rfl, rfl, LeG.of_force rfl (by rw [step_4 hT hb c16]; rfl), rfl, rfl, rfl⟩
       ·skip
        refine W.skip ?_
        refine thenK_n ?_
        refine W.seq ?_
        refine W.region ?_
        refine S.pure tOk zOk rfl rfl rfl ?_
        refine thenK_n ?_
        refine W.ret ?_
        exact ⟨_, do_wit hb hT, _, rfl, rfl, LeG.of_force rfl (by rw [step_0 hT hb c16]; rfl), rfl, rfl, rfl⟩
      ·skip
       refine W.skip ?_
       refine blockK_n ?_
       refine thenK_n ?_
       refine W.seq ?_
       refine W.seq ?_
       have hz : hasL beqS u r.k = true := by simpa using c15
       have hb := two_not (u := u) c5
       have hT : EqT (u) (doT u r) := by unfold doT; simp only [c1, c5, c8, c12, c14, hz, Bool.false_eq_true, if_false, if_true, ↓reduceIte]; exact EqT.refl (by first | exact hd | exact nd_set (nd_del hd _) _ _ | exact nd_set hd _ _ | exact nd_del hd _)
       refine W.region ?_
       refine S.pure tOk zOk rfl rfl rfl ?_
       refine S.mapLen tOk rfl rfl rfl rfl (tabD_len _) ?_
       refine S.pure tOk zOk rfl rfl rfl ?_
       refine thenK_n ?_
       refine W.cond rfl (fun c17 => ?_) (fun c17 => ?_)
       ·skip
        refine W.seq ?_
        refine W.region ?_
        refine S.pure tOk zOk rfl rfl rfl ?_
        refine thenK_n ?_
        refine W.ret ?_
        refine thenK_r ?_
        exact ⟨_, do_wit hb hT, _, rfl, rfl, LeG.of_force rfl (by rw [step_4 hT hb c17]; rfl), rfl, rfl, rfl⟩
       ·skip
        refine W.skip ?_
        refine thenK_n ?_
        refine W.seq ?_
        refine W.region ?_
        refine S.pure tOk zOk rfl rfl rfl ?_
        refine thenK_n ?_
        refine W.ret ?_
        exact ⟨_, do_wit hb hT, _, rfl, rfl, LeG.of_force rfl (by rw [step_0 hT hb c17]; rfl), rfl, rfl, rfl⟩
     ·skip
      refine W.seq ?_
      refine W.region ?_
      refine S.pure tOk zOk rfl rfl rfl ?_
      refine S.pure tOk zOk rfl rfl rfl ?_
      refine thenK_n ?_
      refine W.cond rfl (fun c18 => ?_) (fun c18 => ?_)
      ·skip
       refine W.region ?_
       refine S.pure tOk zOk rfl rfl rfl ?_
       refine S.pure tOk zOk rfl rfl rfl ?_
       refine S.pure tOk zOk rfl rfl rfl ?_
       refine S.mapDelete tOk keyS (fD := fun v : List UInt8 => DV.one (.str v)) (u) rfl rfl rfl rfl rfl rfl rfl (show _ = [tabD (delL beqS u r.k)] from rfl) ?_
       refine blockK_n ?_
       refine thenK_n ?_
       refine W.seq ?_
       refine W.seq ?_
       have hb := two_not (u := u) c5
       have hT : EqT (delL beqS u r.k) (doT u r) := by unfold doT; simp only [c1, c5, c8, c12, c14, c18, Bool.false_eq_true, if_false, if_true, ↓reduceIte]; exact EqT.refl (by first | exact hd | exact nd_set (nd_del hd _) _ _ | exact nd_set hd _ _ | exact nd_del hd _)
       refine W.region ?_
       refine S.pure tOk zOk rfl rfl rfl ?_
       refine S.mapLen tOk rfl rfl rfl rfl (tabD_len _) ?_
       refine S.pure tOk zOk rfl rfl rfl ?_
       refine thenK_n ?_
       refine W.cond rfl (fun c19 => ?_) (fun c19 => ?_)
       ·skip
        refine W.seq ?_
        refine W.region ?_
        refine S.pure tOk zOk rfl rfl rfl ?_
        refine thenK_n ?_
        refine W.ret ?_
        refine thenK_r ?_
        exact ⟨_, do_wit hb hT, _, rfl, rfl, LeG.of_force rfl (by rw [step_4 hT hb c19]; rfl), rfl, rfl, rfl⟩
       ·skip
        refine W.skip ?_
        refine thenK_n ?_
        refine W.seq ?_
        refine W.region ?_
        refine S.pure tOk zOk rfl rfl rfl ?_
        refine thenK_n ?_
        refine W.ret ?_
        exact ⟨_, do_wit hb hT, _, rfl, rfl, LeG.of_force rfl (by rw [step_0 hT hb c19]; rfl), rfl, rfl, rfl⟩
      ·skip
       refine W.block ?_
       refine W.seq ?_
       refine W.region ?_
       refine S.pure tOk zOk rfl rfl rfl ?_
       refine S.pure tOk zOk rfl rfl rfl ?_
       refine S.pureG tOk zOk rfl rfl tg (fun _ => rfl) rfl ?_
       refine S.pureG tOk zOk rfl rfl tg (fun _ => rfl) rfl ?_
       refine S.pureG tOk zOk rfl rfl tg (fun _ => rfl) rfl ?_
       refine S.pureG tOk zOk rfl rfl tg (fun _ => rfl) rfl ?_
       refine S.pickAnd tOk zOk rfl rfl tg ?_
       refine S.pure tOk zOk rfl rfl rfl ?_
       refine thenK_n ?_
       refine W.cond rfl (fun c20 => ?_) (fun c20 => ?_)
       ·skip
        refine W.region ?_
        refine S.pure tOk zOk rfl rfl rfl ?_
        refine S.pure tOk zOk rfl rfl rfl ?_
        refine S.pure tOk zOk rfl rfl rfl ?_
        refine S.pure tOk zOk rfl rfl rfl ?_
        refine S.pure tOk zOk rfl rfl rfl ?_
        refine S.mapUpdate tOk keyS (fD := fun v : List UInt8 => DV.one (.str v)) (r.nu) (u) rfl rfl rfl rfl rfl rfl rfl rfl (show _ = [tabD (setL beqS (u) (r.k) (r.nu))] from rfl) ?_
        refine blockK_n ?_
        refine blockK_n ?_
        refine thenK_n ?_
        refine W.seq ?_
        refine W.seq ?_
        have hb := two_not (u := u) c5
        have hT : EqT (setL beqS (u) (r.k) (r.nu)) (doT u r) := by unfold doT; simp only [c1, c5, c8, c12, c14, c18, c20, Bool.false_eq_true, if_false, if_true, ↓reduceIte]; exact EqT.refl (by first | exact hd | exact nd_set (nd_del hd _) _ _ | exact nd_set hd _ _ | exact nd_del hd _)
        refine W.region ?_
        refine S.pure tOk zOk rfl rfl rfl ?_
        refine S.mapLen tOk rfl rfl rfl rfl (tabD_len _) ?_
        refine S.pure tOk zOk rfl rfl rfl ?_
        refine thenK_n ?_
        refine W.cond rfl (fun c21 => ?_) (fun c21 => ?_)
        ·skip
         refine W.seq ?_
         refine W.region ?_
         refine S.pure tOk zOk rfl rfl rfl ?_
         refine thenK_n ?_
         refine W.ret ?_
         refine thenK_r ?_
         exact ⟨_, do_wit hb hT, _, rfl, rfl, LeG.of_force rfl (by rw [step_4 hT hb c21]; rfl), rfl, rfl, rfl⟩
        ·skip
         refine W.skip ?_
         refine thenK_n ?_
         refine W.seq ?_
         refine W.region ?_
         refine S.pure tOk zOk rfl rfl rfl ?_
         refine thenK_n ?_
         refine W.ret ?_
         exact ⟨_, do_wit hb hT, _, rfl, rfl, LeG.of_force rfl (by rw [step_0 hT hb c21]; rfl), rfl, rfl, rfl⟩
       ·skip
        refine W.seq ?_
        refine W.region ?_
        refine S.pure tOk zOk rfl rfl rfl ?_
        refine S.pure tOk zOk rfl rfl rfl ?_
        refine S.pureG tOk zOk rfl rfl tg (fun _ => rfl) rfl ?_
        refine S.pureG tOk zOk rfl rfl tg (fun _ => rfl) rfl ?_
        refine S.pureG tOk zOk rfl rfl tg (fun _ => rfl) rfl ?_
        refine S.pureG tOk zOk rfl rfl tg (fun _ => rfl) rfl ?_
        refine S.pickAnd tOk zOk rfl rfl tg ?_
        refine S.pure tOk zOk rfl rfl rfl ?_
        refine S.pureG tOk zOk rfl rfl tg (fun _ => rfl) rfl ?_
        refine S.pureG tOk zOk rfl rfl tg (fun _ => rfl) rfl ?_
        refine S.pureG tOk zOk rfl rfl tg (fun _ => rfl) rfl ?_
        refine S.pickAnd tOk zOk rfl rfl tg ?_
        refine S.pure tOk zOk rfl rfl rfl ?_
        refine thenK_n ?_
        refine W.cond rfl (fun c22 => ?_) (fun c22 => ?_)
        ·skip
         refine W.region ?_
         refine S.pure tOk zOk rfl rfl rfl ?_
         refine S.pure tOk zOk rfl rfl rfl ?_
         refine S.pure tOk zOk rfl rfl rfl ?_
         refine S.pure tOk zOk rfl rfl rfl ?_
         refine S.pure tOk zOk rfl rfl rfl ?_
         refine S.mapUpdate tOk keyS (fD := fun v : List UInt8 => DV.one (.str v)) (r.old) (u) rfl rfl rfl rfl rfl rfl rfl rfl (show _ = [tabD (setL beqS (u) (r.k) (r.old))] from rfl) ?_
         refine blockK_n ?_
         refine blockK_n ?_
         refine thenK_n ?_
         refine W.seq ?_
         refine W.seq ?_
         have hb := two_not (u := u) c5
         have hT : EqT (setL beqS (u) (r.k) (r.old)) (doT u r) := by unfold doT; simp only [c1, c5, c8, c12, c14, c18, c20, c22, Bool.false_eq_true, if_false, if_true, ↓reduceIte]; exact EqT.refl (by first | exact hd | exact nd_set (nd_del hd _) _ _ | exact nd_set hd _ _ | exact nd_del hd _)
         refine W.region ?_
         refine S.pure tOk zOk rfl rfl rfl ?_
         refine S.mapLen tOk rfl rfl rfl rfl (tabD_len _) ?_
         refine S.pure tOk zOk rfl rfl rfl ?_
         refine thenK_n ?_
         refine W.cond rfl (fun c23 => ?_) (fun c23 => ?_)
         ·skip
          refine W.seq ?_
          refine W.region ?_
          refine S.pure tOk zOk rfl rfl rfl ?_
          refine thenK_n ?_
          refine W.ret ?_
          refine thenK_r ?_
          exact ⟨_, do_wit hb hT, _, rfl, rfl, LeG.of_force rfl (by rw [step_4 hT hb c23]; rfl), rfl, rfl, rfl⟩
         ·skip
          refine W.skip ?_
          refine thenK_n ?_
          refine W.seq ?_
          refine W.region ?_
          refine S.pure tOk zOk rfl rfl rfl ?_
          refine thenK_n ?_
          refine W.ret ?_
          exact ⟨_, do_wit hb hT, _, rfl, rfl, LeG.of_force rfl (by rw [step_0 hT hb c23]; rfl), rfl, rfl, rfl⟩
        ·skip
         refine W.skip ?_
         refine blockK_n ?_
         refine blockK_n ?_
         refine thenK_n ?_
         refine W.seq ?_
         refine W.seq ?_
         have hb := two_not (u := u) c5
         have hT : EqT (u) (doT u r) := by unfold doT; simp only [c1, c5, c8, c12, c14, c18, c20, c22, Bool.false_eq_true, if_false, if_true, ↓reduceIte]; exact EqT.refl (by first | exact hd | exact nd_set (nd_del hd _) _ _ | exact nd_set hd _ _ | exact nd_del hd _)
         refine W.region ?_
         refine S.pure tOk zOk rfl rfl rfl ?_
         refine S.mapLen tOk rfl rfl rfl rfl (tabD_len _) ?_
         refine S.pure tOk zOk rfl rfl rfl ?_
         refine thenK_n ?_
         refine W.cond rfl (fun c24 => ?_) (fun c24 => ?_)
         ·skip
          refine W.seq ?_
          refine W.region ?_
          refine S.pure tOk zOk rfl rfl rfl ?_
          refine thenK_n ?_
          refine W.ret ?_
          refine thenK_r ?_
          exact ⟨_, do_wit hb hT, _, rfl, rfl, LeG.of_force rfl (by rw [step_4 hT hb c24]; rfl), rfl, rfl, rfl⟩
         ·skip
          refine W.skip ?_
          refine thenK_n ?_
          refine W.seq ?_
          refine W.region ?_
          refine S.pure tOk zOk rfl rfl rfl ?_
          refine thenK_n ?_
          refine W.ret ?_
          exact ⟨_, do_wit hb hT, _, rfl, rfl, LeG.of_force rfl (by rw [step_0 hT hb c24]; rfl), rfl, rfl, rfl⟩
end Go.Proofs.YtcchfmilleffjaaGreatDoor

set_option linter.unusedVariables false
set_option linter.unusedSimpArgs false
set_option maxRecDepth 100000
set_option maxHeartbeats 4000000
namespace Go.Proofs.YtcchfmilleffjaaGreatDoor
open Go
open Go.RowKit
attribute [local irreducible] rangeB pathB nameB valueB firstNe tailOf listT ndT badP sortS prefT stepE
theorem trimP_le (a b : L8) : (Lib.trimPrefix a b).length ≤ a.length := by unfold Lib.trimPrefix; split <;> simp
theorem below_len (a b : L8) : (belowR a b).1.length ≤ a.length + 1 := by
  unfold belowR cutPre
  have := trimP_le a (b ++ [47])
  split
  · simp
  · simp; omega
theorem below_1 {a b : L8} (h : (a == b) = true) : belowR a b = ([], true) := if_pos h
theorem below_2 {a b : L8} (h : (a == b) = false) : belowR a b = ([47] ++ Lib.trimPrefix a (b ++ [47]), Lib.hasPrefix a (b ++ [47])) := if_neg (Bool.eq_false_iff.1 h)
theorem pc_below (a b : List UInt8) (ha : a.length ≤ 2000000) (hb : b.length ≤ 2000000) :
  PureCall Tryz.prog J 80 [.one (.d (.str a)), .one (.d (.str b))] (.tup [.one (.d (.str (belowR a b).1)), .one (.d (.bool (belowR a b).2))]) := by
 refine PureCall.of_body tOk (fn := Tryz.f80) Tryz.func80 (by kernel_rfl) rfl (Nat.le_of_ble_eq_true rfl) (fun E => ?_)
 refine W.seq ?_
 refine W.region ?_
 refine S.pure tOk zOk rfl rfl rfl ?_
 refine S.pure tOk zOk rfl rfl rfl ?_
 refine thenK_n ?_
 refine W.seq ?_
 refine W.seq ?_
 refine W.region ?_
 refine S.pure tOk zOk rfl rfl rfl ?_
 refine S.pure tOk zOk rfl rfl rfl ?_
 refine S.pure tOk zOk rfl rfl rfl ?_
 refine thenK_n ?_
 refine W.cond rfl (fun c1 => ?_) (fun c1 => ?_)
 ·skip
  refine W.seq ?_
  refine W.region ?_
  refine S.pure tOk zOk rfl rfl rfl ?_
  refine S.pure tOk zOk rfl rfl rfl ?_
  refine thenK_n ?_
  refine W.ret ?_
  refine thenK_r ?_
  exact ⟨_, rfl, rfl, LeV.of_force rfl (by rw [below_1 c1]; rfl)⟩
 ·skip
  refine W.skip ?_
  refine thenK_n ?_
  refine W.seq ?_
  refine W.region ?_
  refine S.pure tOk zOk rfl rfl rfl ?_
  refine S.pure tOk zOk rfl rfl rfl ?_
  refine S.pure tOk zOk rfl (cat_ok (by simp; omega)) rfl ?_
  refine S.call rfl rfl rfl rfl rfl (pc_CutPrefix a (b ++ [47])) ?_
  refine S.pure tOk zOk rfl rfl rfl ?_
  refine S.pure tOk zOk rfl rfl rfl ?_
  refine S.pure tOk zOk rfl rfl rfl ?_
  refine S.pure tOk zOk rfl rfl rfl ?_
  refine S.pure tOk zOk rfl rfl rfl ?_
  refine thenK_n ?_
  refine W.seq ?_
  refine W.region ?_
  refine S.pure tOk zOk rfl rfl rfl ?_
  refine S.pure tOk zOk rfl (cat_ok (by have := trimP_le a (b ++ [47]); simp; omega)) rfl ?_
  refine S.pure tOk zOk rfl rfl rfl ?_
  refine S.pure tOk zOk rfl rfl rfl ?_
  refine S.pure tOk zOk rfl rfl rfl ?_
  refine thenK_n ?_
  refine W.ret ?_
  exact ⟨_, rfl, rfl, LeV.of_force rfl (by rw [below_2 c1])⟩
theorem pc_one (u : Tab) (r : Rul) (hr : RulB r) (ho : RulOk r) (hd : ndT u) (hl : ∀ x ∈ u, x.1.length ≤ 2000000) (hn : u.length ≤ 1000000) :
  HCall Tryz.prog J 77 ([.one (.map 0), .agg [.d (.int .i64 r.kd), .d (.str r.k), .d (.str r.tu), .d (.str r.old), .d (.str r.nu)]]) ([]) ([]) ([tabD u]) (isX (X := Tab) (fun tab => EqT tab (doT u r)) (fun tab => .tup []) (fun tab => []) (fun tab => []) (fun tab => [tabD tab])) := by
 obtain ⟨hr1, hr2, hr3, hr4⟩ := hr
 obtain ⟨ho1, ho2, _⟩ := ho
 refine HCall.ofX tOk (fun _ => ⟨0, 0, 1⟩) (fn := Tryz.f77) Tryz.func77 (by kernel_rfl) rfl (Nat.le_of_ble_eq_true rfl) (fun E => ?_)
 refine W.seq ?_
 refine W.region ?_
 refine S.box rfl rfl rfl rfl ?_
 refine thenK_n ?_
 refine W.seq ?_
 refine W.region ?_
 refine S.pure tOk zOk rfl rfl rfl ?_
 refine S.pure tOk zOk rfl rfl rfl ?_
 refine S.pure tOk zOk rfl rfl rfl ?_
 refine S.lookup tOk keyS (fD := fun v : List UInt8 => DV.one (.str v)) [] (u) rfl rfl rfl rfl rfl rfl rfl rfl rfl rfl (show mapV true _ _ = V.tup [_, _] from rfl) ?_
 refine S.pure tOk zOk rfl rfl rfl ?_
 refine S.pure tOk zOk rfl rfl rfl ?_
 refine S.pure tOk zOk rfl rfl rfl ?_
 refine S.pure tOk zOk rfl rfl rfl ?_
 refine S.pure tOk zOk rfl rfl rfl ?_
 refine thenK_n ?_
 refine W.seq ?_
 refine W.region ?_
 refine S.pure tOk zOk rfl rfl rfl ?_
 refine S.pure tOk zOk rfl rfl rfl ?_
 refine thenK_n ?_
 refine W.block ?_
 refine W.seq ?_
 refine W.region ?_
 refine S.pure tOk zOk rfl rfl rfl ?_
 refine S.pure tOk zOk rfl rfl rfl ?_
 refine thenK_n ?_
 refine W.cond rfl (fun c1 => ?_) (fun c1 => ?_)
 ·skip
  refine W.seq ?_
  refine W.region ?_
  refine S.pure tOk zOk rfl rfl rfl ?_
  refine thenK_n ?_
  refine W.cond rfl (fun c2 => ?_) (fun c2 => ?_)
  ·skip
   refine W.seq ?_
   refine W.region ?_
   refine S.pure tOk zOk rfl rfl rfl ?_
   refine S.pure tOk zOk rfl rfl rfl ?_
   refine S.pure tOk zOk rfl rfl rfl ?_
   refine S.mapDelete tOk keyS (fD := fun v : List UInt8 => DV.one (.str v)) (u) rfl rfl rfl rfl rfl rfl rfl (show _ = [tabD (delL beqS u r.k)] from rfl) ?_
   refine thenK_n ?_
   refine W.region ?_
   refine S.pure tOk zOk rfl rfl rfl ?_
   refine S.pure tOk zOk rfl rfl rfl ?_
   refine S.pure tOk zOk rfl rfl rfl ?_
   refine S.pure tOk zOk rfl rfl rfl ?_
   refine S.mapUpdate tOk keyS (fD := fun v : List UInt8 => DV.one (.str v)) (getL beqS [] u r.k) (delL beqS u r.k) rfl rfl rfl rfl rfl rfl rfl rfl (show _ = [tabD (setL beqS (delL beqS u r.k) (r.tu) (getL beqS [] u r.k))] from rfl) ?_
   refine blockK_n ?_
   exact ⟨_, by unfold doT; simp only [c1, c2, Bool.false_eq_true, if_false, if_true, ↓reduceIte]; exact EqT.refl (by first | exact hd | exact nd_set (nd_del hd _) _ _ | exact nd_set hd _ _ | exact nd_del hd _), _, rfl, rfl, LeG.refl _, rfl, rfl, rfl⟩
  ·skip
   refine W.skip ?_
   refine blockK_n ?_
   exact ⟨_, by unfold doT; simp only [c1, c2, Bool.false_eq_true, if_false, if_true, ↓reduceIte]; exact EqT.refl (by first | exact hd | exact nd_set (nd_del hd _) _ _ | exact nd_set hd _ _ | exact nd_del hd _), _, rfl, rfl, LeG.refl _, rfl, rfl, rfl⟩
 ·skip
  refine W.seq ?_
  refine W.region ?_
  refine S.pure tOk zOk rfl rfl rfl ?_
  refine S.pure tOk zOk rfl rfl rfl ?_
  refine thenK_n ?_
  refine W.cond rfl (fun c3 => ?_) (fun c3 => ?_)
  ·skip
   refine W.seq ?_
   refine W.region ?_
   refine S.makeMap rfl ?_
   refine S.pure tOk zOk rfl rfl rfl ?_
   refine thenK_n ?_
   refine W.seq ?_
   refine W.forMapDel (enc := D.str) (fD := fun v : List UInt8 => DV.one (.str v)) (l0 := u) (mi := 0) tOk (fun q M dn kp st => ∃ mv : Tab, ndT mv ∧ lk mv = movF (lk dn) r.k r.tu ∧ kp = dn.filter (fun x => (tailOf x.1 r.k).isNone) ∧ st = ⟨ofL [(34, .one (.d (.raw q))), (0, .one (.map 0)), (3, .one (.ptr 0 0)), (6, .one (.map 1))], [[.d (.int .i64 r.kd), .d (.str r.k), .d (.str r.tu), .d (.str r.old), .d (.str r.nu)]], [], [M, tabD mv]⟩) 1 rfl rfl rfl (by rintro q M dn kp _ ⟨mv, f1_0, f1_1, f1_2, rfl⟩; exact ⟨rfl, rfl⟩) ⟨rfl, rfl, rfl, rfl⟩ ?_ ?_ ?_
   ·skip
    refine S.pure tOk zOk rfl rfl rfl ?_
    refine WL.nil ?_
    exact ⟨rfl, rfl, fun q M => ⟨_, ⟨[], nd_nil, mov_nil _ _, rfl, rfl⟩, Wk.keep rfl ⟨rfl, rfl, rfl, rfl, trivial⟩ rfl⟩⟩
   ·skip
    rintro q M dn kp _ j1 c1001 born1 y rest E1 ⟨mv, f1_0, f1_1, f1_2, rfl⟩ hE1 hst1 hp
    refine W.keep [(34, .one (.d (.raw q))), (0, .one (.map 0)), (3, .one (.ptr 0 0)), (6, .one (.map 1))] ⟨rfl, rfl, rfl, rfl, trivial⟩ ?_
    have hy := mem_len hl hp
    refine W.block ?_
    refine W.seq ?_
    refine W.region ?_
    refine S.entry hE1 rfl rfl hst1.at ?_
    refine S.pure tOk zOk rfl rfl rfl ?_
    refine S.pure tOk zOk rfl rfl rfl ?_
    refine S.pure tOk zOk rfl rfl rfl ?_
    refine S.pure tOk zOk rfl rfl rfl ?_
    refine thenK_n ?_
    refine W.seq ?_
    refine W.region ?_
    refine S.pure tOk zOk rfl rfl rfl ?_
    refine S.pure tOk zOk rfl rfl rfl ?_
    refine S.pure tOk zOk rfl rfl rfl ?_
    refine S.call rfl rfl rfl rfl rfl (pc_below y.1 r.k hy hr1) ?_
    refine S.pure tOk zOk rfl rfl rfl ?_
    refine S.pure tOk zOk rfl rfl rfl ?_
    refine S.pure tOk zOk rfl rfl rfl ?_
    refine S.pure tOk zOk rfl rfl rfl ?_
    refine S.pure tOk zOk rfl rfl rfl ?_
    refine thenK_n ?_
    refine W.seq ?_
    refine W.region ?_
    refine S.pure tOk zOk rfl rfl rfl ?_
    refine thenK_n ?_
    refine W.cond rfl (fun c4 => ?_) (fun c4 => ?_)
    ·skip
     have hs := belowR_t c4
     refine W.seq ?_
     refine W.region ?_
     refine S.pure tOk zOk rfl rfl rfl ?_
     refine S.pure tOk zOk rfl rfl rfl ?_
     refine S.pure tOk zOk rfl rfl rfl ?_
     refine S.pure tOk zOk rfl rfl rfl ?_
     refine S.pure tOk zOk rfl (cat_ok (by have := below_len y.1 r.k; simp; omega)) rfl ?_
     refine S.pure tOk zOk rfl rfl rfl ?_
     refine S.mapUpdate tOk keyS (fD := fun v : List UInt8 => DV.one (.str v)) (y.2) (mv) rfl rfl rfl rfl rfl rfl rfl rfl (show _ = [M, tabD (setL beqS mv (r.tu ++ (belowR y.1 r.k).1) y.2)] from rfl) ?_
     refine thenK_n ?_
     refine W.region ?_
     refine S.pure tOk zOk rfl rfl rfl ?_
     refine S.pure tOk zOk rfl rfl rfl ?_
     refine S.mapDeleteSt tOk keyS beqS_iff hst1 (nd_keys hd) rfl rfl rfl rfl rfl rfl rfl (show _ = [M.eraseIdx j1, tabD (setL beqS mv (r.tu ++ (belowR y.1 r.k).1) y.2)] from rfl) ?_
     refine blockK_n ?_
     exact thenK_n ⟨_, .inr ⟨setL beqS mv (r.tu ++ (belowR y.1 r.k).1) y.2, nd_set f1_0 _ _, mov_t (nd_part hd hp) f1_1 hs, f1_2.trans (kept_t hs).symm, rfl⟩, Wk.keep rfl ⟨rfl, rfl, rfl, rfl, trivial⟩ rfl⟩
    ·skip
     have hs := belowR_f c4
     refine W.skip ?_
     refine blockK_n ?_
     exact thenK_n ⟨_, .inl ⟨mv, f1_0, mov_f (nd_part hd hp) f1_1 hs, by rw [f1_2, kept_f hs], rfl⟩, Wk.keep rfl ⟨rfl, rfl, rfl, rfl, trivial⟩ rfl⟩
   ·skip
    rintro q M dn kp tab _ ⟨mv, f1_0, f1_1, f1_2, rfl⟩ hp hkp hsub
    have hoe := off_end (tab := tab) (key := r.k) hd hp (by rw [← f1_2]; exact hkp)
    have hm : lk mv = movF (lk u) r.k r.tu := by rw [f1_1, lk_perm hd (nd_perm hd hp) hp]
    refine ⟨_, Wk.keep (l := [(34, .one (.d (.raw q))), (0, .one (.map 0)), (3, .one (.ptr 0 0)), (6, .one (.map 1))]) (b1 := [[.d (.int .i64 r.kd), .d (.str r.k), .d (.str r.tu), .d (.str r.old), .d (.str r.nu)]]) (b2 := []) (r1 := []) (r2 := []) (m1 := [mapOf D.str (fun v : List UInt8 => DV.one (.str v)) tab, tabD mv]) (m2 := []) rfl ⟨rfl, rfl, rfl, rfl, trivial⟩ rfl, ?_⟩
    refine thenK_n ?_
    refine W.region ?_
    refine S.pure tOk zOk rfl rfl rfl ?_
    refine S.pure tOk zOk rfl rfl rfl ?_
    refine S.hcallX rfl rfl rfl rfl ((pc_CopyM tab mv hoe.1 f1_0).frameX [] [] [0, 1] rfl rfl rfl rfl rfl (fun _ => rfl) (fun _ => rfl) (fun _ => rfl) (fun _ => rfl)) ?_
    rintro tab2 h2
    refine blockK_n ?_
    exact ⟨tab2, by rw [do_pref c3]; exact sum_pref hd f1_0 hm ⟨hoe.1, nd_filter hd _, by rw [hoe.2, off_filter hd]⟩ h2, _, rfl, rfl, LeG.refl _, rfl, rfl, rfl⟩
  ·skip
   refine W.seq ?_
   refine W.region ?_
   refine S.pure tOk zOk rfl rfl rfl ?_
   refine S.pure tOk zOk rfl rfl rfl ?_
   refine thenK_n ?_
   refine W.cond rfl (fun c5 => ?_) (fun c5 => ?_)
   ·skip
    refine W.seq ?_
    refine W.region ?_
    refine S.pure tOk zOk rfl rfl rfl ?_
    refine thenK_n ?_
    refine W.cond rfl (fun c6 => ?_) (fun c6 => ?_)
    ·skip
     refine W.region ?_
     refine S.pure tOk zOk rfl rfl rfl ?_
     refine S.pure tOk zOk rfl rfl rfl ?_
     refine S.pure tOk zOk rfl rfl rfl ?_
     refine S.pure tOk zOk rfl rfl rfl ?_
     refine S.mapUpdate tOk keyS (fD := fun v : List UInt8 => DV.one (.str v)) (getL beqS [] u r.k) (u) rfl rfl rfl rfl rfl rfl rfl rfl (show _ = [tabD (setL beqS (u) (r.tu) (getL beqS [] u r.k))] from rfl) ?_
     refine blockK_n ?_
     exact ⟨_, by unfold doT; simp only [c1, c3, c5, c6, Bool.false_eq_true, if_false, if_true, ↓reduceIte]; exact EqT.refl (by first | exact hd | exact nd_set (nd_del hd _) _ _ | exact nd_set hd _ _ | exact nd_del hd _), _, rfl, rfl, LeG.refl _, rfl, rfl, rfl⟩
    ·skip
     refine W.skip ?_
     refine blockK_n ?_
     exact ⟨_, by unfold doT; simp only [c1, c3, c5, c6, Bool.false_eq_true, if_false, if_true, ↓reduceIte]; exact EqT.refl (by first | exact hd | exact nd_set (nd_del hd _) _ _ | exact nd_set hd _ _ | exact nd_del hd _), _, rfl, rfl, LeG.refl _, rfl, rfl, rfl⟩
   ·skip
    refine W.seq ?_
    refine W.region ?_
    refine S.pure tOk zOk rfl rfl rfl ?_
    refine S.pure tOk zOk rfl rfl rfl ?_
    refine thenK_n ?_
    refine W.cond rfl (fun c7 => ?_) (fun c7 => ?_)
    ·skip
     refine W.region ?_
     refine S.pure tOk zOk rfl rfl rfl ?_
     refine S.pure tOk zOk rfl rfl rfl ?_
     refine S.pure tOk zOk rfl rfl rfl ?_
     refine S.pure tOk zOk rfl rfl rfl ?_
     refine S.pure tOk zOk rfl rfl rfl ?_
     refine S.mapUpdate tOk keyS (fD := fun v : List UInt8 => DV.one (.str v)) (r.nu) (u) rfl rfl rfl rfl rfl rfl rfl rfl (show _ = [tabD (setL beqS (u) (r.k) (r.nu))] from rfl) ?_
     refine blockK_n ?_
     exact ⟨_, by unfold doT; simp only [c1, c3, c5, c7, Bool.false_eq_true, if_false, if_true, ↓reduceIte]; exact EqT.refl (by first | exact hd | exact nd_set (nd_del hd _) _ _ | exact nd_set hd _ _ | exact nd_del hd _), _, rfl, rfl, LeG.refl _, rfl, rfl, rfl⟩
    ·skip
     refine W.seq ?_
     refine W.region ?_
     refine S.pure tOk zOk rfl rfl rfl ?_
     refine S.pure tOk zOk rfl rfl rfl ?_
     refine thenK_n ?_
     refine W.cond rfl (fun c8 => ?_) (fun c8 => ?_)
     ·skip
      refine W.seq ?_
      refine W.region ?_
      refine S.pure tOk zOk rfl rfl rfl ?_
      refine S.pure tOk zOk rfl rfl rfl ?_
      refine thenK_n ?_
      refine W.cond rfl (fun c9 => ?_) (fun c9 => ?_)
      ·skip
       have hz : hasL beqS u r.k = false := by simpa using c9
       refine W.region ?_
       refine S.pure tOk zOk rfl rfl rfl ?_
       refine S.pure tOk zOk rfl rfl rfl ?_
       refine S.pure tOk zOk rfl rfl rfl ?_
       refine S.pure tOk zOk rfl rfl rfl ?_
       refine S.pure tOk zOk rfl rfl rfl ?_
       refine S.mapUpdate tOk keyS (fD := fun v : List UInt8 => DV.one (.str v)) (r.nu) (u) rfl rfl rfl rfl rfl rfl rfl rfl (show _ = [tabD (setL beqS (u) (r.k) (r.nu))] from rfl) ?_
       refine blockK_n ?_
       exact ⟨_, by unfold doT; simp only [c1, c3, c5, c7, c8, hz, Bool.false_eq_true, if_false, if_true, ↓reduceIte]; exact EqT.refl (by first | exact hd | exact nd_set (nd_del hd _) _ _ | exact nd_set hd _ _ | exact nd_del hd _), _, rfl, rfl, LeG.refl _, rfl, rfl, rfl⟩
      ·skip
       have hz : hasL beqS u r.k = true := by simpa using c9
       refine W.skip ?_
       refine blockK_n ?_
       exact ⟨_, by unfold doT; simp only [c1, c3, c5, c7, c8, hz, Bool.false_eq_true, if_false, if_true, ↓reduceIte]; exact EqT.refl (by first | exact hd | exact nd_set (nd_del hd _) _ _ | exact nd_set hd _ _ | exact nd_del hd _), _, rfl, rfl, LeG.refl _, rfl, rfl, rfl⟩
     ·skip
      refine W.seq ?_
      refine W.region ?_
      refine S.pure tOk zOk rfl rfl rfl ?_
      refine S.pure tOk zOk rfl rfl rfl ?_
      refine thenK_n ?_
      refine W.cond rfl (fun c10 => ?_) (fun c10 => ?_)
      ·skip
       refine W.region ?_
       refine S.pure tOk zOk rfl rfl rfl ?_
       refine S.pure tOk zOk rfl rfl rfl ?_
       refine S.pure tOk zOk rfl rfl rfl ?_
       refine S.mapDelete tOk keyS (fD := fun v : List UInt8 => DV.one (.str v)) (u) rfl rfl rfl rfl rfl rfl rfl (show _ = [tabD (delL beqS u r.k)] from rfl) ?_
       refine blockK_n ?_
       exact ⟨_, by unfold doT; simp only [c1, c3, c5, c7, c8, c10, Bool.false_eq_true, if_false, if_true, ↓reduceIte]; exact EqT.refl (by first | exact hd | exact nd_set (nd_del hd _) _ _ | exact nd_set hd _ _ | exact nd_del hd _), _, rfl, rfl, LeG.refl _, rfl, rfl, rfl⟩
      ·skip
       refine W.seq ?_
       refine W.seq ?_
       refine W.region ?_
       refine S.pure tOk zOk rfl rfl rfl ?_
       refine S.pure tOk zOk rfl rfl rfl ?_
       refine thenK_n ?_
       refine W.cond rfl (fun c11 => ?_) (fun c11 => ?_)
       ·skip
        refine W.skip ?_
        refine thenK_n ?_
        refine W.cond rfl (fun c12 => ?_) (fun c12 => ?_)
        ·skip
         refine W.seq ?_
         refine W.region ?_
         refine S.pure tOk zOk rfl rfl rfl ?_
         refine S.pure tOk zOk rfl rfl rfl ?_
         refine S.pureG tOk zOk rfl rfl tg (fun _ => rfl) rfl ?_
         refine S.pureG tOk zOk rfl rfl tg (fun _ => rfl) rfl ?_
         refine S.pureG tOk zOk rfl rfl tg (fun _ => rfl) rfl ?_
         refine S.pureG tOk zOk rfl rfl tg (fun _ => rfl) rfl ?_
         refine S.pickAnd tOk zOk rfl rfl tg ?_
         refine thenK_n ?_
         refine W.cond rfl (fun c13 => ?_) (fun c13 => ?_)
         ·skip
          refine W.region ?_
          refine S.pure tOk zOk rfl rfl rfl ?_
          refine S.pure tOk zOk rfl rfl rfl ?_
          refine S.pure tOk zOk rfl rfl rfl ?_
          refine S.pure tOk zOk rfl rfl rfl ?_
          refine S.pure tOk zOk rfl rfl rfl ?_
          refine S.mapUpdate tOk keyS (fD := fun v : List UInt8 => DV.one (.str v)) (r.nu) (u) rfl rfl rfl rfl rfl rfl rfl rfl (show _ = [tabD (setL beqS (u) (r.k) (r.nu))] from rfl) ?_
          refine blockK_n ?_
          exact ⟨_, by unfold doT; simp only [c1, c3, c5, c7, c8, c10, c13, Bool.false_eq_true, if_false, if_true, ↓reduceIte]; exact EqT.refl (by first | exact hd | exact nd_set (nd_del hd _) _ _ | exact nd_set hd _ _ | exact nd_del hd _), _, rfl, rfl, LeG.refl _, rfl, rfl, rfl⟩
         ·skip
          refine W.seq ?_
          refine W.region ?_
          refine S.pure tOk zOk rfl rfl rfl ?_
          refine S.pure tOk zOk rfl rfl rfl ?_
          refine S.pureG tOk zOk rfl rfl tg (fun _ => rfl) rfl ?_
          refine S.pureG tOk zOk rfl rfl tg (fun _ => rfl) rfl ?_
          refine S.pureG tOk zOk rfl rfl tg (fun _ => rfl) rfl ?_
          refine S.pureG tOk zOk rfl rfl tg (fun _ => rfl) rfl ?_
          refine S.pickAnd tOk zOk rfl rfl tg ?_
          refine S.pure tOk zOk rfl rfl rfl ?_
          refine S.pureG tOk zOk rfl rfl tg (fun _ => rfl) rfl ?_
          refine S.pureG tOk zOk rfl rfl tg (fun _ => rfl) rfl ?_
          refine S.pureG tOk zOk rfl rfl tg (fun _ => rfl) rfl ?_
          refine S.pickAnd tOk zOk rfl rfl tg ?_
          refine thenK_n ?_
          refine W.cond rfl (fun c14 => ?_) (fun c14 => ?_)
          ·skip
           refine W.region ?_
           refine S.pure tOk zOk rfl rfl rfl ?_
           refine S.pure tOk zOk rfl rfl rfl ?_
           refine S.pure tOk zOk rfl rfl rfl ?_
           refine S.pure tOk zOk rfl rfl rfl ?_
           refine S.pure tOk zOk rfl rfl rfl ?_
           refine S.mapUpdate tOk keyS (fD := fun v : List UInt8 => DV.one (.str v)) (r.old) (u) rfl rfl rfl rfl rfl rfl rfl rfl (show _ = [tabD (setL beqS (u) (r.k) (r.old))] from rfl) ?_
           refine blockK_n ?_
           exact ⟨_, by unfold doT; simp only [c1, c3, c5, c7, c8, c10, c13, c14, Bool.false_eq_true, if_false, if_true, ↓reduceIte]; exact EqT.refl (by first | exact hd | exact nd_set (nd_del hd _) _ _ | exact nd_set hd _ _ | exact nd_del hd _), _, rfl, rfl, LeG.refl _, rfl, rfl, rfl⟩
          ·skip
           refine W.skip ?_
           refine blockK_n ?_
           exact ⟨_, by unfold doT; simp only [c1, c3, c5, c7, c8, c10, c13, c14, Bool.false_eq_true, if_false, if_true, ↓reduceIte]; exact EqT.refl (by first | exact hd | exact nd_set (nd_del hd _) _ _ | exact nd_set hd _ _ | exact nd_del hd _), _, rfl, rfl, LeG.refl _, rfl, rfl, rfl⟩
        ·skip
         refine W.skip ?_
         refine blockK_n ?_
         exact ⟨u, absurd (c11.symm.trans c12) (by decide), _, rfl, rfl, LeG.refl _, rfl, rfl, rfl⟩
       ·skip
        refine W.region ?_
        refine S.pure tOk zOk rfl rfl rfl ?_
        refine S.pure tOk zOk rfl rfl rfl ?_
        refine thenK_n ?_
        refine W.cond rfl (fun c15 => ?_) (fun c15 => ?_)
        ·skip
         refine W.seq ?_
         refine W.region ?_
         refine S.pure tOk zOk rfl rfl rfl ?_
         refine S.pure tOk zOk rfl rfl rfl ?_
         refine S.pureG tOk zOk rfl rfl tg (fun _ => rfl) rfl ?_
         refine S.pureG tOk zOk rfl rfl tg (fun _ => rfl) rfl ?_
         refine S.pureG tOk zOk rfl rfl tg (fun _ => rfl) rfl ?_
         refine S.pureG tOk zOk rfl rfl tg (fun _ => rfl) rfl ?_
         refine S.pickAnd tOk zOk rfl rfl tg ?_
         refine thenK_n ?_
         refine W.cond rfl (fun c16 => ?_) (fun c16 => ?_)
         ·skip
          refine W.region ?_
          refine S.pure tOk zOk rfl rfl rfl ?_
          refine S.pure tOk zOk rfl rfl rfl ?_
          refine S.pure tOk zOk rfl rfl rfl ?_
          refine S.pure tOk zOk rfl rfl rfl ?_
          refine S.pure tOk zOk rfl rfl rfl ?_
          refine S.mapUpdate tOk keyS (fD := fun v : List UInt8 => DV.one (.str v)) (r.nu) (u) rfl rfl rfl rfl rfl rfl rfl rfl (show _ = [tabD (setL beqS (u) (r.k) (r.nu))] from rfl) ?_
          refine blockK_n ?_
          exact ⟨_, by unfold doT; simp only [c1, c3, c5, c7, c8, c10, c16, Bool.false_eq_true, if_false, if_true, ↓reduceIte]; exact EqT.refl (by first | exact hd | exact nd_set (nd_del hd _) _ _ | exact nd_set hd _ _ | exact nd_del hd _), _, rfl, rfl, LeG.refl _, rfl, rfl, rfl⟩
         ·skip
          refine W.seq ?_
          refine W.region ?_
          refine S.pure tOk zOk rfl rfl rfl ?_
          refine S.pure tOk zOk rfl rfl rfl ?_
          refine S.pureG tOk zOk rfl rfl tg (fun _ => rfl) rfl ?_
          refine S.pureG tOk zOk rfl rfl tg (fun _ => rfl) rfl ?_
          refine S.pureG tOk zOk rfl rfl tg (fun _ => rfl) rfl ?_
          refine S.pureG tOk zOk rfl rfl tg (fun _ => rfl) rfl ?_
          refine S.pickAnd tOk zOk rfl rfl tg ?_
          refine S.pure tOk zOk rfl rfl rfl ?_
          refine S.pureG tOk zOk rfl rfl tg (fun _ => rfl) rfl ?_
          refine S.pureG tOk zOk rfl rfl tg (fun _ => rfl) rfl ?_
          refine S.pureG tOk zOk rfl rfl tg (fun _ => rfl) rfl ?_
          refine S.pickAnd tOk zOk rfl rfl tg ?_
          refine thenK_n ?_
          refine W.cond rfl (fun c17 => ?_) (fun c17 => ?_)
          ·skip
           refine W.region ?_
           refine S.pure tOk zOk rfl rfl rfl ?_
           refine S.pure tOk zOk rfl rfl rfl ?_
           refine S.pure tOk zOk rfl rfl rfl ?_
           refine S.pure tOk zOk rfl rfl rfl ?_
           refine S.pure tOk zOk rfl rfl rfl ?_
           refine S.mapUpdate tOk keyS (fD := fun v : List UInt8 => DV.one (.str v)) (r.old) (u) rfl rfl rfl rfl rfl rfl rfl rfl (show _ = [tabD (setL beqS (u) (r.k) (r.old))] from rfl) ?_
           refine blockK_n ?_
           exact ⟨_, by unfold doT; simp only [c1, c3, c5, c7, c8, c10, c16, c17, Bool.false_eq_true, if_false, if_true, ↓reduceIte]; exact EqT.refl (by first | exact hd | exact nd_set (nd_del hd _) _ _ | exact nd_set hd _ _ | exact nd_del hd _), _, rfl, rfl, LeG.refl _, rfl, rfl, rfl⟩
          ·skip
           refine W.skip ?_
           refine blockK_n ?_
           exact ⟨_, by unfold doT; simp only [c1, c3, c5, c7, c8, c10, c16, c17, Bool.false_eq_true, if_false, if_true, ↓reduceIte]; exact EqT.refl (by first | exact hd | exact nd_set (nd_del hd _) _ _ | exact nd_set hd _ _ | exact nd_del hd _), _, rfl, rfl, LeG.refl _, rfl, rfl, rfl⟩
        ·skip
         refine W.skip ?_
         refine blockK_n ?_
         exact ⟨u, by exfalso; simp only [beq_eq_false_iff_ne] at c1 c3 c5 c7 c8 c10 c11 c15; omega, _, rfl, rfl, LeG.refl _, rfl, rfl, rfl⟩
theorem anyp_hit {α : Type} {p : α → Bool} {t dn rest : List α} {y : α} (hp : t.Perm (dn ++ y :: rest)) (h : p y = true) : t.any p = true := List.any_eq_true.2 ⟨y, hp.mem_iff.2 (by simp), h⟩
theorem anyp_end {α : Type} {p : α → Bool} {t dn : List α} (hp : t.Perm dn) (h : dn.any p = false) : t.any p = false := (any_perm p hp).trans h
theorem los_1 {u : Tab} {r : Rul} (h : (r.kd == 1) = true) : losesT u r = hasL beqS u r.tu := if_pos h
theorem los_2 {u : Tab} {r : Rul} (h : (r.kd == 1) = false) (h2 : (r.kd == 2) = true) : losesT u r = u.any (fun x => (tailOf x.1 r.tu).isSome) := by unfold losesT; rw [if_neg (Bool.eq_false_iff.1 h), if_pos h2]
theorem los_7 {u : Tab} {r : Rul} (h : (r.kd == 1) = false) (h2 : (r.kd == 2) = false) (h3 : (r.kd == 7) = true) : losesT u r = (hasL beqS u r.k && getL beqS [] u r.k == r.nu) := by unfold losesT; rw [if_neg (Bool.eq_false_iff.1 h), if_neg (Bool.eq_false_iff.1 h2), if_pos h3]
theorem los_0 {u : Tab} {r : Rul} (h : (r.kd == 1) = false) (h2 : (r.kd == 2) = false) (h3 : (r.kd == 7) = false) : losesT u r = false := by unfold losesT; rw [if_neg (Bool.eq_false_iff.1 h), if_neg (Bool.eq_false_iff.1 h2), if_neg (Bool.eq_false_iff.1 h3)]
theorem pc_loses (u : Tab) (r : Rul) (hr : RulB r) (hd : ndT u) (hl : ∀ x ∈ u, x.1.length ≤ 2000000) :
  HCall Tryz.prog J 65 ([.one (.map 0), .agg [.d (.int .i64 r.kd), .d (.str r.k), .d (.str r.tu), .d (.str r.old), .d (.str r.nu)]]) ([]) ([]) ([tabD u]) (isH (.one (.d (.bool (losesT u r)))) ([]) ([]) ([tabD u])) := by
 obtain ⟨hr1, hr2, hr3, hr4⟩ := hr
 refine HCall.ofD tOk ⟨0, 0, 1⟩ (fn := Tryz.f65) Tryz.func65 (by kernel_rfl) rfl (Nat.le_of_ble_eq_true rfl) (fun E => ?_)
 refine W.seq ?_
 refine W.region ?_
 refine S.box rfl rfl rfl rfl ?_
 refine S.pure tOk zOk rfl rfl rfl ?_
 refine thenK_n ?_
 refine W.seq ?_
 refine W.seq ?_
 refine W.region ?_
 refine S.pure tOk zOk rfl rfl rfl ?_
 refine S.pure tOk zOk rfl rfl rfl ?_
 refine thenK_n ?_
 refine W.block ?_
 refine W.seq ?_
 refine W.region ?_
 refine S.pure tOk zOk rfl rfl rfl ?_
 refine S.pure tOk zOk rfl rfl rfl ?_
 refine thenK_n ?_
 refine W.cond rfl (fun c1 => ?_) (fun c1 => ?_)
 ·skip
  refine W.seq ?_
  refine W.region ?_
  refine S.pure tOk zOk rfl rfl rfl ?_
  refine S.pure tOk zOk rfl rfl rfl ?_
  refine S.pure tOk zOk rfl rfl rfl ?_
  refine S.lookup tOk keyS (fD := fun v : List UInt8 => DV.one (.str v)) [] (u) rfl rfl rfl rfl rfl rfl rfl rfl rfl rfl (show mapV true _ _ = V.tup [_, _] from rfl) ?_
  refine S.pure tOk zOk rfl rfl rfl ?_
  refine S.pure tOk zOk rfl rfl rfl ?_
  refine S.pure tOk zOk rfl rfl rfl ?_
  refine S.pure tOk zOk rfl rfl rfl ?_
  refine S.pure tOk zOk rfl rfl rfl ?_
  refine thenK_n ?_
  refine W.seq ?_
  refine W.region ?_
  refine S.pure tOk zOk rfl rfl rfl ?_
  refine S.pure tOk zOk rfl rfl rfl ?_
  refine thenK_n ?_
  refine W.ret ?_
  refine blockK_r ?_
  refine thenK_r ?_
  exact ⟨_, rfl, rfl, LeG.of_force rfl (by rw [los_1 c1]), rfl, rfl, rfl⟩
 ·skip
  refine W.seq ?_
  refine W.region ?_
  refine S.pure tOk zOk rfl rfl rfl ?_
  refine S.pure tOk zOk rfl rfl rfl ?_
  refine thenK_n ?_
  refine W.cond rfl (fun c2 => ?_) (fun c2 => ?_)
  ·skip
   refine W.forMap (enc := D.str) (fD := fun v : List UInt8 => DV.one (.str v)) (l0 := u) (mi := 0) tOk (fun q M dn st => dn.any (fun x => (tailOf x.1 r.tu).isSome) = false ∧ st = ⟨ofL [(25, .one (.d (.raw q))), (0, .one (.map 0)), (3, .one (.ptr 0 0))], [[.d (.int .i64 r.kd), .d (.str r.k), .d (.str r.tu), .d (.str r.old), .d (.str r.nu)]], [], [M]⟩) 1 rfl rfl rfl (by rintro q M dn _ ⟨f1_0, rfl⟩; exact ⟨rfl, rfl⟩) ⟨rfl, rfl, rfl, rfl⟩ ?_ ?_ ?_
   ·skip
    refine S.pure tOk zOk rfl rfl rfl ?_
    refine WL.nil ?_
    exact ⟨rfl, rfl, fun q M => ⟨_, ⟨rfl, rfl⟩, Wk.keep rfl ⟨rfl, rfl, rfl, trivial⟩ rfl⟩⟩
   ·skip
    rintro q M dn _ j1 c1001 born1 y rest E1 ⟨f1_0, rfl⟩ hE1 hst1 hp un1
    refine W.keep [(25, .one (.d (.raw q))), (0, .one (.map 0)), (3, .one (.ptr 0 0))] ⟨rfl, rfl, rfl, trivial⟩ ?_
    have hy := mem_len hl hp
    refine W.block ?_
    refine W.seq ?_
    refine W.region ?_
    refine S.entry hE1 rfl rfl hst1.at ?_
    refine S.pure tOk zOk rfl rfl rfl ?_
    refine S.pure tOk zOk rfl rfl rfl ?_
    refine thenK_n ?_
    refine W.seq ?_
    refine W.region ?_
    refine S.pure tOk zOk rfl rfl rfl ?_
    refine S.pure tOk zOk rfl rfl rfl ?_
    refine S.pure tOk zOk rfl rfl rfl ?_
    refine S.pure tOk zOk rfl rfl rfl ?_
    refine S.pure tOk zOk rfl rfl rfl ?_
    refine S.pureG tOk zOk rfl rfl tg (fun _ => rfl) rfl ?_
    refine S.pureG tOk zOk rfl rfl tg (fun _ => rfl) rfl ?_
    refine S.pureG tOk zOk rfl rfl tg (fun _ => rfl) rfl ?_
    refine S.callG rfl rfl rfl rfl tg rfl rfl (fun _ => pc_mbelow y.1 r.tu (by omega)) ?_
    refine S.pickOr tOk zOk rfl rfl tg ?_
    refine thenK_n ?_
    refine W.cond rfl (fun c3 => ?_) (fun c3 => ?_)
    ·skip
     have hs : (tailOf y.1 r.tu).isSome = true := (tail_is _ _).trans c3
     have ha := anyp_hit (p := fun x : L8 × L8 => (tailOf x.1 r.tu).isSome) hp hs
     refine W.seq ?_
     refine W.region ?_
     refine S.pure tOk zOk rfl rfl rfl ?_
     refine thenK_n ?_
     refine un1 _ _ _ _ _ _ _ rfl rfl ?_
     refine W.ret ?_
     refine blockK_r ?_
     refine thenK_r ?_
     refine blockK_r ?_
     refine blockK_r ?_
     refine thenK_r ?_
     exact ⟨_, rfl, rfl, LeG.of_force rfl (by rw [los_2 c1 c2, ha]; rfl), rfl, rfl, rfl⟩
    ·skip
     have hs : (tailOf y.1 r.tu).isSome = false := (tail_is _ _).trans c3
     refine W.skip ?_
     refine blockK_n ?_
     exact thenK_n ⟨_, ⟨any_snoc f1_0 hs, rfl⟩, Wk.keep rfl ⟨rfl, rfl, rfl, trivial⟩ rfl⟩
   ·skip
    rintro q M dn _ ⟨f1_0, rfl⟩ hp
    have ha := anyp_end hp f1_0
    refine ⟨_, Wk.keep (l := [(25, .one (.d (.raw q))), (0, .one (.map 0)), (3, .one (.ptr 0 0))]) (b1 := [[.d (.int .i64 r.kd), .d (.str r.k), .d (.str r.tu), .d (.str r.old), .d (.str r.nu)]]) (b2 := []) (r1 := []) (r2 := []) (m1 := [mapOf D.str (fun v : List UInt8 => DV.one (.str v)) (u)]) (m2 := []) rfl ⟨rfl, rfl, rfl, trivial⟩ rfl, ?_⟩
    refine blockK_n ?_
    refine thenK_n ?_
    refine W.seq ?_
    refine W.region ?_
    refine S.pure tOk zOk rfl rfl rfl ?_
    refine thenK_n ?_
    refine W.ret ?_
    exact ⟨_, rfl, rfl, LeG.of_force rfl (by rw [los_2 c1 c2, ha]; rfl), rfl, rfl, rfl⟩
  ·skip
   refine W.seq ?_
   refine W.region ?_
   refine S.pure tOk zOk rfl rfl rfl ?_
   refine S.pure tOk zOk rfl rfl rfl ?_
   refine thenK_n ?_
   refine W.cond rfl (fun c4 => ?_) (fun c4 => ?_)
   ·skip
    refine W.seq ?_
    refine W.region ?_
    refine S.pure tOk zOk rfl rfl rfl ?_
    refine S.pure tOk zOk rfl rfl rfl ?_
    refine S.pure tOk zOk rfl rfl rfl ?_
    refine S.lookup tOk keyS (fD := fun v : List UInt8 => DV.one (.str v)) [] (u) rfl rfl rfl rfl rfl rfl rfl rfl rfl rfl (show mapV true _ _ = V.tup [_, _] from rfl) ?_
    refine S.pure tOk zOk rfl rfl rfl ?_
    refine S.pure tOk zOk rfl rfl rfl ?_
    refine S.pure tOk zOk rfl rfl rfl ?_
    refine S.pure tOk zOk rfl rfl rfl ?_
    refine S.pure tOk zOk rfl rfl rfl ?_
    refine thenK_n ?_
    refine W.seq ?_
    refine W.region ?_
    refine S.pure tOk zOk rfl rfl rfl ?_
    refine S.pure tOk zOk rfl rfl rfl ?_
    refine S.pureG tOk zOk rfl rfl tg (fun _ => rfl) rfl ?_
    refine S.pureG tOk zOk rfl rfl tg (fun _ => rfl) rfl ?_
    refine S.pureG tOk zOk rfl rfl tg (fun _ => rfl) rfl ?_
    refine S.pureG tOk zOk rfl rfl tg (fun _ => rfl) rfl ?_
    refine S.pickAnd tOk zOk rfl rfl tg ?_
    refine S.pure tOk zOk rfl rfl rfl ?_
    refine thenK_n ?_
    refine W.ret ?_
    refine blockK_r ?_
    refine thenK_r ?_
    exact ⟨_, rfl, rfl, LeG.of_force rfl (by rw [los_7 c1 c2 c4]), rfl, rfl, rfl⟩
   ·skip
    refine W.skip ?_
    refine blockK_n ?_
    refine thenK_n ?_
    refine W.seq ?_
    refine W.region ?_
    refine S.pure tOk zOk rfl rfl rfl ?_
    refine thenK_n ?_
    refine W.ret ?_
    exact ⟨_, rfl, rfl, LeG.of_force rfl (by rw [los_0 c1 c2 c4]; rfl), rfl, rfl, rfl⟩
end Go.Proofs.YtcchfmilleffjaaGreatDoor
