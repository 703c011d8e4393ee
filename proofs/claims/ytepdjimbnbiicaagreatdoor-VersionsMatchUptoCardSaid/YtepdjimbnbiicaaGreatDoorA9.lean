/- The abstract layer, part 9: the steps as a walk takes them: states written out, values laid bare. -/
import Derived.Test.YtepdjimbnbiicaaGreatDoorA8
import Derived.LoopN
set_option linter.unusedVariables false
set_option linter.unusedSimpArgs false
set_option linter.unnecessarySimpa false
namespace Go.Proofs.YtepdjimbnbiicaaGreatDoor
open Go Go.RowKit

/-! ### Values laid bare -/
def forceL {α : Type} : List α → Option (List α)
  | [] => some []
  | c :: l => match forceL l with | some r => some (c :: r) | none => none
theorem forceL_eq {α : Type} : ∀ {l r : List α}, forceL l = some r → l = r
  | [], r, h => by simpa [forceL] using h
  | c :: l, r, h => by
    unfold forceL at h
    split at h
    · rename_i q hq
      rw [forceL_eq hq]; simpa using h
    · cases h
mutual
def forceV : V → Option V
  | .one c => some (.one c)
  | .agg cs => match forceL cs with | some r => some (.agg r) | none => none
  | .tup vs => match forceVs vs with | some r => some (.tup r) | none => none
  | .when b v => match forceV v with | some r => some (.when b r) | none => none
  | .junk => some .junk
def forceVs : List V → Option (List V)
  | [] => some []
  | v :: l => match forceV v, forceVs l with | some q, some r => some (q :: r) | _, _ => none
end
mutual
theorem forceV_eq : ∀ {v r : V}, forceV v = some r → v = r
  | .one c, r, h => by simpa [forceV] using h
  | .agg cs, r, h => by
    unfold forceV at h
    split at h
    · rename_i q hq; rw [forceL_eq hq]; simpa using h
    · cases h
  | .tup vs, r, h => by
    unfold forceV at h
    split at h
    · rename_i q hq; rw [forceVs_eq hq]; simpa using h
    · cases h
  | .when b v, r, h => by
    unfold forceV at h
    split at h
    · rename_i q hq; rw [forceV_eq hq]; simpa using h
    · cases h
  | .junk, r, h => by simpa [forceV] using h
theorem forceVs_eq : ∀ {v r : List V}, forceVs v = some r → v = r
  | [], r, h => by simpa [forceVs] using h
  | v :: l, r, h => by
    unfold forceVs at h
    split at h
    · rename_i q r' hq hr; rw [forceV_eq hq, forceVs_eq hr]; simpa using h
    · cases h
end

/-! ### The marks of operands -/
def tagsV : V → List Bool
  | .when b v => b :: tagsV v
  | _ => []
def appL {α : Type} : List α → List α → List α
  | [], l => l
  | a :: r, l => a :: appL r l
def tagsO (t : Nat → V) : List Operand → List Bool
  | [] => []
  | .tmp i :: l => appL (tagsV (t i)) (tagsO t l)
  | _ :: l => tagsO t l
def allT (c : Bool) : List Bool → Prop
  | [] => True
  | b :: l => (c = true → b = true) ∧ allT c l
theorem allT_nil {c : Bool} : allT c [] := trivial
theorem allT_cons {c b : Bool} {l : List Bool} (h : c = true → b = true) (k : allT c l) : allT c (b :: l) := ⟨h, k⟩
theorem appL_eq {α : Type} : ∀ (a l : List α), appL a l = a ++ l
  | [], _ => rfl
  | x :: r, l => by simp [appL, appL_eq r l]
theorem allT_mem {c : Bool} : ∀ {l : List Bool}, allT c l → c = true → ∀ b ∈ l, b = true
  | [], _, _, b, hb => by cases hb
  | x :: l, h, hc, b, hb => by
    rcases List.mem_cons.1 hb with rfl | hb
    · exact h.1 hc
    · exact allT_mem h.2 hc b hb

def bare (t : Nat → V) : Nat → V := fun i => (strip (t i)).2

theorem strip_tags : ∀ {v : V}, (∀ b ∈ tagsV v, b = true) → strip v = (true, (strip v).2)
  | .when b v, h => by
    have h1 := h b (List.mem_cons_self ..)
    have h2 := strip_tags (v := v) (fun b hb => h b (List.mem_cons_of_mem _ hb))
    have h3 : (strip v).1 = true := by rw [h2]
    simp [strip, h1, h3]
  | .one _, _ => rfl
  | .agg _, _ => rfl
  | .tup _, _ => rfl
  | .junk, _ => rfl

theorem strip_strip : ∀ (v : V), strip (strip v).2 = (true, (strip v).2)
  | .when b v => by simp only [strip]; exact strip_strip v
  | .one _ => rfl
  | .agg _ => rfl
  | .tup _ => rfl
  | .junk => rfl

section
variable {J : Inv} {E : Env J} {P : Program} {T : TypeId → Option TI} {n : Nat} {t : Nat → V} {b : List (List C)} {r : List (Option RowO)} {m : List (List (DV × DV))}

theorem opd_bare {x : Operand} (h : ∀ c ∈ tagsO t [x], c = true) : opd n ⟨t, b, r, m⟩ x = opd n ⟨bare t, b, r, m⟩ x := by
  cases x with
  | tmp i =>
    have h1 : ∀ c ∈ tagsV (t i), c = true := fun c hc => h c (by simp [tagsO, appL_eq, hc])
    have h2 := strip_tags h1
    simp only [opd, opdV, bare, strip_strip]
    rw [h2]
  | const v => rfl
  | func f => rfl
  | global g => rfl

theorem tagsO_mem : ∀ {l : List Operand} {x : Operand}, x ∈ l → ∀ c ∈ tagsO t [x], c ∈ tagsO t l
  | [], x, h, _, _ => by cases h
  | y :: l, x, h, c, hc => by
    rcases List.mem_cons.1 h with rfl | h
    · cases x <;> simp [tagsO, appL_eq] at hc ⊢
      exact .inl hc
    · have := tagsO_mem h c hc
      cases y <;> simp [tagsO, appL_eq, this]

theorem opds_bare {l : List Operand} (h : ∀ c ∈ tagsO t l, c = true) {x : Operand} (hx : x ∈ l) : opd n ⟨t, b, r, m⟩ x = opd n ⟨bare t, b, r, m⟩ x :=
  opd_bare fun c hc => h c (tagsO_mem hx c hc)

theorem allOpd_congr {s s' : St} : ∀ (l : List (Nat × Operand)), (∀ p ∈ l, opd n s p.2 = opd n s' p.2) → allOpd n s l = allOpd n s' l
  | [], _ => rfl
  | (i, x) :: l, h => by
    simp only [allOpd, h (i, x) (List.mem_cons_self ..), allOpd_congr l (fun p hp => h p (List.mem_cons_of_mem _ hp))]
theorem allOpdL_congr {s s' : St} : ∀ (l : List Operand), (∀ p ∈ l, opd n s p = opd n s' p) → allOpdL n s l = allOpdL n s' l
  | [], _ => rfl
  | x :: l, h => by
    simp only [allOpdL, h x (List.mem_cons_self ..), allOpdL_congr l (fun p hp => h p (List.mem_cons_of_mem _ hp))]

theorem evP_bare (op : Op) (h : ∀ c ∈ tagsO t op.operands.toList, c = true) : evP T n ⟨t, b, r, m⟩ op = evP T n ⟨bare t, b, r, m⟩ op := by
  have hx : ∀ x ∈ op.operands.toList, opd n ⟨t, b, r, m⟩ x = opd n ⟨bare t, b, r, m⟩ x := fun x hx => opds_bare h hx
  cases op <;> simp only [evP]
  case move x => rw [hx x (by simp [Op.operands])]
  case assign x => rw [hx x (by simp [Op.operands])]
  case pick c x y => simp only [evPick]; rw [hx c (by simp [Op.operands]), hx x (by simp [Op.operands]), hx y (by simp [Op.operands])]
  case load t' x => simp only [one']; rw [hx x (by simp [Op.operands])]; rfl
  case nilCheck x => simp only [one']; rw [hx x (by simp [Op.operands])]
  case binOp op t' x y t'' => simp only [both]; rw [hx x (by simp [Op.operands]), hx y (by simp [Op.operands])]
  case unOp op t' x => simp only [one']; rw [hx x (by simp [Op.operands])]
  case convert p q x => simp only [one']; rw [hx x (by simp [Op.operands])]
  case slice t' x lo hi mx =>
    cases mx with
    | some _ => simp only [evP]
    | none =>
      simp only [evP]
      rw [hx x (by simp [Op.operands])]
      have hb : ∀ (d : Int) (o : Option Operand), (∀ y, o = some y → y ∈ (Op.slice t' x lo hi none).operands.toList) → bnd n ⟨t, b, r, m⟩ d o = bnd n ⟨bare t, b, r, m⟩ d o := fun d o ho => by
        cases o with
        | none => rfl
        | some y => simp only [bnd]; rw [hx y (ho y rfl)]
      rw [hb 0 lo (fun y hy => by subst hy; simp [Op.operands])]
      generalize opd n ⟨bare t, b, r, m⟩ x = p
      obtain ⟨p1, p2⟩ := p
      simp only
      cases lenOfV p2 with
      | none => rfl
      | some l => simp only; rw [hb l hi (fun y hy => by subst hy; simp [Op.operands])]
  case fieldAddr t' x f => simp only [one']; rw [hx x (by simp [Op.operands])]
  case field t' x f => simp only [one']; rw [hx x (by simp [Op.operands])]
  case indexAddr t' x i => simp only [both]; rw [hx x (by simp [Op.operands]), hx i (by simp [Op.operands])]; rfl
  case index t' x i => simp only [both]; rw [hx x (by simp [Op.operands]), hx i (by simp [Op.operands])]
  case extract x i => simp only [one']; rw [hx x (by simp [Op.operands])]
  case build t' parts =>
    rw [allOpd_congr parts.toList (fun p hp => hx p.2 (by simp only [Op.operands, List.mem_map]; exact ⟨p, hp, rfl⟩))]
  case call c =>
    obtain ⟨callee, args, ats⟩ := c
    have hargs : ∀ x ∈ args.toList, opd n ⟨t, b, r, m⟩ x = opd n ⟨bare t, b, r, m⟩ x := fun x hx' => hx x (by
      simp only [Op.operands, Call.operands]
      simp only [Array.toList_append, List.mem_append]
      exact .inr hx')
    cases callee with
    | value f => simp only [evP]
    | invoke p q => simp only [evP]
    | builtin bb =>
      cases bb <;> simp only [evP]
      case len =>
        split
        · rename_i x t' hx' _
          simp only [one']; rw [hargs x (by rw [hx']; simp)]
        · rfl
      case min =>
        split
        · rename_i x y hx'
          simp only [both]; rw [hargs x (by rw [hx']; simp), hargs y (by rw [hx']; simp)]
        · rfl
      case max =>
        split
        · rename_i x y hx'
          simp only [both]; rw [hargs x (by rw [hx']; simp), hargs y (by rw [hx']; simp)]
        · rfl

/-! ### The steps -/
variable {ops : Array Oper} {l : List Oper} {K : St → Prop} {ty : TypeId} {pos : String} {after : Array Edge} {i : Nat}

theorem S.pure (hT : TabOk P T) (hZ : ZeroOk T) {op : Op} {ok : Bool} {v0 v : V} (he : evP T n ⟨t, b, r, m⟩ op = some (ok, v0)) (hok : ok = true) (hf : forceV v0 = some v)
    (k : WL E P n ops l K ⟨upd t i v, b, r, m⟩) : WL E P n ops (⟨some i, op, ty, pos, after, none⟩ :: l) K ⟨t, b, r, m⟩ := by
  obtain rfl := forceV_eq hf
  exact Step.pure (o := ⟨some i, op, ty, pos, after, none⟩) hT hZ he rfl hok k

/-- A guard's value. -/
def guardV (n : Nat) (ops : Array Oper) (t : Nat → V) (j : Nat) (want : Bool) : Option Bool :=
  match (ops[j]?).bind (·.dst) with
  | some d => match Nat.blt d n, t d, want with
      | true, .one (.d (.bool x)), true => some x
      | true, .one (.d (.bool x)), false => some (!x)
      | true, .when c (.one (.d (.bool x))), true => some (c && x)
      | true, .when c (.one (.d (.bool x))), false => some (c && !x)
      | _, _, _ => none
  | none => none

theorem guardV_B {j : Nat} {want c : Bool} (h : guardV n ops t j want = some c) : guardB n ops ⟨t, b, r, m⟩ j want = some c := by
  unfold guardV at h
  unfold guardB
  split at h
  · rename_i d hd
    rw [hd]
    simp only
    split at h
    · rename_i h1 h2; rw [if_pos h1, h2]; simpa using h
    · rename_i h1 h2; rw [if_pos h1, h2]; simpa using h
    · rename_i h1 h2; rw [if_pos h1, h2]; simpa using h
    · rename_i h1 h2; rw [if_pos h1, h2]; simpa using h
    · cases h
  · cases h

theorem S.pureG (hT : TabOk P T) (hZ : ZeroOk T) {op : Op} {ok c : Bool} {v0 v : V} {j : Nat} {want : Bool} (hg : guardV n ops t j want = some c)
    (he : evP T n ⟨bare t, b, r, m⟩ op = some (ok, v0)) (ht : allT c (tagsO t op.operands.toList)) (hok : c = true → ok = true) (hf : forceV v0 = some v)
    (k : WL E P n ops l K ⟨upd t i (.when c v), b, r, m⟩) : WL E P n ops (⟨some i, op, ty, pos, after, some (j, want)⟩ :: l) K ⟨t, b, r, m⟩ := by
  obtain rfl := forceV_eq hf
  cases c with
  | true =>
    rw [← evP_bare op (allT_mem ht rfl)] at he
    exact Step.pureG (o := ⟨some i, op, ty, pos, after, some (j, want)⟩) hT hZ rfl (guardV_B hg) he hok k
  | false => exact Step.skip (o := ⟨some i, op, ty, pos, after, some (j, want)⟩) rfl (guardV_B hg) v0 k

/-- 'x && y'. -/
theorem S.pickAnd (hT : TabOk P T) (hZ : ZeroOk T) {c a : Operand} {x y : Bool} (hc : opd n ⟨t, b, r, m⟩ c = (true, .one (.d (.bool x)))) (ha : opd n ⟨bare t, b, r, m⟩ a = (true, .one (.d (.bool y))))
    (ht : allT x (tagsO t [a])) (k : WL E P n ops l K ⟨upd t i (.one (.d (.bool (x && y)))), b, r, m⟩) :
    WL E P n ops (⟨some i, .pick c a (.const (.bool false)), ty, pos, after, none⟩ :: l) K ⟨t, b, r, m⟩ := by
  cases x with
  | true =>
    rw [Bool.true_and] at k
    rw [← opd_bare (allT_mem ht rfl)] at ha
    refine Step.pure (o := ⟨some i, .pick c a (.const (.bool false)), ty, pos, after, none⟩) (b := true) (v := .one (.d (.bool y))) hT hZ ?_ rfl rfl k
    simp only [evP, evPick, hc, ha]
    rfl
  | false =>
    obtain ⟨u, hu⟩ : ∃ u, opd n ⟨t, b, r, m⟩ a = u := ⟨_, rfl⟩
    intro g a' w rel next Q hn
    have hw : Region.wanted (⟨some i, .pick c a (.const (.bool false)), ty, pos, after, none⟩ : Oper) (yielded ops a'.tmps) = true := by simp [Region.wanted]
    rw [if_pos hw]
    have hv := opd_ok rel hc rfl
    generalize hz : a'.eval c = z at hv
    cases hv with | one _ _ q => cases q with | d _ _ q => cases q with | bool =>
    have hrun : (execOp a'.eval (⟨some i, .pick c a (.const (.bool false)), ty, pos, after, none⟩ : Oper)).run P w = .ok (.value (.bool false)) w := by
      simp only [execOp, Sem.run_bind, hz, asBool, Sem.run_pure, Result.andThen_ok]
      rfl
    unfold Oper.wp
    rw [hrun]
    rw [Bool.false_and] at k
    exact hn _ g _ _ k (rel.put_same (some i) (.one _ _ (.d _ _ (.bool _))))

/-- 'x || y'. -/
theorem S.pickOr (hT : TabOk P T) (hZ : ZeroOk T) {c a : Operand} {x y : Bool} (hc : opd n ⟨t, b, r, m⟩ c = (true, .one (.d (.bool x)))) (ha : opd n ⟨bare t, b, r, m⟩ a = (true, .one (.d (.bool y))))
    (ht : allT (!x) (tagsO t [a])) (k : WL E P n ops l K ⟨upd t i (.one (.d (.bool (x || y)))), b, r, m⟩) :
    WL E P n ops (⟨some i, .pick c (.const (.bool true)) a, ty, pos, after, none⟩ :: l) K ⟨t, b, r, m⟩ := by
  cases x with
  | false =>
    rw [Bool.false_or] at k
    rw [← opd_bare (allT_mem ht rfl)] at ha
    refine Step.pure (o := ⟨some i, .pick c (.const (.bool true)) a, ty, pos, after, none⟩) (b := true) (v := .one (.d (.bool y))) hT hZ ?_ rfl rfl k
    simp only [evP, evPick, hc, ha]
    rfl
  | true =>
    intro g a' w rel next Q hn
    have hw : Region.wanted (⟨some i, .pick c (.const (.bool true)) a, ty, pos, after, none⟩ : Oper) (yielded ops a'.tmps) = true := by simp [Region.wanted]
    rw [if_pos hw]
    have hv := opd_ok rel hc rfl
    generalize hz : a'.eval c = z at hv
    cases hv with | one _ _ q => cases q with | d _ _ q => cases q with | bool =>
    have hrun : (execOp a'.eval (⟨some i, .pick c (.const (.bool true)) a, ty, pos, after, none⟩ : Oper)).run P w = .ok (.value (.bool true)) w := by
      simp only [execOp, Sem.run_bind, hz, asBool, Sem.run_pure, Result.andThen_ok]
      rfl
    unfold Oper.wp
    rw [hrun]
    rw [Bool.true_or] at k
    exact hn _ g _ _ k (rel.put_same (some i) (.one _ _ (.d _ _ (.bool _))))

theorem bare_bare (t : Nat → V) : bare (bare t) = bare t := by funext i; simp only [bare, strip_strip]
theorem tags_bare (t : Nat → V) : ∀ (l : List Operand), tagsO (bare t) l = []
  | [] => rfl
  | .tmp i :: l => by
    have : tagsV (strip (t i)).2 = [] := by
      generalize t i = v
      have h : ∀ v : V, tagsV (strip v).2 = [] := by
        intro v
        induction v using V.rec (motive_2 := fun _ => True) with
        | when b v ih => simpa [strip] using ih
        | nil => trivial
        | cons => trivial
        | _ => rfl
      exact h v
    simp [tagsO, bare, this, appL, tags_bare t l]
  | .const _ :: l => by simp [tagsO, tags_bare t l]
  | .func _ :: l => by simp [tagsO, tags_bare t l]
  | .global _ :: l => by simp [tagsO, tags_bare t l]

theorem S.pickAndG (hT : TabOk P T) (hZ : ZeroOk T) {c a : Operand} {x y gd : Bool} {j : Nat} {want : Bool} (hg : guardV n ops t j want = some gd) (hc : opd n ⟨bare t, b, r, m⟩ c = (true, .one (.d (.bool x))))
    (ha : opd n ⟨bare t, b, r, m⟩ a = (true, .one (.d (.bool y)))) (hct : allT gd (tagsO t [c])) (ht : allT (gd && x) (tagsO t [a]))
    (k : WL E P n ops l K ⟨upd t i (.when gd (.one (.d (.bool (x && y))))), b, r, m⟩) :
    WL E P n ops (⟨some i, .pick c a (.const (.bool false)), ty, pos, after, some (j, want)⟩ :: l) K ⟨t, b, r, m⟩ := by
  cases gd with
  | false => exact Step.skip (o := ⟨some i, .pick c a (.const (.bool false)), ty, pos, after, some (j, want)⟩) rfl (guardV_B hg) _ k
  | true =>
    rw [← opd_bare (allT_mem hct rfl)] at hc
    intro g a' w rel next Q hn
    rw [guardB_ok (o := ⟨some i, .pick c a (.const (.bool false)), ty, pos, after, some (j, want)⟩) rel rfl (guardV_B hg), if_pos rfl]
    have h := S.pickAnd (E := E) (P := P) (ops := ops) (l := []) (K := fun s => s = ⟨upd t i (.one (.d (.bool (x && y)))), b, r, m⟩) (ty := ty) (pos := pos) (after := after) (i := i) hT hZ hc ha (by simpa using ht) rfl
    have h2 := h g a' w rel (fun a'' w'' => next a'' w'') Q (fun s' g' a'' w'' hs rel' => ?_)
    · rw [if_pos (by simp [Region.wanted])] at h2; exact h2
    · have hs : s' = ⟨upd t i (.one (.d (.bool (x && y)))), b, r, m⟩ := hs
      subst hs
      refine hn _ g' _ _ k ⟨rel'.below, rel'.im0, rel'.imlt, rel'.imold, rel'.own, ⟨rel'.heap.lt, rel'.heap.new, rel'.heap.inj, rel'.heap.box, rel'.heap.row, rel'.heap.map⟩, rel'.size, rel'.defers, fun q hq => ?_⟩
      have := rel'.tmps q hq
      by_cases hqi : i = q
      · subst hqi
        show RV _ _ _ (upd t i _ i) _
        have h3 : RV g' _ w'' (upd t i (V.one (.d (.bool (x && y)))) i) (a''.tmps.getD i undef) := this
        rw [upd_same] at h3 ⊢
        exact .whenT _ _ h3
      · show RV _ _ _ (upd t i _ q) _
        have h3 : RV g' _ w'' (upd t i (V.one (.d (.bool (x && y)))) q) (a''.tmps.getD q undef) := this
        rw [upd_ne _ _ hqi] at h3 ⊢
        exact h3

theorem S.pickOrG (hT : TabOk P T) (hZ : ZeroOk T) {c a : Operand} {x y gd : Bool} {j : Nat} {want : Bool} (hg : guardV n ops t j want = some gd) (hc : opd n ⟨bare t, b, r, m⟩ c = (true, .one (.d (.bool x))))
    (ha : opd n ⟨bare t, b, r, m⟩ a = (true, .one (.d (.bool y)))) (hct : allT gd (tagsO t [c])) (ht : allT (gd && !x) (tagsO t [a]))
    (k : WL E P n ops l K ⟨upd t i (.when gd (.one (.d (.bool (x || y))))), b, r, m⟩) :
    WL E P n ops (⟨some i, .pick c (.const (.bool true)) a, ty, pos, after, some (j, want)⟩ :: l) K ⟨t, b, r, m⟩ := by
  cases gd with
  | false => exact Step.skip (o := ⟨some i, .pick c (.const (.bool true)) a, ty, pos, after, some (j, want)⟩) rfl (guardV_B hg) _ k
  | true =>
    rw [← opd_bare (allT_mem hct rfl)] at hc
    intro g a' w rel next Q hn
    rw [guardB_ok (o := ⟨some i, .pick c (.const (.bool true)) a, ty, pos, after, some (j, want)⟩) rel rfl (guardV_B hg), if_pos rfl]
    have h := S.pickOr (E := E) (P := P) (ops := ops) (l := []) (K := fun s => s = ⟨upd t i (.one (.d (.bool (x || y)))), b, r, m⟩) (ty := ty) (pos := pos) (after := after) (i := i) hT hZ hc ha (by simpa using ht) rfl
    have h2 := h g a' w rel (fun a'' w'' => next a'' w'') Q (fun s' g' a'' w'' hs rel' => ?_)
    · rw [if_pos (by simp [Region.wanted])] at h2; exact h2
    · have hs : s' = ⟨upd t i (.one (.d (.bool (x || y)))), b, r, m⟩ := hs
      subst hs
      refine hn _ g' _ _ k ⟨rel'.below, rel'.im0, rel'.imlt, rel'.imold, rel'.own, ⟨rel'.heap.lt, rel'.heap.new, rel'.heap.inj, rel'.heap.box, rel'.heap.row, rel'.heap.map⟩, rel'.size, rel'.defers, fun q hq => ?_⟩
      have := rel'.tmps q hq
      by_cases hqi : i = q
      · subst hqi
        show RV _ _ _ (upd t i _ i) _
        have h3 : RV g' _ w'' (upd t i (V.one (.d (.bool (x || y)))) i) (a''.tmps.getD i undef) := this
        rw [upd_same] at h3 ⊢
        exact .whenT _ _ h3
      · show RV _ _ _ (upd t i _ q) _
        have h3 : RV g' _ w'' (upd t i (V.one (.d (.bool (x || y)))) q) (a''.tmps.getD q undef) := this
        rw [upd_ne _ _ hqi] at h3 ⊢
        exact h3

/-- An operation that is not carried out; the value that stands in its place is never looked at. -/
theorem S.skip {op : Op} {j : Nat} {want : Bool} (u : V) (hg : guardV n ops t j want = some false)
    (k : WL E P n ops l K ⟨upd t i (.when false u), b, r, m⟩) : WL E P n ops (⟨some i, op, ty, pos, after, some (j, want)⟩ :: l) K ⟨t, b, r, m⟩ :=
  Step.skip (o := ⟨some i, op, ty, pos, after, some (j, want)⟩) rfl (guardV_B hg) u k

theorem S.alloc (hT : TabOk P T) {te : TypeId} {ti : TI} {cs cs' : List C} {b' : List (List C)} (hi : T te = some ti) (hz : zeroC ti = some cs) (hf : forceL cs = some cs') (hb : forceL (appL b [cs']) = some b')
    (k : WL E P n ops l K ⟨upd t i (.one (.ptr b.length 0)), b', r, m⟩) : WL E P n ops (⟨some i, .alloc te, ty, pos, after, none⟩ :: l) K ⟨t, b, r, m⟩ := by
  obtain rfl := forceL_eq hf
  obtain rfl := forceL_eq hb
  rw [appL_eq] at k
  exact Step.alloc (s := ⟨t, b, r, m⟩) (o := ⟨some i, .alloc te, ty, pos, after, none⟩) hT rfl rfl hi hz k

theorem S.box {te : TypeId} {x : Operand} {v : V} {cs cs' : List C} {b' : List (List C)} (hx : opd n ⟨t, b, r, m⟩ x = (true, v)) (hc : cellsOfV v = some cs) (hf : forceL cs = some cs') (hb : forceL (appL b [cs']) = some b')
    (k : WL E P n ops l K ⟨upd t i (.one (.ptr b.length 0)), b', r, m⟩) : WL E P n ops (⟨some i, .box te x, ty, pos, after, none⟩ :: l) K ⟨t, b, r, m⟩ := by
  obtain rfl := forceL_eq hf
  obtain rfl := forceL_eq hb
  rw [appL_eq] at k
  exact Step.box (s := ⟨t, b, r, m⟩) (o := ⟨some i, .box te x, ty, pos, after, none⟩) rfl rfl hx hc k

theorem S.store (hT : TabOk P T) {te : TypeId} {ti : TI} {x y : Operand} {lo off : Nat} {v : V} {cs ds cs' : List C} {b' : List (List C)} (hi : T te = some ti) (hx : opd n ⟨t, b, r, m⟩ x = (true, .one (.ptr lo off)))
    (hy : opd n ⟨t, b, r, m⟩ y = (true, v)) (hv : cellsOfV v = some ds) (hb : b[lo]? = some cs) (hs : (Nat.beq ds.length ti.size && Nat.ble (off + ds.length) cs.length) = true)
    (hf : forceL (putCells cs off ds) = some cs') (hb' : forceL (b.set lo cs') = some b')
    (k : WL E P n ops l K ⟨t, b', r, m⟩) : WL E P n ops (⟨none, .store te x y, ty, pos, after, none⟩ :: l) K ⟨t, b, r, m⟩ := by
  obtain rfl := forceL_eq hf
  obtain rfl := forceL_eq hb'
  simp only [Bool.and_eq_true] at hs
  exact Step.store (s := ⟨t, b, r, m⟩) (o := ⟨none, .store te x y, ty, pos, after, none⟩) hT rfl rfl rfl hi hx hy hv hb (Nat.eq_of_beq_eq_true hs.1) (Nat.le_of_ble_eq_true hs.2) k

theorem S.slice (hT : TabOk P T) {te : TypeId} {len sz : Nat} {parts : Array (Nat × Operand)} {us : List (Nat × V)} {xs : List (List D)} (hp : allOpd n ⟨t, b, r, m⟩ parts.toList = (true, us)) (hx : evBS T te len us = some (sz, xs))
    (k : WL E P n ops l K ⟨upd t i (.one (.d (.vec sz xs))), b, r, m⟩) : WL E P n ops (⟨some i, .buildSlice te len parts, ty, pos, after, none⟩ :: l) K ⟨t, b, r, m⟩ :=
  Step.buildSlice (s := ⟨t, b, r, m⟩) (o := ⟨some i, .buildSlice te len parts, ty, pos, after, none⟩) hT rfl rfl hp hx k

theorem S.call {fo : Operand} {args : Array Operand} {ats : Array TypeId} {u : V} {f : FuncId} {caps : List C} {us ws : List V} {rv : V} (hu : opd n ⟨t, b, r, m⟩ fo = (true, u)) (hc : calleeV u = some (f, caps))
    (ha : allOpdL n ⟨t, b, r, m⟩ args.toList = (true, us)) (hw : forceVs (appL us (caps.map V.one)) = some ws) (hp : pureVs ws = true) (pc : PureCall P J f ws rv)
    (k : WL E P n ops l K ⟨upd t i rv, b, r, m⟩) : WL E P n ops (⟨some i, .call ⟨.value fo, args, ats⟩, ty, pos, after, none⟩ :: l) K ⟨t, b, r, m⟩ := by
  obtain rfl := forceVs_eq hw
  rw [appL_eq] at hp pc
  exact Step.call (s := ⟨t, b, r, m⟩) (o := ⟨some i, .call ⟨.value fo, args, ats⟩, ty, pos, after, none⟩) pc rfl rfl hu hc ha hp k

theorem S.callG {fo : Operand} {args : Array Operand} {ats : Array TypeId} {u : V} {f : FuncId} {caps : List C} {us ws : List V} {rv : V} {j : Nat} {want c : Bool} (hg : guardV n ops t j want = some c)
    (hu : opd n ⟨bare t, b, r, m⟩ fo = (true, u)) (hc : calleeV u = some (f, caps)) (ha : allOpdL n ⟨bare t, b, r, m⟩ args.toList = (true, us)) (ht : allT c (tagsO t (fo :: args.toList)))
    (hw : forceVs (appL us (caps.map V.one)) = some ws) (hp : pureVs ws = true) (pc : c = true → PureCall P J f ws rv)
    (k : WL E P n ops l K ⟨upd t i (.when c rv), b, r, m⟩) : WL E P n ops (⟨some i, .call ⟨.value fo, args, ats⟩, ty, pos, after, some (j, want)⟩ :: l) K ⟨t, b, r, m⟩ := by
  obtain rfl := forceVs_eq hw
  rw [appL_eq] at hp pc
  cases c with
  | true =>
    have htt := allT_mem ht rfl
    have h1 := opds_bare (n := n) (b := b) (r := r) (m := m) htt (List.mem_cons_self ..)
    have h2 := allOpdL_congr (n := n) args.toList (fun p hp => opds_bare (n := n) (b := b) (r := r) (m := m) htt (List.mem_cons_of_mem _ hp))
    rw [← h1] at hu
    rw [← h2] at ha
    exact Step.callG (s := ⟨t, b, r, m⟩) (o := ⟨some i, .call ⟨.value fo, args, ats⟩, ty, pos, after, some (j, want)⟩) pc rfl rfl (guardV_B hg) hu hc ha (fun _ => rfl) hp k
  | false => exact Step.skip (o := ⟨some i, .call ⟨.value fo, args, ats⟩, ty, pos, after, some (j, want)⟩) rfl (guardV_B hg) rv k

/-! ### Keeping a few temporaries -/
def ofL : List (Nat × V) → Nat → V
  | [], _ => .junk
  | (k, v) :: l, j => bif Nat.beq k j then v else ofL l j
def holdsL (t : Nat → V) : List (Nat × V) → Prop
  | [] => True
  | (k, v) :: l => t k = v ∧ holdsL t l
theorem holdsL_nil : holdsL t [] := trivial
theorem holdsL_cons {k : Nat} {v : V} {l : List (Nat × V)} (h : t k = v) (hl : holdsL t l) : holdsL t ((k, v) :: l) := ⟨h, hl⟩

theorem ofL_or (t : Nat → V) : ∀ (l : List (Nat × V)), holdsL t l → ∀ j, ofL l j = .junk ∨ ofL l j = t j
  | [], _, j => .inl rfl
  | (k, v) :: l, h, j => by
    unfold ofL
    cases hb : Nat.beq k j with
    | true => obtain rfl : k = j := by simpa using hb
              exact .inr h.1.symm
    | false => exact ofL_or t l h.2 j

/-- Only some temporaries are told of, the boxes as they are. -/
theorem W.keep {c : Code} {K : Ex → St → Prop} (l : List (Nat × V)) (hl : holdsL t l) (h : W E P n c K ⟨ofL l, b, r, m⟩) : W E P n c K ⟨t, b, r, m⟩ :=
  h.weaken fun g a w rel => ⟨g, rel.below, rel.im0, rel.imlt, rel.imold, rel.own, ⟨rel.heap.lt, rel.heap.new, rel.heap.inj, rel.heap.box, rel.heap.row, rel.heap.map⟩, rel.size, rel.defers, fun i hi => by
    show RV _ _ _ (ofL l i) _
    rcases ofL_or t l hl i with h | h
    · rw [h]; exact .junk _
    · rw [h]; exact rel.tmps i hi⟩
end

/-! ### Places below a number of boxes -/
mutual
def belowC (k : Nat) : C → Bool
  | .ptr l _ => Nat.blt l k
  | .clo _ cs => belowCs k cs
  | _ => true
def belowCs (k : Nat) : List C → Bool
  | [] => true
  | c :: l => belowC k c && belowCs k l
end
def belowV (k : Nat) : V → Bool
  | .one c => belowC k c
  | .agg cs => belowCs k cs
  | .junk => true
  | _ => false

theorem thenK_n {N : St → Prop} {K : Ex → St → Prop} {s : St} (h : N s) : thenK N K .normal s := h
theorem thenK_r {N : St → Prop} {K : Ex → St → Prop} {s : St} (h : K .ret s) : thenK N K .ret s := h
theorem thenK_e {N : St → Prop} {K : Ex → St → Prop} {s : St} {id : Nat} (h : K (.exit id) s) : thenK N K (.exit id) s := h
theorem blockK_n {id : Nat} {K : Ex → St → Prop} {s : St} (h : K .normal s) : blockK id K .normal s := h
theorem blockK_r {id : Nat} {K : Ex → St → Prop} {s : St} (h : K .ret s) : blockK id K .ret s := h
theorem blockK_x {id : Nat} {K : Ex → St → Prop} {s : St} (h : K .normal s) : blockK id K (.exit id) s := by simpa [blockK] using h
theorem blockK_e {id j : Nat} {K : Ex → St → Prop} {s : St} (hj : Nat.beq j id = false) (h : K (.exit j) s) : blockK id K (.exit j) s := by simpa [blockK, hj] using h
theorem loop_n {m : Nat} {I : Nat → St → Prop} {K : Ex → St → Prop} {s : St} (m' : Nat) (h : m' < m) (k : I m' s) : thenK (fun s' => ∃ m', m' < m ∧ I m' s') K .normal s := ⟨m', h, k⟩

/-- A loop of so many rounds at most. -/
def WR {J : Inv} (E : Env J) (P : Program) (n : Nat) (c : Code) (K : Ex → St → Prop) : Nat → St → Prop
  | 0, _ => False
  | k + 1, s => W E P n c (thenK (WR E P n c K k) K) s
theorem WR.succ {J : Inv} {E : Env J} {P : Program} {n k : Nat} {c : Code} {K : Ex → St → Prop} {s : St} (h : W E P n c (thenK (WR E P n c K k) K) s) : WR E P n c K (k + 1) s := h
theorem W.rounds {J : Inv} {E : Env J} {P : Program} {n : Nat} {c : Code} {K : Ex → St → Prop} {s : St} (k : Nat) (h : WR E P n c K k s) : W E P n (.loop c) K s := by
  have key : ∀ (k : Nat) (s : St), WR E P n c K k s → ∀ g a w, Rel E n g s a w → Code.rounds P c (fun e a' w' => ∃ x s' g', e = Ex.exit' x ∧ K x s' ∧ Rel E n g' s' a' w') k a w := by
    intro k
    induction k with
    | zero => intro s h; exact h.elim
    | succ k ih =>
      intro s h g a w r
      refine wp_mono (h g a w r) ?_
      rintro _ a' w' ⟨e, s', g', rfl, hk, r'⟩
      cases e with
      | normal => exact ih s' hk g' a' w' r'
      | exit id => exact ⟨.exit id, s', g', rfl, hk, r'⟩
      | ret => exact ⟨.ret, s', g', rfl, hk, r'⟩
  exact fun g a w r => wp_loop_rounds k (key k s h g a w r)
theorem W.condT {J : Inv} {E : Env J} {P : Program} {n : Nat} {K : Ex → St → Prop} {s : St} {x y : Code} {c : Operand} {b : Bool} (hc : opd n s c = (true, .one (.d (.bool b)))) (hb : b = true) (ht : W E P n x K s) : W E P n (.cond c x y) K s :=
  W.cond hc (fun _ => ht) (fun h => by rw [hb] at h; cases h)
theorem W.condF {J : Inv} {E : Env J} {P : Program} {n : Nat} {K : Ex → St → Prop} {s : St} {x y : Code} {c : Operand} {b : Bool} (hc : opd n s c = (true, .one (.d (.bool b)))) (hb : b = false) (ht : W E P n y K s) : W E P n (.cond c x y) K s :=
  W.cond hc (fun h => by rw [hb] at h; cases h) (fun _ => ht)

theorem andl {a b : Bool} (h : (a && b) = true) : a = true := by cases a <;> simp_all
theorem andr {a b : Bool} (h : (a && b) = true) : b = true := by cases a <;> simp_all
theorem LeV.of_eq {a b : V} (h : a = b) : LeV a b := h ▸ LeV.refl _
theorem LeV.nil (sz : Nat) : LeV (.one (.d .nilsl)) (.one (.d (.vec sz []))) := fun im w v h => by
  cases h with | one _ _ h => cases h with | d _ _ h => cases h with | nilsl => exact .one _ _ (.d _ _ (.empty _ _ _))
theorem LeV.tup2 {a a' b b' : V} (h1 : LeV a a') (h2 : LeV b b') : LeV (.tup [a, b]) (.tup [a', b']) := fun im w v h => by
  cases h with | tup _ vs hl hx =>
  refine .tup _ _ hl (fun i u v h3 h4 => ?_)
  match i with
  | 0 => obtain rfl : a' = u := by simpa using h3
         exact h1 _ _ _ (hx 0 a v rfl h4)
  | 1 => obtain rfl : b' = u := by simpa using h3
         exact h2 _ _ _ (hx 1 b v rfl h4)
  | i + 2 => simp at h3
theorem wrap_i64 {x : Int} (h0 : -9223372036854775808 ≤ x) (h1 : x ≤ 9223372036854775807) : IntKind.i64.wrap x = x := by
  unfold IntKind.wrap IntKind.bits IntKind.signed
  simp only [Bool.true_and, decide_eq_true_eq]
  split <;> omega
/-- A counter goes on. -/
theorem inc_i64 {i : Nat} (h : i ≤ 4611686018427387904) : V.one (.d (.int .i64 (IntKind.i64.wrap ((i : Int) + 1)))) = V.one (.d (.int .i64 ((i + 1 : Nat) : Int))) := by
  rw [wrap_i64 (by omega) (by omega)]; rfl
theorem idx_ok {i n : Int} (h0 : 0 ≤ i) (h1 : i < n) : (decide (0 ≤ i) && decide (i < n)) = true := by simp [h0, h1]
theorem sl_ok {l h n : Int} (h0 : 0 ≤ l) (h1 : l ≤ h) (h2 : h ≤ n) : (decide (0 ≤ l) && decide (l ≤ h) && decide (h ≤ n)) = true := by simp [h0, h1, h2]
theorem cat_ok {n : Nat} (h : n ≤ 4611686018427387904) : decide (n ≤ 4611686018427387904) = true := by simp [h]

end Go.Proofs.YtepdjimbnbiicaaGreatDoor
