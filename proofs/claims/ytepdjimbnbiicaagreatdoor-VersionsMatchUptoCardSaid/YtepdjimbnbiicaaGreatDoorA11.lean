/- The abstract layer, part 11: the steps of a region that draws its order. -/
import Derived.Test.YtepdjimbnbiicaaGreatDoorA10
set_option linter.unusedVariables false
set_option linter.unusedSimpArgs false
set_option linter.unnecessarySimpa false
namespace Go.Proofs.YtepdjimbnbiicaaGreatDoor
open Go Go.RowKit

section
variable {J : Inv} {E : Env J} {P : Program} {T : TypeId → Option TI} {n : Nat} {t : Nat → V} {b : List (List C)} {r : List (Option RowO)} {m : List (List (DV × DV))} {ops : Array Oper}

/-- An operation that yields v, nothing else turning. -/
def Pv {J : Inv} (E : Env J) (P : Program) (n : Nat) (o : Oper) (v : V) (s : St) : Prop :=
  ∀ g a w, Rel E n g s a w → ∃ z, (execOp a.eval o).run P w = .ok (.value z) w ∧ RV g s.sh w v z

/-- An operation that is carried out. -/
def RunV {J : Inv} (E : Env J) (P : Program) (n : Nat) (o : Oper) (t : Nat → V) (b : List (List C)) (r : List (Option RowO)) (m : List (List (DV × DV))) (v : V) (b' : List (List C)) : Prop :=
  ∀ g a w, Rel E n g ⟨t, b, r, m⟩ a w → ∀ (next : Act → World → Prop) (Q : Exit → Act → World → Prop),
    (∀ z g' w', (∀ t1 a1, Rel E n g ⟨t1, b, r, m⟩ a1 w → Rel E n g' ⟨t1, b', r, m⟩ a1 w') → RV g' (⟨t, b', r, m⟩ : St).sh w' v z → next (a.put o.dst z) w') → o.wp P a w next Q

theorem RunV.of_pv {o : Oper} {v : V} (h : Pv E P n o v ⟨t, b, r, m⟩) : RunV E P n o t b r m v b := by
  intro g a w rel next Q hn
  obtain ⟨z, h1, h2⟩ := h g a w rel
  unfold Oper.wp
  rw [h1]
  exact hn z g w (fun t1 a1 h => h) h2

theorem Tr.of_run {o : Oper} {v : V} {b' : List (List C)} (hg : o.guard = none) (h : RunV E P n o t b r m v b') : Tr E P n ops r m o t b v b' := by
  intro g a w rel next Q hn
  rw [if_pos (by simp [Region.wanted, hg])]
  exact h g a w rel next Q hn

theorem Tr.of_runG {o : Oper} {v : V} {j : Nat} {want c : Bool} (hg : o.guard = some (j, want)) (hc : guardV n ops t j want = some c) (h : c = true → RunV E P n o t b r m v b) : Tr E P n ops r m o t b (.when c v) b := by
  intro g a w rel next Q hn
  rw [guardB_ok rel hg (guardV_B hc)]
  cases c with
  | true => rw [if_pos rfl]; exact h rfl g a w rel next Q (fun z g' w' h1 h2 => hn z g' w' h1 (.whenT _ _ h2))
  | false => rw [if_neg (by simp)]; exact hn undef g w (fun t1 a1 h => h) (.whenF _)

theorem looks_opd {o : Oper} {x : Operand} (hx : x ∈ o.op.operands.toList) {t' : Nat → V} (h : ∀ i ∈ o.looksAt ops, t' i = t i) {b1 : List (List C)} : opd n ⟨t', b1, r, m⟩ x = opd n ⟨t, b, r, m⟩ x := by
  cases x with
  | tmp i =>
    have : t' i = t i := h i (by
      unfold Oper.looksAt
      exact List.mem_append.2 (.inl (List.mem_filterMap.2 ⟨.tmp i, hx, rfl⟩)))
    simp only [opd, opdV, this]
  | _ => rfl

theorem looks_guard {o : Oper} {j : Nat} {want : Bool} (hg : o.guard = some (j, want)) {t' : Nat → V} (h : ∀ i ∈ o.looksAt ops, t' i = t i) : guardV n ops t' j want = guardV n ops t j want := by
  unfold guardV
  cases hd : (ops[j]?).bind (·.dst) with
  | none => rfl
  | some d =>
    have : t' d = t d := h d (by
      unfold Oper.looksAt
      refine List.mem_append.2 (.inr ?_)
      rw [hg]
      simp only [hd, Option.toList_some, List.mem_singleton])
    simp only [this]

theorem tags_looks {o : Oper} {t' : Nat → V} (h : ∀ i ∈ o.looksAt ops, t' i = t i) : ∀ (l : List Operand), (∀ x ∈ l, x ∈ o.op.operands.toList) → tagsO t' l = tagsO t l
  | [], _ => rfl
  | x :: l, hl => by
    have ih := tags_looks h l (fun y hy => hl y (List.mem_cons_of_mem _ hy))
    cases x with
    | tmp i =>
      have : t' i = t i := h i (by
        unfold Oper.looksAt
        exact List.mem_append.2 (.inl (List.mem_filterMap.2 ⟨.tmp i, hl _ (List.mem_cons_self ..), rfl⟩)))
      simp only [tagsO, this, ih]
    | const _ => simp only [tagsO, ih]
    | func _ => simp only [tagsO, ih]
    | global _ => simp only [tagsO, ih]

theorem bare_looks {o : Oper} {t' : Nat → V} (h : ∀ i ∈ o.looksAt ops, t' i = t i) : ∀ i ∈ o.looksAt ops, bare t' i = bare t i := fun i hi => by simp only [bare, h i hi]

/-- The value of an operation that only computes hangs on its operands (and, of a load, on the boxes). -/
theorem evP_congr (op : Op) {s s' : St} (hb : cls op = 0 ∨ s.b = s'.b) (hx : ∀ x ∈ op.operands.toList, opd n s x = opd n s' x) : evP T n s op = evP T n s' op := by
  cases op <;> simp only [evP]
  case move x => rw [hx x (by simp [Op.operands])]
  case assign x => rw [hx x (by simp [Op.operands])]
  case pick c x y => simp only [evPick]; rw [hx c (by simp [Op.operands]), hx x (by simp [Op.operands]), hx y (by simp [Op.operands])]
  case load t' x =>
    have hb : s.b = s'.b := hb.resolve_left (by simp [cls])
    simp only [one']; rw [hx x (by simp [Op.operands])]
    unfold evLoad; rw [hb]
  case nilCheck x => simp only [one']; rw [hx x (by simp [Op.operands])]
  case binOp op t' x y t'' => simp only [both]; rw [hx x (by simp [Op.operands]), hx y (by simp [Op.operands])]
  case unOp op t' x => simp only [one']; rw [hx x (by simp [Op.operands])]
  case convert p q x => simp only [one']; rw [hx x (by simp [Op.operands])]
  case slice t' x lo hi mx =>
    cases mx with
    | some _ => simp only [evP]
    | none =>
      simp only [evP]
      rw [hx x (by simp [Op.operands])]
      have hb : ∀ (d : Int) (o : Option Operand), (∀ y, o = some y → y ∈ (Op.slice t' x lo hi none).operands.toList) → bnd n s d o = bnd n s' d o := fun d o ho => by
        cases o with
        | none => rfl
        | some y => simp only [bnd]; rw [hx y (ho y rfl)]
      rw [hb 0 lo (fun y hy => by subst hy; simp [Op.operands])]
      generalize opd n s' x = p
      obtain ⟨p1, p2⟩ := p
      simp only
      cases lenOfV p2 with
      | none => rfl
      | some l => simp only; rw [hb l hi (fun y hy => by subst hy; simp [Op.operands])]
  case fieldAddr t' x f => simp only [one']; rw [hx x (by simp [Op.operands])]
  case field t' x f => simp only [one']; rw [hx x (by simp [Op.operands])]
  case indexAddr t' x i => simp only [both]; rw [hx x (by simp [Op.operands]), hx i (by simp [Op.operands])]; rfl
  case index t' x i => simp only [both]; rw [hx x (by simp [Op.operands]), hx i (by simp [Op.operands])]
  case extract x i => simp only [one']; rw [hx x (by simp [Op.operands])]
  case build t' parts =>
    rw [allOpd_congr parts.toList (fun p hp => hx p.2 (by simp only [Op.operands, List.mem_map]; exact ⟨p, hp, rfl⟩))]
  case call c =>
    obtain ⟨callee, args, ats⟩ := c
    have hargs : ∀ x ∈ args.toList, opd n s x = opd n s' x := fun x hx' => hx x (by
      simp only [Op.operands, Call.operands]
      simp only [Array.toList_append, List.mem_append]
      exact .inr hx')
    cases callee with
    | value f => simp only [evP]
    | invoke p q => simp only [evP]
    | builtin bb =>
      cases bb <;> simp only [evP]
      case len =>
        split
        · rename_i x t' hx' _
          simp only [one']; rw [hargs x (by rw [hx']; simp)]
        · rfl
      case min =>
        split
        · rename_i x y hx'
          simp only [both]; rw [hargs x (by rw [hx']; simp), hargs y (by rw [hx']; simp)]
        · rfl
      case max =>
        split
        · rename_i x y hx'
          simp only [both]; rw [hargs x (by rw [hx']; simp), hargs y (by rw [hx']; simp)]
        · rfl

/-- What it takes to lay an operation of class 0 or 1 beside others. -/
theorem TrA.of {o : Oper} {v : V} (hc : cls o.op = 0 ∨ cls o.op = 1) (h : ∀ t' b1, (∀ i ∈ o.looksAt ops, t' i = t i) → (cls o.op = 0 ∨ b1 = b) → Tr E P n ops r m o t' b1 v b1) : TrA E P n ops r m o t b v b :=
  fun t' ht => ⟨fun h0 => ⟨rfl, fun b1 => h t' b1 ht (.inl h0)⟩, fun _ => rfl, h t' b ht (.inr rfl)⟩

variable {l : List Oper} {K : St → Prop} {ty : TypeId} {pos : String} {after : Array Edge} {i : Nat}

theorem pv_pure (hT : TabOk P T) (hZ : ZeroOk T) {o : Oper} {v : V} {s : St} (he : evP T n s o.op = some (true, v)) : Pv E P n o v s := fun g a w rel => evP_ok hT hZ rel he

theorem D.pure (hT : TabOk P T) (hZ : ZeroOk T) {op : Op} {ok : Bool} {v0 v : V} (hcl : Nat.blt (cls op) 2 = true) (he : evP T n ⟨t, b, r, m⟩ op = some (ok, v0)) (hok : ok = true) (hf : forceV v0 = some v)
    (k : WD E P n ops l K ⟨upd t i v, b, r, m⟩) : WD E P n ops (⟨some i, op, ty, pos, after, none⟩ :: l) K ⟨t, b, r, m⟩ := by
  obtain rfl := forceV_eq hf
  subst hok
  have hlt : cls op < 2 := by simpa [Nat.blt_eq] using hcl
  refine ⟨v0, b, .of (show cls op = 0 ∨ cls op = 1 by omega) (fun t' b1 ht hb => .of_run rfl (.of_pv (pv_pure hT hZ (o := ⟨some i, op, ty, pos, after, none⟩) ?_))), k⟩
  rw [← he]
  exact evP_congr op hb (fun x hx => looks_opd (o := ⟨some i, op, ty, pos, after, none⟩) (b := b) hx ht)

theorem D.pureG (hT : TabOk P T) (hZ : ZeroOk T) {op : Op} {ok c : Bool} {v0 v : V} {j : Nat} {want : Bool} (hcl : Nat.blt (cls op) 2 = true) (hg : guardV n ops t j want = some c)
    (he : evP T n ⟨bare t, b, r, m⟩ op = some (ok, v0)) (htg : allT c (tagsO t op.operands.toList)) (hok : c = true → ok = true) (hf : forceV v0 = some v)
    (k : WD E P n ops l K ⟨upd t i (.when c v), b, r, m⟩) : WD E P n ops (⟨some i, op, ty, pos, after, some (j, want)⟩ :: l) K ⟨t, b, r, m⟩ := by
  obtain rfl := forceV_eq hf
  have hlt : cls op < 2 := by simpa [Nat.blt_eq] using hcl
  refine ⟨.when c v0, b, .of (show cls op = 0 ∨ cls op = 1 by omega) (fun t' b1 ht hb => .of_runG (o := ⟨some i, op, ty, pos, after, some (j, want)⟩) rfl ((looks_guard (o := ⟨some i, op, ty, pos, after, some (j, want)⟩) rfl ht).trans hg) (fun hc => .of_pv (pv_pure hT hZ ?_))), k⟩
  have h1 := allT_mem htg hc
  rw [← tags_looks (o := ⟨some i, op, ty, pos, after, some (j, want)⟩) ht op.operands.toList (fun x hx => hx)] at h1
  rw [← hok hc, ← he]
  refine (evP_bare op h1).trans ?_
  exact evP_congr op hb (fun x hx => looks_opd (o := ⟨some i, op, ty, pos, after, some (j, want)⟩) (b := b) hx (bare_looks ht))

theorem pv_and {c a : Operand} {x y : Bool} {o : Oper} (ho : o.op = .pick c a (.const (.bool false))) (hc : opd n ⟨t, b, r, m⟩ c = (true, .one (.d (.bool x)))) (ha : opd n ⟨bare t, b, r, m⟩ a = (true, .one (.d (.bool y))))
    (ht : allT x (tagsO t [a])) : Pv E P n o (.one (.d (.bool (x && y)))) ⟨t, b, r, m⟩ := by
  intro g a' w rel
  have hv := opd_ok rel hc rfl
  generalize hz : a'.eval c = z at hv
  cases hv with | one _ _ q => cases q with | d _ _ q => cases q with | bool =>
  cases x with
  | true =>
    rw [← opd_bare (allT_mem ht rfl)] at ha
    have hv2 := opd_ok rel ha rfl
    refine ⟨a'.eval a, ?_, by simpa using hv2⟩
    simp only [execOp, ho, Sem.run_bind, hz, asBool, Sem.run_pure, Result.andThen_ok]
    rfl
  | false =>
    refine ⟨.bool false, ?_, .one _ _ (.d _ _ (.bool _))⟩
    simp only [execOp, ho, Sem.run_bind, hz, asBool, Sem.run_pure, Result.andThen_ok]
    rfl

theorem pv_or {c a : Operand} {x y : Bool} {o : Oper} (ho : o.op = .pick c (.const (.bool true)) a) (hc : opd n ⟨t, b, r, m⟩ c = (true, .one (.d (.bool x)))) (ha : opd n ⟨bare t, b, r, m⟩ a = (true, .one (.d (.bool y))))
    (ht : allT (!x) (tagsO t [a])) : Pv E P n o (.one (.d (.bool (x || y)))) ⟨t, b, r, m⟩ := by
  intro g a' w rel
  have hv := opd_ok rel hc rfl
  generalize hz : a'.eval c = z at hv
  cases hv with | one _ _ q => cases q with | d _ _ q => cases q with | bool =>
  cases x with
  | false =>
    rw [← opd_bare (allT_mem ht rfl)] at ha
    have hv2 := opd_ok rel ha rfl
    refine ⟨a'.eval a, ?_, by simpa using hv2⟩
    simp only [execOp, ho, Sem.run_bind, hz, asBool, Sem.run_pure, Result.andThen_ok]
    rfl
  | true =>
    refine ⟨.bool true, ?_, .one _ _ (.d _ _ (.bool _))⟩
    simp only [execOp, ho, Sem.run_bind, hz, asBool, Sem.run_pure, Result.andThen_ok]
    rfl

theorem D.pickAnd (hT : TabOk P T) (hZ : ZeroOk T) {c a : Operand} {x y : Bool} (hc : opd n ⟨t, b, r, m⟩ c = (true, .one (.d (.bool x)))) (ha : opd n ⟨bare t, b, r, m⟩ a = (true, .one (.d (.bool y))))
    (htg : allT x (tagsO t [a])) (k : WD E P n ops l K ⟨upd t i (.one (.d (.bool (x && y)))), b, r, m⟩) :
    WD E P n ops (⟨some i, .pick c a (.const (.bool false)), ty, pos, after, none⟩ :: l) K ⟨t, b, r, m⟩ := by
  obtain ⟨o, ho⟩ : ∃ o : Oper, o = ⟨some i, .pick c a (.const (.bool false)), ty, pos, after, none⟩ := ⟨_, rfl⟩
  rw [← ho]
  have hop : o.op = .pick c a (.const (.bool false)) := by rw [ho]
  have m1 : c ∈ o.op.operands.toList := by rw [hop]; simp [Op.operands]
  have m2 : a ∈ o.op.operands.toList := by rw [hop]; simp [Op.operands]
  refine ⟨.one (.d (.bool (x && y))), b, .of (.inl (by rw [hop]; rfl)) (fun t' b1 ht hb => .of_run (by rw [ho]) (.of_pv (pv_and hop ?_ ?_ ?_))), by rw [ho]; exact k⟩
  · rw [looks_opd (b := b) m1 ht]; exact hc
  · rw [looks_opd (b := b) m2 (bare_looks ht)]; exact ha
  · rw [tags_looks ht [a] (fun q hq => by simp at hq; subst hq; exact m2)]; exact htg
theorem D.pickOr (hT : TabOk P T) (hZ : ZeroOk T) {c a : Operand} {x y : Bool} (hc : opd n ⟨t, b, r, m⟩ c = (true, .one (.d (.bool x)))) (ha : opd n ⟨bare t, b, r, m⟩ a = (true, .one (.d (.bool y))))
    (htg : allT (!x) (tagsO t [a])) (k : WD E P n ops l K ⟨upd t i (.one (.d (.bool (x || y)))), b, r, m⟩) :
    WD E P n ops (⟨some i, .pick c (.const (.bool true)) a, ty, pos, after, none⟩ :: l) K ⟨t, b, r, m⟩ := by
  obtain ⟨o, ho⟩ : ∃ o : Oper, o = ⟨some i, .pick c (.const (.bool true)) a, ty, pos, after, none⟩ := ⟨_, rfl⟩
  rw [← ho]
  have hop : o.op = .pick c (.const (.bool true)) a := by rw [ho]
  have m1 : c ∈ o.op.operands.toList := by rw [hop]; simp [Op.operands]
  have m2 : a ∈ o.op.operands.toList := by rw [hop]; simp [Op.operands]
  refine ⟨.one (.d (.bool (x || y))), b, .of (.inl (by rw [hop]; rfl)) (fun t' b1 ht hb => .of_run (by rw [ho]) (.of_pv (pv_or hop ?_ ?_ ?_))), by rw [ho]; exact k⟩
  · rw [looks_opd (b := b) m1 ht]; exact hc
  · rw [looks_opd (b := b) m2 (bare_looks ht)]; exact ha
  · rw [tags_looks ht [a] (fun q hq => by simp at hq; subst hq; exact m2)]; exact htg

theorem D.pickAndG (hT : TabOk P T) (hZ : ZeroOk T) {c a : Operand} {x y gd : Bool} {j : Nat} {want : Bool} (hg : guardV n ops t j want = some gd) (hc : opd n ⟨bare t, b, r, m⟩ c = (true, .one (.d (.bool x))))
    (ha : opd n ⟨bare t, b, r, m⟩ a = (true, .one (.d (.bool y)))) (hct : allT gd (tagsO t [c])) (htg : allT (gd && x) (tagsO t [a]))
    (k : WD E P n ops l K ⟨upd t i (.when gd (.one (.d (.bool (x && y))))), b, r, m⟩) :
    WD E P n ops (⟨some i, .pick c a (.const (.bool false)), ty, pos, after, some (j, want)⟩ :: l) K ⟨t, b, r, m⟩ := by
  obtain ⟨o, ho⟩ : ∃ o : Oper, o = ⟨some i, .pick c a (.const (.bool false)), ty, pos, after, some (j, want)⟩ := ⟨_, rfl⟩
  rw [← ho]
  have hop : o.op = .pick c a (.const (.bool false)) := by rw [ho]
  have hgo : o.guard = some (j, want) := by rw [ho]
  have m1 : c ∈ o.op.operands.toList := by rw [hop]; simp [Op.operands]
  have m2 : a ∈ o.op.operands.toList := by rw [hop]; simp [Op.operands]
  refine ⟨.when gd (.one (.d (.bool (x && y)))), b, .of (.inl (by rw [hop]; rfl)) (fun t' b1 ht hb => .of_runG hgo ((looks_guard hgo ht).trans hg) (fun hgd => .of_pv (pv_and hop ?_ ?_ ?_))), by rw [ho]; exact k⟩
  · have h1 := allT_mem hct hgd
    rw [← tags_looks ht [c] (fun q hq => by simp at hq; subst hq; exact m1)] at h1
    rw [opd_bare h1, looks_opd (b := b) m1 (bare_looks ht)]; exact hc
  · rw [looks_opd (b := b) m2 (bare_looks ht)]; exact ha
  · rw [tags_looks ht [a] (fun q hq => by simp at hq; subst hq; exact m2)]; simpa [hgd] using htg
theorem D.pickOrG (hT : TabOk P T) (hZ : ZeroOk T) {c a : Operand} {x y gd : Bool} {j : Nat} {want : Bool} (hg : guardV n ops t j want = some gd) (hc : opd n ⟨bare t, b, r, m⟩ c = (true, .one (.d (.bool x))))
    (ha : opd n ⟨bare t, b, r, m⟩ a = (true, .one (.d (.bool y)))) (hct : allT gd (tagsO t [c])) (htg : allT (gd && !x) (tagsO t [a]))
    (k : WD E P n ops l K ⟨upd t i (.when gd (.one (.d (.bool (x || y))))), b, r, m⟩) :
    WD E P n ops (⟨some i, .pick c (.const (.bool true)) a, ty, pos, after, some (j, want)⟩ :: l) K ⟨t, b, r, m⟩ := by
  obtain ⟨o, ho⟩ : ∃ o : Oper, o = ⟨some i, .pick c (.const (.bool true)) a, ty, pos, after, some (j, want)⟩ := ⟨_, rfl⟩
  rw [← ho]
  have hop : o.op = .pick c (.const (.bool true)) a := by rw [ho]
  have hgo : o.guard = some (j, want) := by rw [ho]
  have m1 : c ∈ o.op.operands.toList := by rw [hop]; simp [Op.operands]
  have m2 : a ∈ o.op.operands.toList := by rw [hop]; simp [Op.operands]
  refine ⟨.when gd (.one (.d (.bool (x || y)))), b, .of (.inl (by rw [hop]; rfl)) (fun t' b1 ht hb => .of_runG hgo ((looks_guard hgo ht).trans hg) (fun hgd => .of_pv (pv_or hop ?_ ?_ ?_))), by rw [ho]; exact k⟩
  · have h1 := allT_mem hct hgd
    rw [← tags_looks ht [c] (fun q hq => by simp at hq; subst hq; exact m1)] at h1
    rw [opd_bare h1, looks_opd (b := b) m1 (bare_looks ht)]; exact hc
  · rw [looks_opd (b := b) m2 (bare_looks ht)]; exact ha
  · rw [tags_looks ht [a] (fun q hq => by simp at hq; subst hq; exact m2)]; simpa [hgd] using htg

/-! ### Calls -/
theorem run_call {o : Oper} {fo : Operand} {args : Array Operand} {ats : Array TypeId} (ho : o.op = .call { callee := .value fo, args, argTypes := ats }) {u : V} {f : FuncId} {caps : List C} {us : List V} {rv : V}
    (hu : opd n ⟨t, b, r, m⟩ fo = (true, u)) (hc : calleeV u = some (f, caps)) (ha : allOpdL n ⟨t, b, r, m⟩ args.toList = (true, us)) (hp : pureVs (us ++ caps.map V.one) = true) (pc : PureCall P J f (us ++ caps.map V.one) rv) :
    RunV E P n o t b r m rv b := by
  intro g a w rel next Q hn
  obtain ⟨fn, hf, h1, h2⟩ := pc.enter
  obtain ⟨vs, hl, hx, hrun⟩ := call_run rel ho hu hc hf h1 h2
  obtain ⟨hal, hav⟩ := allOpdL_ok rel _ _ _ ha rfl
  have hall := capsV_ok (us := us) (caps := caps) (ws := args.toList.map a.eval) (vs := vs) (by simp [hal]) hav hl hx
  have hcall := pc.calls g.im w (args.toList.map a.eval ++ vs) (J.st _ _ E.hI rel.below) rel.imlt (by simp [hal, hl]) (fun i u v h3 h4 => (hall i u v h3 h4).pure (noGh g.im) noSh (show (noGh g.im).im = g.im from rfl) (pureVs_get hp i u h3))
  unfold Oper.wp
  rw [hrun]
  show Calls P f _ w _
  refine hcall.mono ?_
  rintro e w' ⟨v, im', rfl, hb, hi1, hi2, hi3, hv⟩
  exact hn v _ w' (fun t1 a1 h => h.later im' hb hi1 hi2 hi3) (hv.mono (.fromNo im' w' _ _ rfl))

theorem D.call {fo : Operand} {args : Array Operand} {ats : Array TypeId} {u : V} {f : FuncId} {caps : List C} {us ws : List V} {rv : V} (hu : opd n ⟨t, b, r, m⟩ fo = (true, u)) (hc : calleeV u = some (f, caps))
    (ha : allOpdL n ⟨t, b, r, m⟩ args.toList = (true, us)) (hw : forceVs (appL us (caps.map V.one)) = some ws) (hp : pureVs ws = true) (pc : PureCall P J f ws rv)
    (k : WD E P n ops l K ⟨upd t i rv, b, r, m⟩) : WD E P n ops (⟨some i, .call ⟨.value fo, args, ats⟩, ty, pos, after, none⟩ :: l) K ⟨t, b, r, m⟩ := by
  obtain rfl := forceVs_eq hw
  rw [appL_eq] at hp pc
  obtain ⟨o, ho⟩ : ∃ o : Oper, o = ⟨some i, .call ⟨.value fo, args, ats⟩, ty, pos, after, none⟩ := ⟨_, rfl⟩
  rw [← ho]
  have hop : o.op = .call ⟨.value fo, args, ats⟩ := by rw [ho]
  have hm : o.op.operands.toList = fo :: args.toList := by rw [hop]; simp [Op.operands, Call.operands]
  refine ⟨rv, b, .of (.inl (by rw [hop]; rfl)) (fun t' b1 ht hb => .of_run (by rw [ho]) (run_call hop (u := u) ?_ hc ?_ hp pc)), by rw [ho]; exact k⟩
  · rw [looks_opd (b := b) (by rw [hm]; simp) ht]; exact hu
  · rw [← ha]; exact allOpdL_congr _ (fun p hp => looks_opd (b := b) (by rw [hm]; exact List.mem_cons_of_mem _ hp) ht)

theorem D.callG {fo : Operand} {args : Array Operand} {ats : Array TypeId} {u : V} {f : FuncId} {caps : List C} {us ws : List V} {rv : V} {j : Nat} {want c : Bool} (hg : guardV n ops t j want = some c)
    (hu : opd n ⟨bare t, b, r, m⟩ fo = (true, u)) (hc : calleeV u = some (f, caps)) (ha : allOpdL n ⟨bare t, b, r, m⟩ args.toList = (true, us)) (htg : allT c (tagsO t (fo :: args.toList)))
    (hw : forceVs (appL us (caps.map V.one)) = some ws) (hp : pureVs ws = true) (pc : c = true → PureCall P J f ws rv)
    (k : WD E P n ops l K ⟨upd t i (.when c rv), b, r, m⟩) : WD E P n ops (⟨some i, .call ⟨.value fo, args, ats⟩, ty, pos, after, some (j, want)⟩ :: l) K ⟨t, b, r, m⟩ := by
  obtain rfl := forceVs_eq hw
  rw [appL_eq] at hp pc
  obtain ⟨o, ho⟩ : ∃ o : Oper, o = ⟨some i, .call ⟨.value fo, args, ats⟩, ty, pos, after, some (j, want)⟩ := ⟨_, rfl⟩
  rw [← ho]
  have hop : o.op = .call ⟨.value fo, args, ats⟩ := by rw [ho]
  have hgo : o.guard = some (j, want) := by rw [ho]
  have hm : o.op.operands.toList = fo :: args.toList := by rw [hop]; simp [Op.operands, Call.operands]
  refine ⟨.when c rv, b, .of (.inl (by rw [hop]; rfl)) (fun t' b1 ht hb => .of_runG hgo ((looks_guard hgo ht).trans hg) (fun hct => run_call hop (u := u) ?_ hc ?_ hp (pc hct))), by rw [ho]; exact k⟩
  all_goals
    have h1 := allT_mem htg hct
    rw [← tags_looks ht (fo :: args.toList) (fun q hq => by rw [hm]; exact hq)] at h1
  · rw [opds_bare h1 (List.mem_cons_self ..), looks_opd (b := b) (by rw [hm]; simp) (bare_looks ht)]; exact hu
  · rw [← ha]
    exact allOpdL_congr _ (fun p hp => (opds_bare h1 (List.mem_cons_of_mem _ hp)).trans (looks_opd (b := b) (by rw [hm]; exact List.mem_cons_of_mem _ hp) (bare_looks ht)))

/-! ### New slices -/
theorem run_slice (hT : TabOk P T) {o : Oper} {te : TypeId} {len sz : Nat} {parts : Array (Nat × Operand)} {us : List (Nat × V)} {xs : List (List D)} (ho : o.op = .buildSlice te len parts)
    (hp : allOpd n ⟨t, b, r, m⟩ parts.toList = (true, us)) (hx : evBS T te len us = some (sz, xs)) : RunV E P n o t b r m (.one (.d (.vec sz xs))) b := by
  intro g a w rel next Q hn
  obtain ⟨hl, hpv⟩ := allOpd_ok rel _ _ _ hp rfl
  unfold evBS at hx
  split at hx
  · rename_i e _ _ _ _ ht
    split at hx
    · rename_i j hj
      split at hx
      · rename_i z hz
        split at hx
        · rename_i hc
          split at hx
          · rename_i out hf
            split at hx
            · rename_i ds hds
              split at hx
              · rename_i hlen
                obtain ⟨rfl, rfl⟩ : j.size = sz ∧ chunk j.size len ds = xs := by simpa using hx
                have hout := allDs_eq hds
                obtain ⟨zs, q1, q2, q3⟩ := zeroCells_ok (h := (⟨t, b, r, m⟩ : St).sh) hz (len * j.size) hc.2 g w
                have hjunk : ∀ (i : Nat) (c : C) (v : Value), (List.replicate (len * j.size) C.junk)[i]? = some c → zs[i]? = some v → RC g (⟨t, b, r, m⟩ : St).sh w c v := fun i c v h1 h2 => by
                  rw [List.getElem?_replicate] at h1
                  split at h1
                  · rename_i hi
                    cases h1
                    refine .junk _ (q3 ?_ v (List.mem_of_getElem? h2))
                    rcases Nat.eq_zero_or_pos j.size with h0 | h0
                    · rw [h0, Nat.mul_zero] at hi; omega
                    · exact h0
                  · cases h1
                obtain ⟨vs, f1, f2, f3⟩ := fillC_ok (h := (⟨t, b, r, m⟩ : St).sh) (fun i => some (i * j.size, j.size)) us (parts.toList.map fun (i, x) => (i, a.eval x)) _ out zs (by simp [hl]) hpv (by simp [q2]) hjunk hf
                have e1 : (parts.map fun (i, x) => (i, a.eval x)) = (parts.toList.map fun (i, x) => (i, a.eval x)).toArray := Array.toList_inj.1 (by simp)
                have hrun : (execOp a.eval o).run P w = .ok (.value (.slice (some ⟨w.heap.size, 0, none⟩) len len)) (w.alloc (.cells vs.toArray e)) := by
                  have := run_buildSlice (w := w) (pv := parts.map fun (i, x) => (i, a.eval x)) (len := len) hT ht rfl hj (by have := hc.1; omega) q1 (by rw [e1]; simpa using f1)
                  simp only [execOp, ho, Sem.run_bind, this, Result.andThen_ok, Sem.run_pure]
                unfold Oper.wp
                rw [hrun]
                have hsz : (w.alloc (.cells vs.toArray e)).heap.size = w.heap.size + 1 := by simp
                have hb : Below w.heap.size w (w.alloc (.cells vs.toArray e)) := (Below.refl _ _).alloc (Nat.le_refl _) _
                have hlater : ∀ t1 a1, Rel E n g ⟨t1, b, r, m⟩ a1 w → Rel E n { g with im := fun b => g.im b ∨ b = w.heap.size } ⟨t1, b, r, m⟩ a1 (w.alloc (.cells vs.toArray e)) := fun t1 a1 h =>
                  h.later (fun b => g.im b ∨ b = w.heap.size) hb (fun b h => .inl h) (fun b h => by rw [hsz]; rcases h with h | rfl; exact Nat.lt_succ_of_lt (rel.imlt b h); exact Nat.lt_succ_self _) (fun b h => h.elim .inl (fun h => .inr (by omega)))
                obtain ⟨g', hr⟩ := rel.newRow (some n) (sz := j.size) (len := len) (ds := ds) (us := vs) (t := e) hlen (by rw [f2, hout]; simp) (by rw [← hout]; exact f3)
                refine hn _ _ _ hlater ?_
                -- the value, once more
                have hnew : (w.alloc (.cells vs.toArray e)).heap[w.heap.size]? = some (.cells vs.toArray e (0, 0)) := by show (w.heap.push _)[w.heap.size]? = _; simp
                have hrd : ∀ (i : Nat) (x : D) (v : Value), ds[i]? = some x → vs[i]? = some v → RD (fun b => g.im b ∨ b = w.heap.size) (w.alloc (.cells vs.toArray e)) x v := fun i x v h1 h2 => by
                  have := f3 i (.d x) v (by rw [hout]; simp [h1]) h2
                  cases this with | d _ _ q => exact q.mono (fun b h => .inl h) (fun b h => hb.block b (rel.imlt b h))
                refine .one _ _ (.d _ _ ?_)
                by_cases hz0 : len = 0
                · subst hz0; exact .empty _ _ _
                · have hcl := chunk_length j.size len ds
                  have hvl : vs.length = ds.length := by rw [f2, hout]; simp
                  have := RD.vec (im := fun b => g.im b ∨ b = w.heap.size) (w := w.alloc (.cells vs.toArray e)) j.size (chunk j.size len ds) w.heap.size 0 len (fun i k => vs.getD (i * j.size + k) undef)
                    (fun h => by rw [h] at hcl; simp at hcl; omega) (by omega) (.inr rfl) (chunk_sz j.size len ds hlen) (fun i k x d h1 h2 => ?_) (fun i k x d h1 h2 => ?_)
                  · rw [hcl] at this; exact this
                  · have h3 := chunk_get j.size len ds i k x d h1 h2
                    have h4 := (List.getElem?_eq_some_iff.1 h3).1
                    have h5 : vs[i * j.size + k]? = some vs[i * j.size + k] := List.getElem?_eq_getElem (by omega)
                    simp only [World.cell?, hnew, Nat.zero_add, Option.isSome_none, Bool.false_eq_true, if_false, List.getElem?_toArray, List.getD_eq_getElem?_getD, h5, Option.getD_some]
                  · have h3 := chunk_get j.size len ds i k x d h1 h2
                    have h4 := (List.getElem?_eq_some_iff.1 h3).1
                    have h5 : vs[i * j.size + k]? = some vs[i * j.size + k] := List.getElem?_eq_getElem (by omega)
                    rw [List.getD_eq_getElem?_getD, h5]
                    exact hrd _ _ _ h3 h5
              · cases hx
            · cases hx
          · cases hx
        · cases hx
      · cases hx
    · cases hx
  · cases hx

theorem D.slice (hT : TabOk P T) {te : TypeId} {len sz : Nat} {parts : Array (Nat × Operand)} {us : List (Nat × V)} {xs : List (List D)} (hp : allOpd n ⟨t, b, r, m⟩ parts.toList = (true, us)) (hx : evBS T te len us = some (sz, xs))
    (k : WD E P n ops l K ⟨upd t i (.one (.d (.vec sz xs))), b, r, m⟩) : WD E P n ops (⟨some i, .buildSlice te len parts, ty, pos, after, none⟩ :: l) K ⟨t, b, r, m⟩ := by
  obtain ⟨o, ho⟩ : ∃ o : Oper, o = ⟨some i, .buildSlice te len parts, ty, pos, after, none⟩ := ⟨_, rfl⟩
  rw [← ho]
  have hop : o.op = .buildSlice te len parts := by rw [ho]
  refine ⟨.one (.d (.vec sz xs)), b, .of (.inl (by rw [hop]; rfl)) (fun t' b1 ht hb => .of_run (by rw [ho]) (run_slice hT hop ?_ hx)), by rw [ho]; exact k⟩
  rw [← hp]
  exact allOpd_congr _ (fun p hp => looks_opd (b := b) (by rw [hop]; simp only [Op.operands, List.mem_map]; exact ⟨p, hp, rfl⟩) ht)

/-! ### A store -/
theorem D.store (hT : TabOk P T) {te : TypeId} {ti : TI} {x y : Operand} {lo off : Nat} {v : V} {cs ds cs' : List C} {b' : List (List C)} (hi : T te = some ti) (hx : opd n ⟨t, b, r, m⟩ x = (true, .one (.ptr lo off)))
    (hy : opd n ⟨t, b, r, m⟩ y = (true, v)) (hv : cellsOfV v = some ds) (hb : b[lo]? = some cs) (hs : (Nat.beq ds.length ti.size && Nat.ble (off + ds.length) cs.length) = true)
    (hf : forceL (putCells cs off ds) = some cs') (hb' : forceL (b.set lo cs') = some b')
    (k : WD E P n ops l K ⟨t, b', r, m⟩) : WD E P n ops (⟨none, .store te x y, ty, pos, after, none⟩ :: l) K ⟨t, b, r, m⟩ := by
  obtain rfl := forceL_eq hf
  obtain rfl := forceL_eq hb'
  simp only [Bool.and_eq_true] at hs
  have hs1 := Nat.eq_of_beq_eq_true hs.1
  have hs2 := Nat.le_of_ble_eq_true hs.2
  obtain ⟨o, ho⟩ : ∃ o : Oper, o = ⟨none, .store te x y, ty, pos, after, none⟩ := ⟨_, rfl⟩
  rw [← ho]
  have hop : o.op = .store te x y := by rw [ho]
  have hgo : o.guard = none := by rw [ho]
  have hdo : o.dst = none := by rw [ho]
  refine ⟨.junk, b.set lo (putCells cs off ds), fun t' ht => ⟨fun h0 => by rw [hop] at h0; simp [cls] at h0, fun h0 => by rw [hop] at h0; simp [cls] at h0, .of_run hgo ?_⟩, by rw [hdo]; exact k⟩
  have hx' : opd n ⟨t', b, r, m⟩ x = (true, .one (.ptr lo off)) := by rw [looks_opd (b := b) (o := o) (by rw [hop]; simp [Op.operands]) ht]; exact hx
  have hy' : opd n ⟨t', b, r, m⟩ y = (true, v) := by rw [looks_opd (b := b) (o := o) (by rw [hop]; simp [Op.operands]) ht]; exact hy
  intro g a w rel next Q hn
  obtain ⟨us, h1, h2, h3, h4⟩ := cellsOf_ok hv (opd_ok rel hy' rfl)
  have hp := opd_ok rel hx' rfl
  generalize hz : a.eval x = z at hp
  cases hp with | one _ _ hp => cases hp with | ptr _ _ hl =>
  obtain ⟨vs, tyy, q1, q2, q3⟩ := rel.heap.box lo cs hb
  obtain ⟨vs, rfl⟩ : ∃ l : List Value, vs = l.toArray := ⟨vs.toList, by simp⟩
  have hrun : (execOp a.eval o).run P w = .ok .skip { w with heap := w.heap.setIfInBounds (g.at_ (.b lo)) (.cells (vs.take off ++ us ++ vs.drop (off + us.length)).toArray tyy (0, 0)) } := by
    have hst := storeCells_run (P := P) us off w vs.toArray q1 (by simp at q2 ⊢; omega) h4 off (Nat.le_refl _)
    simp only [Nat.sub_self] at hst
    have hsz : us.toArray.size = ti.size := by simp [h2, hs1]
    simp only [execOp, hop, Instr.storeAt, hz, Instr.sureAddr, storeVar, Sem.run_bind, Sem.run_pure, Result.andThen_ok, run_sizeOf' hT hi, h1, hsz, ne_eq, not_true_eq_false, if_false, hst]
  unfold Oper.wp
  rw [hrun]
  refine hn undef g _ (fun t1 a1 h => ?_) (.junk _)
  exact h.store (l := lo) (off := off) (cs := cs) (ds := ds) (vs := vs) (us := us) hb h2 hs2 q1 (by simpa using q2) h3 none .junk undef (.junk _)

theorem WD.nil {ops : Array Oper} {K : St → Prop} {s : St} (h : K s) : WD E P n ops [] K s := h

end
end Go.Proofs.YtepdjimbnbiicaaGreatDoor
