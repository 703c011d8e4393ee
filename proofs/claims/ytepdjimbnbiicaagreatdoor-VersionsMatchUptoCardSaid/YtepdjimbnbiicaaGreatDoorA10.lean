/- The abstract layer, part 10: regions that draw their order: the text's order serves every order. -/
import Derived.Test.YtepdjimbnbiicaaGreatDoorA9
import Derived.Still
set_option linter.unusedVariables false
set_option linter.unusedSimpArgs false
set_option linter.unnecessarySimpa false
namespace Go.Proofs.YtepdjimbnbiicaaGreatDoor
open Go Go.RowKit

def updO (t : Nat → V) : Option Nat → V → Nat → V
  | some d, v => upd t d v
  | none, _ => t

/-- 0: looks at temporaries alone; 1: reads boxes; 2: writes them. -/
def cls : Op → Nat
  | .load _ _ => 1
  | .store _ _ _ | .alloc _ | .box _ _ | .mapUpdate _ _ _ _ | .lookup _ _ _ _ => 2
  | _ => 0
def compat (i j : Nat) : Bool := Nat.beq i 0 || Nat.beq j 0 || (Nat.beq i 1 && Nat.beq j 1)

section
variable {J : Inv} {E : Env J} {P : Program} {T : TypeId → Option TI} {n : Nat} {r : List (Option RowO)} {m : List (List (DV × DV))} {ops : Array Oper} {md : Region.Mode}

/-- An operation, from state to state. -/
def Tr {J : Inv} (E : Env J) (P : Program) (n : Nat) (ops : Array Oper) (r : List (Option RowO)) (m : List (List (DV × DV))) (o : Oper) (t : Nat → V) (b : List (List C)) (v : V) (b' : List (List C)) : Prop :=
  ∀ g a w, Rel E n g ⟨t, b, r, m⟩ a w → ∀ (next : Act → World → Prop) (Q : Exit → Act → World → Prop),
    (∀ z g' w', (∀ t1 a1, Rel E n g ⟨t1, b, r, m⟩ a1 w → Rel E n g' ⟨t1, b', r, m⟩ a1 w') → RV g' (⟨t, b', r, m⟩ : St).sh w' v z → next (a.put o.dst z) w') →
    if Region.wanted o (yielded ops a.tmps) then o.wp P a w next Q else next (a.put o.dst undef) w

/-- Whatever stands in the temporaries that it doesn't look at. -/
def TrA {J : Inv} (E : Env J) (P : Program) (n : Nat) (ops : Array Oper) (r : List (Option RowO)) (m : List (List (DV × DV))) (o : Oper) (t : Nat → V) (b : List (List C)) (v : V) (b' : List (List C)) : Prop :=
  ∀ t', (∀ i ∈ o.looksAt ops, t' i = t i) → (cls o.op = 0 → b' = b ∧ ∀ b1, Tr E P n ops r m o t' b1 v b1) ∧ (cls o.op = 1 → b' = b) ∧ Tr E P n ops r m o t' b v b'

theorem TrA.agree {o : Oper} {t t2 : Nat → V} {b b' : List (List C)} {v : V} (h : TrA E P n ops r m o t b v b') (ht : ∀ i ∈ o.looksAt ops, t2 i = t i) : TrA E P n ops r m o t2 b v b' :=
  fun t' h' => h t' (fun i hi => (h' i hi).trans (ht i hi))

theorem updO_ne {t : Nat → V} {d : Option Nat} {v : V} {i : Nat} (h : ∀ k, d = some k → k ≠ i) : updO t d v i = t i := by
  cases d with
  | none => rfl
  | some k => exact upd_ne _ _ (h k rfl)
theorem upd_comm (t : Nat → V) {i j : Nat} (v u : V) (h : i ≠ j) : upd (upd t i v) j u = upd (upd t j u) i v := by
  funext k
  by_cases hi : i = k
  · subst hi; rw [upd_ne _ _ (Ne.symm h), upd_same, upd_same]
  · by_cases hj : j = k
    · subst hj; rw [upd_same, upd_ne _ _ hi, upd_same]
    · rw [upd_ne _ _ hj, upd_ne _ _ hi, upd_ne _ _ hi, upd_ne _ _ hj]
theorem updO_comm (t : Nat → V) {x y : Option Nat} (v u : V) (h : ∀ d, x = some d → y ≠ some d) : updO (updO t x v) y u = updO (updO t y u) x v := by
  cases x with
  | none => rfl
  | some d => cases y with
    | none => rfl
    | some e => exact upd_comm t v u (fun he => h d rfl (by rw [he]))

theorem Tr.rel {o : Oper} {t : Nat → V} {b b' : List (List C)} {v : V} {g g' : Gh} {a : Act} {w w' : World} {z : Value} (rel : Rel E n g ⟨t, b, r, m⟩ a w)
    (hl : ∀ t1 a1, Rel E n g ⟨t1, b, r, m⟩ a1 w → Rel E n g' ⟨t1, b', r, m⟩ a1 w') (hv : RV g' (⟨t, b', r, m⟩ : St).sh w' v z) : Rel E n g' ⟨updO t o.dst v, b', r, m⟩ (a.put o.dst z) w' := by
  have h := (hl t a rel).put_same o.dst (u := v) (v := z) hv
  cases hd : o.dst with
  | none => rw [hd] at h; exact h
  | some d => rw [hd] at h; exact h

/-- Operation number i. -/
def qD {J : Inv} (E : Env J) (P : Program) (n : Nat) (ops : Array Oper) (r : List (Option RowO)) (m : List (List (DV × DV))) (i : Nat) (K : (Nat → V) → List (List C) → Prop) (t : Nat → V) (b : List (List C)) : Prop :=
  match ops[i]? with
  | none => K t b
  | some o => ∃ v b', TrA E P n ops r m o t b v b' ∧ K (updO t o.dst v) b'
theorem qD_mono {i : Nat} {K K' : (Nat → V) → List (List C) → Prop} {t : Nat → V} {b : List (List C)} (h : ∀ t b, K t b → K' t b) (hh : qD E P n ops r m i K t b) : qD E P n ops r m i K' t b := by
  unfold qD at *
  split
  · rename_i ho; simp only [ho] at hh; exact h _ _ hh
  · rename_i o ho; simp only [ho] at hh; obtain ⟨v, b', h1, h2⟩ := hh; exact ⟨v, b', h1, h _ _ h2⟩

/-- Whatever order is picked. -/
def AnyD {J : Inv} (E : Env J) (P : Program) (n : Nat) (md : Region.Mode) (ops : Array Oper) (r : List (Option RowO)) (m : List (List (DV × DV))) (K : (Nat → V) → List (List C) → Prop) : Nat → Array Bool → (Nat → V) → List (List C) → Prop
  | 0, listed, t, b => Region.ready md ops listed = [] ∧ K t b
  | fuel + 1, listed, t, b => (Region.ready md ops listed = [] → K t b) ∧
    ∀ i ∈ Region.ready md ops listed, qD E P n ops r m i (AnyD E P n md ops r m K fuel (listed.setIfInBounds i true)) t b

theorem wpAny_of_AnyD {K : (Nat → V) → List (List C) → Prop} {Q : Exit → Act → World → Prop} (hQ : ∀ t b g a w, K t b → Rel E n g ⟨t, b, r, m⟩ a w → Q .normal a w) :
    ∀ (fuel : Nat) (listed : Array Bool) (t : Nat → V) (b : List (List C)) (g : Gh) (a : Act) (w : World), Rel E n g ⟨t, b, r, m⟩ a w → AnyD E P n md ops r m K fuel listed t b → wpAny P md ops Q fuel listed a w
  | 0, listed, t, b, g, a, w, rel, h => ⟨h.1, hQ _ _ _ _ _ h.2 rel⟩
  | fuel + 1, listed, t, b, g, a, w, rel, h => by
    refine ⟨fun h0 => hQ _ _ _ _ _ (h.1 h0) rel, fun i hi => ?_⟩
    have hq := h.2 i hi
    unfold qD at hq
    unfold wpOp
    split
    · rename_i ho; simp only [ho] at hq; exact wpAny_of_AnyD hQ fuel _ t b g a w rel hq
    · rename_i o ho
      simp only [ho] at hq
      obtain ⟨v, b', h1, h2⟩ := hq
      have h3 := (h1 t (fun _ _ => rfl)).2.2 g a w rel (wpAny P md ops Q fuel (listed.setIfInBounds i true)) Q (fun z g' w' hl hv => wpAny_of_AnyD hQ fuel _ _ _ g' _ _ (Tr.rel rel hl hv) h2)
      split
      · rename_i hw; rw [if_pos hw] at h3; exact .inl h3
      · rename_i hw; rw [if_neg hw] at h3; exact h3

/-- Two operations side by side. -/
theorem swap {oi oj : Oper} {t : Nat → V} {b bi bij : List (List C)} {vi vj : V} (hap : oi.apart ops oj = true) (hc : compat (cls oi.op) (cls oj.op) = true) (hi : TrA E P n ops r m oi t b vi bi)
    (hj : TrA E P n ops r m oj (updO t oi.dst vi) bi vj bij) : ∃ bj, TrA E P n ops r m oj t b vj bj ∧ TrA E P n ops r m oi (updO t oj.dst vj) bj vi bij := by
  obtain ⟨h1, h2, h3⟩ := Oper.apart_spec hap
  have hj' : TrA E P n ops r m oj t bi vj bij := hj.agree fun k hk => (updO_ne fun d hd he => h1 d hd (he ▸ hk)).symm
  have hi' : TrA E P n ops r m oi (updO t oj.dst vj) b vi bi := hi.agree fun k hk => updO_ne fun d hd he => h3 d hd (he ▸ hk)
  have ci := hi t (fun _ _ => rfl)
  have cj := hj' t (fun _ _ => rfl)
  unfold compat at hc
  by_cases c1 : cls oi.op = 0
  · have e1 := (ci.1 c1).1
    subst e1
    refine ⟨bij, hj', fun t' ht' => ?_⟩
    have := hi' t' ht'
    exact ⟨fun _ => ⟨rfl, (this.1 c1).2⟩, fun _ => rfl, (this.1 c1).2 bij⟩
  · by_cases c2 : cls oj.op = 0
    · have e1 := (cj.1 c2).1
      subst e1
      refine ⟨b, fun t' ht' => ?_, hi'⟩
      have := hj' t' ht'
      exact ⟨fun _ => ⟨rfl, (this.1 c2).2⟩, fun _ => rfl, (this.1 c2).2 b⟩
    · have b1 : Nat.beq (cls oi.op) 0 = false := by cases h : Nat.beq (cls oi.op) 0 <;> simp_all
      have b2 : Nat.beq (cls oj.op) 0 = false := by cases h : Nat.beq (cls oj.op) 0 <;> simp_all
      rw [b1, b2] at hc
      simp only [Bool.false_or, Bool.and_eq_true] at hc
      have d1 : cls oi.op = 1 := Nat.eq_of_beq_eq_true hc.1
      have d2 : cls oj.op = 1 := Nat.eq_of_beq_eq_true hc.2
      have e1 := ci.2.1 d1
      subst e1
      have e2 := cj.2.1 d2
      subst e2
      exact ⟨_, hj', hi'⟩

/-- j waits for i, by others. -/
inductive DepOn (md : Region.Mode) (ops : Array Oper) : Nat → Nat → Prop where
  | direct (j i : Nat) (o : Oper) (e : Edge) (ho : ops[j]? = some o) (he : e ∈ o.after) (hb : Region.binds md e = true) (hi : e.on = i) : DepOn md ops j i
  | trans (j i : Nat) (o : Oper) (e : Edge) (ho : ops[j]? = some o) (he : e ∈ o.after) (hb : Region.binds md e = true) (h : DepOn md ops e.on i) : DepOn md ops j i

def Closed (md : Region.Mode) (ops : Array Oper) (listed : Array Bool) : Prop :=
  ∀ (j : Nat) (o : Oper) (e : Edge), ops[j]? = some o → listed.getD j false = true → e ∈ o.after → Region.binds md e = true → listed.getD e.on false = true

theorem dep_listed {listed : Array Bool} (hc : Closed md ops listed) {j i : Nat} (h : DepOn md ops j i) : listed.getD j false = true → listed.getD i false = true := by
  induction h with
  | direct j i o e ho he hb hi => intro hl; rw [← hi]; exact hc j o e ho hl he hb
  | trans j i o e ho he hb h ih => intro hl; exact ih (hc j o e ho hl he hb)

theorem dep_ready {listed : Array Bool} (hc : Closed md ops listed) {j i : Nat} (h : DepOn md ops j i) (hr : j ∈ Region.ready md ops listed) : listed.getD i false = true := by
  obtain ⟨_, o', ho', hall⟩ := mem_ready.1 hr
  cases h with
  | direct j i o e ho he hb hi =>
    rw [ho] at ho'; cases ho'
    rw [← hi]; exact hall e he hb
  | trans j i o e ho he hb h =>
    rw [ho] at ho'; cases ho'
    exact dep_listed hc h (hall e he hb)

theorem getD_set_eq {l : Array Bool} {i : Nat} (h : i < l.size) (d : Bool) : (l.setIfInBounds i true).getD i d = true := by
  simp [Array.getD_eq_getD_getElem?, Array.getElem?_setIfInBounds, h]

theorem closed_set {listed : Array Bool} (hc : Closed md ops listed) {i : Nat} (hr : i ∈ Region.ready md ops listed) : Closed md ops (listed.setIfInBounds i true) := by
  intro j o e ho hl he hb
  obtain ⟨hun, oi, hoi, hall⟩ := mem_ready.1 hr
  have key : listed.getD e.on false = true := by
    by_cases hji : i = j
    · subst hji; rw [hoi] at ho; cases ho; exact hall e he hb
    · rw [getD_set_ne false hji] at hl; exact hc j o e ho hl he hb
  by_cases hei : i = e.on
  · subst hei
    have hlt : e.on < listed.size := by
      rcases Nat.lt_or_ge e.on listed.size with h | h
      · exact h
      · simp [Array.getD_eq_getD_getElem?, Array.getElem?_eq_none h] at key
    exact getD_set_eq hlt false
  · rw [getD_set_ne false hei]; exact key

theorem anyD_first {K : (Nat → V) → List (List C) → Prop} {i : Nat} {oi : Oper} {vi : V} {bi : List (List C)} (hi : ops[i]? = some oi) :
    ∀ (fuel : Nat) (listed : Array Bool) (t : Nat → V) (b : List (List C)) (bi : List (List C)), Closed md ops listed →
      (∀ j oj, ops[j]? = some oj → j ≠ i → listed.getD j true = false → DepOn md ops j i ∨ (oi.apart ops oj = true ∧ compat (cls oi.op) (cls oj.op) = true)) →
      i ∈ Region.ready md ops listed → TrA E P n ops r m oi t b vi bi →
      AnyD E P n md ops r m K fuel (listed.setIfInBounds i true) (updO t oi.dst vi) bi → AnyD E P n md ops r m K (fuel + 1) listed t b := by
  intro fuel
  induction fuel with
  | zero =>
    intro listed t b bi hcl hfree hr hy H
    refine ⟨fun h => (by rw [h] at hr; cases hr), fun j hj => ?_⟩
    by_cases hji : j = i
    · subst hji; unfold qD; simp only [hi]; exact ⟨vi, bi, hy, H⟩
    · have := ready_mono hj hji
      rw [H.1] at this
      cases this
  | succ fuel ih =>
    intro listed t b bi hcl hfree hr hy H
    refine ⟨fun h => (by rw [h] at hr; cases hr), fun j hj => ?_⟩
    by_cases hji : j = i
    · subst hji; unfold qD; simp only [hi]; exact ⟨vi, bi, hy, H⟩
    · have h1 := H.2 j (ready_mono hj hji)
      obtain ⟨hjun, oj, hoj, hall⟩ := mem_ready.1 hj
      have hiun := (mem_ready.1 hr).1
      have hnd : ¬ DepOn md ops j i := fun hd => by
        have h2 := dep_ready hcl hd hj
        rcases Nat.lt_or_ge i listed.size with h' | h'
        · simp [h'] at hiun h2; rw [hiun] at h2; cases h2
        · simp [Array.getD_eq_getD_getElem?, Array.getElem?_eq_none h'] at h2
      obtain ⟨hap, hco⟩ := (hfree j oj hoj hji hjun).resolve_left hnd
      unfold qD at h1 ⊢
      simp only [hoj] at h1 ⊢
      obtain ⟨vj, bij, hyj, hK⟩ := h1
      obtain ⟨bj, k1, k2⟩ := swap hap hco hy hyj
      refine ⟨vj, bj, k1, ih (listed.setIfInBounds j true) _ bj bij (closed_set hcl hj) (fun k ok hk hki hun => hfree k ok hk hki ?_) (ready_mono hr (Ne.symm hji)) k2 ?_⟩
      · by_cases hjk : j = k
        · subst hjk; exact hjun
        · rwa [getD_set_ne true hjk] at hun
      · rw [Array.setIfInBounds_comm _ _ hji, ← updO_comm _ _ _ (Oper.apart_spec hap).2.1]
        exact hK

/-- The operations that are left, in the text's order. -/
def WD {J : Inv} (E : Env J) (P : Program) (n : Nat) (ops : Array Oper) : List Oper → (St → Prop) → St → Prop
  | [], K, s => K s
  | o :: l, K, s => ∃ v b', TrA E P n ops s.r s.m o s.t s.b v b' ∧ WD E P n ops l K ⟨updO s.t o.dst v, b', s.r, s.m⟩

def depB (md : Region.Mode) (ops : Array Oper) : Nat → Nat → Nat → Bool
  | 0, _, _ => false
  | f + 1, j, i => match ops[j]? with
    | some o => o.after.any fun e => Region.binds md e && (Nat.beq e.on i || depB md ops f e.on i)
    | none => false
theorem depB_dep : ∀ (f j i : Nat), depB md ops f j i = true → DepOn md ops j i
  | 0, j, i, h => by simp [depB] at h
  | f + 1, j, i, h => by
    unfold depB at h
    split at h
    · rename_i o ho
      obtain ⟨e, he, h2⟩ := Array.any_eq_true'.1 h
      simp only [Bool.and_eq_true, Bool.or_eq_true] at h2
      rcases h2.2 with h3 | h3
      · exact .direct j i o e ho he h2.1 (Nat.eq_of_beq_eq_true h3)
      · exact .trans j i o e ho he h2.1 (depB_dep f _ _ h3)
    · cases h

def freeD (md : Region.Mode) (ops : Array Oper) (listed : Array Bool) (i : Nat) : Bool :=
  match ops[i]? with
  | some oi => (List.range ops.size).all fun j => match ops[j]? with
    | some oj => Nat.beq j i || listed.getD j true || depB md ops ops.size j i || (oi.apart ops oj && compat (cls oi.op) (cls oj.op))
    | none => true
  | none => false
def lexD (md : Region.Mode) (ops : Array Oper) : Nat → Nat → Array Bool → Bool
  | 0, _, listed => (Region.ready md ops listed).isEmpty
  | f + 1, k, listed => (Region.ready md ops listed).contains k && freeD md ops listed k && lexD md ops f (k + 1) (listed.setIfInBounds k true)
def lexOk (ops : Array Oper) : Bool := lexD .any ops ops.size 0 (Array.replicate ops.size false)

theorem freeD_spec {listed : Array Bool} {i : Nat} {oi : Oper} (hi : ops[i]? = some oi) (h : freeD md ops listed i = true) :
    ∀ j oj, ops[j]? = some oj → j ≠ i → listed.getD j true = false → DepOn md ops j i ∨ (oi.apart ops oj = true ∧ compat (cls oi.op) (cls oj.op) = true) := by
  intro j oj hj hji hun
  unfold freeD at h
  simp only [hi, List.all_eq_true, List.mem_range] at h
  have := h j (Array.getElem?_eq_some_iff.1 hj).1
  simp only [hj, hun, Bool.or_false, Bool.or_eq_true, Bool.and_eq_true] at this
  rcases this with (h1 | h1) | h1
  · exact absurd (Nat.eq_of_beq_eq_true h1) hji
  · exact .inl (depB_dep _ _ _ h1)
  · exact .inr h1

theorem anyD_lex {K : (Nat → V) → List (List C) → Prop} : ∀ (l : List Oper) (k : Nat) (listed : Array Bool) (t : Nat → V) (b : List (List C)), (∀ j, l[j]? = ops[k + j]?) → Closed md ops listed →
    lexD md ops l.length k listed = true → WD E P n ops l (fun s => K s.t s.b) ⟨t, b, r, m⟩ → AnyD E P n md ops r m K l.length listed t b
  | [], k, listed, t, b, hl, hc, hB, h => ⟨by simpa [lexD] using hB, h⟩
  | o :: l, k, listed, t, b, hl, hc, hB, h => by
    have h0 : ops[k]? = some o := by simpa using (hl 0).symm
    simp only [List.length_cons, lexD, Bool.and_eq_true] at hB
    obtain ⟨⟨hr, hf⟩, hB'⟩ := hB
    obtain ⟨v, b', hy, hK⟩ := h
    have hr' : k ∈ Region.ready md ops listed := by simpa using hr
    exact anyD_first (bi := b') h0 l.length listed t b b' hc (freeD_spec h0 hf) hr' hy
      (anyD_lex l (k + 1) _ _ _ (fun j => by have := hl (j + 1); simpa [Nat.add_assoc, Nat.add_comm 1 j] using this) (closed_set hc hr') hB' hK)

/-- **A region that draws its order: one walk in the text's order.** -/
theorem W.regionD {id : Nat} {l : List Oper} {K : Ex → St → Prop} {s : St} (hm : P.follows .mixedOrders = true) (hB : lexOk l.toArray = true) (h : WD E P n l.toArray l (K .normal) s) : W E P n (.region id l.toArray true) K s := by
  intro g a w rel
  refine wp_region_any hm ?_
  have rel' := rel.drew (w.drawn + 1)
  obtain ⟨t, b, r, m⟩ := s
  refine wpAny_of_AnyD (r := r) (m := m) (K := fun t b => K .normal ⟨t, b, r, m⟩) (fun t b g a w hk rel => ⟨.normal, _, g, rfl, hk, rel⟩) _ _ t b g a _ rel' ?_
  have hc : Closed .any l.toArray (Array.replicate l.toArray.size false) := fun j o e ho hl _ _ => by
    simp [Array.getD_eq_getD_getElem?, Array.getElem?_replicate] at hl
    split at hl <;> simp_all
  have hK : ∀ (l' : List Oper) (t : Nat → V) (b : List (List C)), WD E P n l.toArray l' (K .normal) ⟨t, b, r, m⟩ → WD E P n l.toArray l' (fun s => K .normal ⟨s.t, s.b, r, m⟩) ⟨t, b, r, m⟩ := by
    intro l'
    induction l' with
    | nil => intro t b h; exact h
    | cons o l' ih => intro t b ⟨v, b', h1, h2⟩; exact ⟨v, b', h1, ih _ _ h2⟩
  have := anyD_lex (md := .any) (ops := l.toArray) (r := r) (m := m) (K := fun t b => K .normal ⟨t, b, r, m⟩) l 0 (Array.replicate l.toArray.size false) t b (by simp) hc (by simpa [lexOk] using hB) (hK l t b h)
  simpa using this

end
end Go.Proofs.YtepdjimbnbiicaaGreatDoor
