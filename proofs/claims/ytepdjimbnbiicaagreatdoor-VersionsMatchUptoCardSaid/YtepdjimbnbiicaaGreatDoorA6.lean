/- The abstract layer, part 6: steps of regions: computing, boxes, new slices, calls; a function's contract out of its body. -/
import Derived.Test.YtepdjimbnbiicaaGreatDoorA5
set_option linter.unusedVariables false
set_option linter.unusedSimpArgs false
set_option linter.unnecessarySimpa false
namespace Go.Proofs.YtepdjimbnbiicaaGreatDoor
open Go Go.RowKit

section
variable {J : Inv} {E : Env J} {P : Program} {T : TypeId → Option TI} {n : Nat} {s : St} {g : Gh} {a : Act} {w : World}

theorem run_places (hT : TabOk P T) : ∀ (l : List Field) (pl : List (Nat × Nat)), placesOf T l = some pl → (l.mapM fun f => (do pure (f.offset, ← sizeOf f.type) : Sem (Nat × Nat))).run P w = .ok pl w
  | [], pl, h => by obtain rfl : [] = pl := by simpa [placesOf] using h
                    simp
  | f :: l, pl, h => by
    unfold placesOf at h
    split at h
    · rename_i i q hi hq
      obtain rfl : _ = pl := by simpa using h
      have ih := run_places hT l q hq
      rw [List.mapM_cons]
      simp only [Sem.run_bind, run_sizeOf' hT hi, Result.andThen_ok, Sem.run_pure, Sem.run_map] at ih ⊢
      rw [ih]
      rfl
    · cases h

theorem cellsOf_ok {h : Sh} {u : V} {v : Value} {cs : List C} (hc : cellsOfV u = some cs) (hu : RV g h w u v) : ∃ vs : List Value, v.cells = vs.toArray ∧ vs.length = cs.length ∧
    (∀ (i : Nat) (c : C) (v : Value), cs[i]? = some c → vs[i]? = some v → RC g h w c v) ∧ ∀ v ∈ vs, v.oneCell' = true := by
  unfold cellsOfV at hc
  split at hc
  · rename_i c
    obtain rfl : [c] = cs := by simpa using hc
    cases hu with | one _ _ hu =>
    refine ⟨[v], by rw [oneCell_cells hu.one], rfl, fun i c' v' h1 h2 => ?_, fun v' hv' => ?_⟩
    · cases i with
      | zero => simp at h1 h2; subst h1; subst h2; exact hu
      | succ i => simp at h1
    · simp at hv'; subst hv'; exact hu.one
  · rename_i ds
    obtain rfl : ds = cs := by simpa using hc
    cases hu with | agg _ vs hl hx =>
    refine ⟨vs, rfl, hl, hx, fun v hv => ?_⟩
    obtain ⟨i, hi⟩ := List.getElem?_of_mem hv
    have hlt := (List.getElem?_eq_some_iff.1 hi).1
    exact (hx i _ v (List.getElem?_eq_getElem (by omega)) hi).one
  · cases hc

/-- A type's zero value, cell by cell. -/
def zeroC (i : TI) : Option (List C) := if constOk i.zero then cellsOfV (constV i.zero) else none
theorem zeroC_ok {h : Sh} {i : TI} {cs : List C} (hz : zeroC i = some cs) (g : Gh) (w : World) : ∃ vs : List Value, i.zero.cells = vs.toArray ∧ vs.length = cs.length ∧
    (∀ (j : Nat) (c : C) (v : Value), cs[j]? = some c → vs[j]? = some v → RC g h w c v) ∧ ∀ v ∈ vs, v.oneCell' = true := by
  unfold zeroC at hz
  split at hz
  · rename_i hc; exact cellsOf_ok hz (constV_ok g h w _ hc)
  · cases hz

theorem evBuild_ok (hT : TabOk P T) {h : Sh} {t : TypeId} {parts : List (Nat × V)} {vals : List (Nat × Value)} {r : V} (hz : ∀ i, T t = some i → constOk i.zero = true) (he : evBuild T t parts = some r)
    (hlen : parts.length = vals.length) (hp : ∀ (i : Nat) (p : Nat × V) (q : Nat × Value), parts[i]? = some p → vals[i]? = some q → p.1 = q.1 ∧ RV g h w p.2 q.2) :
    ∃ z, (Instr.build t vals.toArray).run P w = .ok z w ∧ RV g h w r z := by
  unfold evBuild at he
  split at he
  · rename_i i hi
    split at he
    · rename_i z fs hzc hd
      split at he
      · rename_i pl hpl
        obtain ⟨cs, hf, rfl⟩ : ∃ cs, fillC (pl[·]?) z parts = some cs ∧ V.agg cs = r := by simpa using he
        obtain ⟨vs, h1, h2, h3, _⟩ := cellsOf_ok (g := g) (h := h) (w := w) hzc (constV_ok g h w _ (hz i hi))
        obtain ⟨us, h4, h5, h6⟩ := fillC_ok (pl[·]?) parts vals z cs vs hlen hp h2 h3 hf
        refine ⟨.agg us.toArray, ?_, .agg _ _ h5 h6⟩
        have hm : (fs.mapM fun f => (do pure (f.offset, ← sizeOf f.type) : Sem (Nat × Nat))).run P w = .ok pl.toArray w := by
          rw [Array.mapM_eq_mapM_toList]
          simp only [Sem.run_map, run_places hT _ _ hpl, Result.andThen_ok]
        have hu := run_underlying' (w := w) hT hi
        rw [hd] at hu
        have h4' : Instr.fill (fun x => pl.toArray[x]?) vs.toArray vals.toArray.toList = some us.toArray := by simpa using h4
        simp only [Instr.build, Sem.run_bind, run_zeroValue' hT hi, Result.andThen_ok, hu, hm, h1, h4', Sem.run_pure]
      · cases he
    · rename_i z m e hzc hd
      split at he
      · rename_i j hj
        obtain ⟨cs, hf, rfl⟩ : ∃ cs, fillC (fun i => some (i * j.size, j.size)) z parts = some cs ∧ V.agg cs = r := by simpa using he
        obtain ⟨vs, h1, h2, h3, _⟩ := cellsOf_ok (g := g) (h := h) (w := w) hzc (constV_ok g h w _ (hz i hi))
        obtain ⟨us, h4, h5, h6⟩ := fillC_ok (fun i => some (i * j.size, j.size)) parts vals z cs vs hlen hp h2 h3 hf
        refine ⟨.agg us.toArray, ?_, .agg _ _ h5 h6⟩
        have hu := run_underlying' (w := w) hT hi
        rw [hd] at hu
        have h4' : Instr.fill (fun i => some (i * j.size, j.size)) vs.toArray vals.toArray.toList = some us.toArray := by simpa using h4
        simp only [Instr.build, Sem.run_bind, run_zeroValue' hT hi, Result.andThen_ok, hu, run_sizeOf' hT hj, h1, h4', Sem.run_pure]
      · cases he
    · cases he
  · cases he

theorem allOpd_ok (r : Rel E n g s a w) : ∀ (l : List (Nat × Operand)) (us : List (Nat × V)) (b : Bool), allOpd n s l = (b, us) → b = true → us.length = l.length ∧
    ∀ (i : Nat) (p : Nat × V) (q : Nat × Value), us[i]? = some p → (l.map fun (j, x) => (j, a.eval x))[i]? = some q → p.1 = q.1 ∧ RV g s.sh w p.2 q.2
  | [], us, b, h, hb => by
    obtain ⟨rfl, rfl⟩ : true = b ∧ [] = us := by simpa [allOpd] using h
    exact ⟨rfl, fun i p q h1 _ => by simp at h1⟩
  | (j, x) :: l, us, b, h, hb => by
    unfold allOpd at h
    simp only at h
    generalize h1 : opd n s x = p1 at h
    generalize h2 : allOpd n s l = p2 at h
    obtain ⟨b1, v1⟩ := p1
    obtain ⟨b2, v2⟩ := p2
    simp only [Prod.mk.injEq] at h
    obtain ⟨h3, rfl⟩ := h
    rw [← h3, Bool.and_eq_true] at hb
    obtain ⟨h4, h5⟩ := allOpd_ok r l v2 b2 h2 hb.2
    refine ⟨by simp [h4], fun i p q h6 h7 => ?_⟩
    cases i with
    | zero =>
      simp at h6 h7
      subst h6; subst h7
      exact ⟨rfl, opd_ok r h1 hb.1⟩
    | succ i => exact h5 i p q (by simpa using h6) (by simpa using h7)

/-- The zero values of the structs and arrays that are told. -/
def ZeroOk (T : TypeId → Option TI) : Prop := ∀ t i, T t = some i → constOk i.zero = true

theorem evP_ok (hT : TabOk P T) (hZ : ZeroOk T) (r : Rel E n g s a w) {o : Oper} {v : V} (he : evP T n s o.op = some (true, v)) :
    ∃ z, (execOp a.eval o).run P w = .ok (.value z) w ∧ RV g s.sh w v z := by
  obtain ⟨dst, op, ty, pos, after, guard⟩ := o
  simp only at he
  have fin : ∀ (f : Sem Value) (q : V), (∃ z, f.run P w = .ok z w ∧ RV g s.sh w q z) → ∃ z, ((do pure (.value (← f)) : Sem Next)).run P w = .ok (.value z) w ∧ RV g s.sh w q z :=
    fun f q ⟨z, h1, h2⟩ => ⟨z, by simp only [Sem.run_bind, h1, Result.andThen_ok, Sem.run_pure], h2⟩
  cases op <;> simp only [evP, reduceCtorEq] at he
  case move x =>
    obtain ⟨u, hu⟩ : ∃ u, opd n s x = u := ⟨_, rfl⟩
    rw [hu] at he; obtain rfl : u = (true, v) := by simpa using he
    exact ⟨_, rfl, opd_ok r hu rfl⟩
  case assign x =>
    obtain ⟨u, hu⟩ : ∃ u, opd n s x = u := ⟨_, rfl⟩
    rw [hu] at he; obtain rfl : u = (true, v) := by simpa using he
    exact ⟨_, rfl, opd_ok r hu rfl⟩
  case pick c x y =>
    unfold evPick at he
    split at he
    · rename_i o b p y' q z' hc hx hy
      simp only [Option.some.injEq, Prod.mk.injEq, Bool.and_eq_true] at he
      obtain ⟨⟨rfl, h1⟩, rfl⟩ := he
      have hcv := opd_ok r hc rfl
      generalize hzc : a.eval c = zc at hcv
      cases hcv with | one _ _ q1 => cases q1 with | d _ _ q1 => cases q1 with | bool =>
      cases b with
      | true =>
        have := opd_ok r hx (by simpa using h1)
        exact ⟨a.eval x, by simp [execOp, hzc, asBool], this⟩
      | false =>
        have := opd_ok r hy (by simpa using h1)
        exact ⟨a.eval y, by simp [execOp, hzc, asBool], this⟩
    · cases he
  case load t x =>
    obtain ⟨u, h1, h2⟩ := one'_some he
    exact fin _ _ (evLoad_ok hT r.heap h2 (opd_ok r h1 rfl))
  case nilCheck x =>
    obtain ⟨u, h1, h2⟩ := one'_some he
    have := opd_ok r h1 rfl
    unfold evNil at h2
    split at h2
    · obtain rfl : _ = v := by simpa using h2
      generalize hz : a.eval x = z at this
      cases this with | one _ _ q => cases q with | ptr _ _ q =>
      exact ⟨_, by simp only [execOp, hz, Sem.run_pure], .one _ _ (.ptr _ _ q)⟩
    · obtain rfl : _ = v := by simpa using h2
      generalize hz : a.eval x = z at this
      cases this with | one _ _ q => cases q with | eptr _ b o u hb h3 h4 =>
      exact ⟨_, by simp only [execOp, hz, Sem.run_pure], .one _ _ (.eptr _ b o u hb h3 h4)⟩
    · cases h2
  case binOp op t x y t' =>
    obtain ⟨u, u', h1, h2, h3⟩ := both_some he
    refine fin _ _ (evBin_ok hT h3 rfl (opd_ok r h1 rfl) (opd_ok r h2 rfl) (fun hc => ?_))
    cases x <;> cases y <;> first | rfl | cases hc
  case unOp op t x =>
    obtain ⟨u, h1, h2⟩ := one'_some he
    exact fin _ _ (evUn_ok h2 (opd_ok r h1 rfl))
  case convert p q x =>
    obtain ⟨u, h1, h2⟩ := one'_some he
    exact fin _ _ (evConv_ok hT h2 (opd_ok r h1 rfl))
  case slice t x lo hi mx =>
    cases mx with
    | some m => simp only [evP, reduceCtorEq] at he
    | none =>
      simp only [evP] at he
      generalize hx : opd n s x = p at he
      obtain ⟨o, u⟩ := p
      simp only at he
      split at he
      · rename_i len hlen
        split at he
        · rename_i lo' hi' hlo hhi
          split at he
          · rename_i p' r' hs
            simp only [Option.some.injEq, Prod.mk.injEq, Bool.and_eq_true] at he
            obtain ⟨⟨rfl, rfl⟩, rfl⟩ := he
            exact fin _ _ (evSlice_ok hT hs (opd_ok r hx rfl) hlen (fun hb => bnd_ok r (b := lo'.1) (i := lo'.2) hlo hb) (fun hb => bnd_ok r (b := hi'.1) (i := hi'.2) hhi hb))
          · cases he
        · cases he
      · cases he
  case fieldAddr t x f =>
    obtain ⟨u, h1, h2⟩ := one'_some he
    exact fin _ _ (evFieldAddr_ok hT h2 (opd_ok r h1 rfl))
  case field t x f =>
    obtain ⟨u, h1, h2⟩ := one'_some he
    exact fin _ _ (evField_ok hT h2 (opd_ok r h1 rfl))
  case indexAddr t x i =>
    obtain ⟨u, u', h1, h2, h3⟩ := both_some he
    exact fin _ _ (evIndexAddr_ok hT h3 (opd_ok r h1 rfl) (opd_ok r h2 rfl))
  case index t x i =>
    obtain ⟨u, u', h1, h2, h3⟩ := both_some he
    exact fin _ _ (evIndex_ok hT h3 (opd_ok r h1 rfl) (opd_ok r h2 rfl))
  case extract x i =>
    obtain ⟨u, h1, h2⟩ := one'_some he
    refine fin _ _ ?_
    have := opd_ok r h1 rfl
    unfold evExtract at h2
    split at h2
    · rename_i us
      generalize hz : a.eval x = z at this
      cases this with | tup _ vs hl hx =>
      have hlt := (List.getElem?_eq_some_iff.1 h2).1
      have hv : vs[i]? = some vs[i] := List.getElem?_eq_getElem (by omega)
      exact ⟨vs[i], by simp [Instr.extract, hz, hv], hx i v _ h2 hv⟩
    · cases h2
  case build t parts =>
    generalize hp : allOpd n s parts.toList = p at he
    obtain ⟨b, us⟩ := p
    simp only at he
    split at he
    · rename_i q hq
      simp only [Option.some.injEq, Prod.mk.injEq] at he
      obtain ⟨rfl, rfl⟩ := he
      obtain ⟨h1, h2⟩ := allOpd_ok r _ _ _ hp rfl
      have := evBuild_ok (P := P) hT (vals := parts.toList.map fun (i, x) => (i, a.eval x)) (fun i hi => hZ t i hi) hq (by simp [h1]) h2
      have e : (parts.map fun (i, x) => (i, a.eval x)) = (parts.toList.map fun (i, x) => (i, a.eval x)).toArray := Array.toList_inj.1 (by simp)
      refine fin _ _ ?_
      rw [e]
      exact this
    · cases he
  case call c =>
    obtain ⟨callee, args, ats⟩ := c
    cases callee with
    | value f => simp only [evP, reduceCtorEq] at he
    | invoke p q => simp only [evP, reduceCtorEq] at he
    | builtin b =>
      cases b <;> simp only [evP, reduceCtorEq] at he
      case len =>
        split at he
        · rename_i x t hx ht
          obtain ⟨u, h1, h2⟩ := one'_some he
          obtain rfl : args = #[x] := by apply Array.toList_inj.1; simpa using hx
          obtain rfl : ats = #[t] := by apply Array.toList_inj.1; simpa using ht
          obtain ⟨z, h3, h4⟩ := evLen_ok (P := P) (ty := ty) hT h2 (opd_ok r h1 rfl)
          refine ⟨z, ?_, h4⟩
          simp [execOp, resolve, invoke, builtin, h3]
        · cases he
      case min =>
        split at he
        · rename_i x y hx
          obtain ⟨u, u', h1, h2, h3⟩ := both_some he
          obtain rfl : args = #[x, y] := by apply Array.toList_inj.1; simpa using hx
          split at h3
          · rename_i k p k' q
            split at h3
            · rename_i hk
              subst hk
              obtain rfl : _ = v := by simpa using h3
              have q1 := opd_ok r h1 rfl
              have q2 := opd_ok r h2 rfl
              generalize hz1 : a.eval x = z1 at q1
              generalize hz2 : a.eval y = z2 at q2
              cases q1 with | one _ _ q1 => cases q1 with | d _ _ q1 => cases q1 with | int =>
              cases q2 with | one _ _ q2 => cases q2 with | d _ _ q2 => cases q2 with | int =>
              refine ⟨_, ?_, .one _ _ (.d _ _ (.int _ _))⟩
              simp [execOp, resolve, invoke, builtin, hz1, hz2, run_min_int2]
            · cases h3
          · cases h3
        · cases he
      case max =>
        split at he
        · rename_i x y hx
          obtain ⟨u, u', h1, h2, h3⟩ := both_some he
          obtain rfl : args = #[x, y] := by apply Array.toList_inj.1; simpa using hx
          split at h3
          · rename_i k p k' q
            split at h3
            · rename_i hk
              subst hk
              obtain rfl : _ = v := by simpa using h3
              have q1 := opd_ok r h1 rfl
              have q2 := opd_ok r h2 rfl
              generalize hz1 : a.eval x = z1 at q1
              generalize hz2 : a.eval y = z2 at q2
              cases q1 with | one _ _ q1 => cases q1 with | d _ _ q1 => cases q1 with | int =>
              cases q2 with | one _ _ q2 => cases q2 with | d _ _ q2 => cases q2 with | int =>
              refine ⟨_, ?_, .one _ _ (.d _ _ (.int _ _))⟩
              simp [execOp, resolve, invoke, builtin, hz1, hz2, run_max_int2]
            · cases h3
          · cases h3
        · cases he

/-! ### Steps -/
def guardB (n : Nat) (ops : Array Oper) (s : St) (j : Nat) (want : Bool) : Option Bool :=
  match (ops[j]?).bind (·.dst) with
  | some d => if Nat.blt d n then match s.t d with
      | .one (.d (.bool x)) => some (x == want)
      | .when b (.one (.d (.bool x))) => some (b && (x == want))
      | _ => none
    else none
  | none => none

theorem guardB_ok (r : Rel E n g s a w) {ops : Array Oper} {o : Oper} {j : Nat} {want c : Bool} (hg : o.guard = some (j, want)) (hc : guardB n ops s j want = some c) :
    Region.wanted o (yielded ops a.tmps) = c := by
  unfold guardB at hc
  simp only [Region.wanted, hg, yielded]
  split at hc
  · rename_i d hd
    rw [hd]
    split at hc
    · rename_i hlt
      have hlt : d < n := by simpa [Nat.blt_eq] using hlt
      have hz : a.tmps[d]? = some (a.tmps.getD d undef) := by
        rw [Array.getD_eq_getD_getElem?, Array.getElem?_eq_getElem (by rw [r.size]; exact hlt)]; rfl
      have hr := r.tmps d hlt
      simp only [Option.bind_some, hz]
      generalize a.tmps.getD d undef = z at hr
      split at hc
      · rename_i x hx
        rw [hx] at hr
        obtain rfl : _ = c := by simpa using hc
        cases hr with | one _ _ q => cases q with | d _ _ q => cases q with | bool => cases x <;> cases want <;> rfl
      · rename_i b x hx
        rw [hx] at hr
        obtain rfl : _ = c := by simpa using hc
        cases hr with
        | whenT _ _ q => cases q with | one _ _ q => cases q with | d _ _ q => cases q with | bool => cases x <;> cases want <;> rfl
        | whenF _ => cases x <;> cases want <;> rfl
      · cases hc
    · cases hc
  · cases hc

theorem Step.pure {ops : Array Oper} {o : Oper} {K : St → Prop} {b : Bool} {v : V} (hT : TabOk P T) (hZ : ZeroOk T) (he : evP T n s o.op = some (b, v)) (hg : o.guard = none) (hb : b = true)
    (k : K (s.set o.dst v)) : Step E P n ops o K s := by
  intro g a w r next Q hn
  subst hb
  have hw : Region.wanted o (yielded ops a.tmps) = true := by simp [Region.wanted, hg]
  rw [if_pos hw]
  obtain ⟨z, h1, h2⟩ := evP_ok hT hZ r he
  unfold Oper.wp
  rw [h1]
  exact hn _ g _ _ k (r.put_same _ h2)

theorem Step.pureG {ops : Array Oper} {o : Oper} {K : St → Prop} {b c : Bool} {v : V} {j : Nat} {want : Bool} (hT : TabOk P T) (hZ : ZeroOk T) (hg : o.guard = some (j, want))
    (hc : guardB n ops s j want = some c) (he : evP T n s o.op = some (b, v)) (hb : c = true → b = true) (k : K (s.set o.dst (.when c v))) : Step E P n ops o K s := by
  intro g a w r next Q hn
  rw [guardB_ok r hg hc]
  cases c with
  | true =>
    obtain rfl := hb rfl
    rw [if_pos rfl]
    obtain ⟨z, h1, h2⟩ := evP_ok hT hZ r he
    unfold Oper.wp
    rw [h1]
    exact hn _ g _ _ k (r.put_same _ (.whenT _ _ h2))
  | false =>
    rw [if_neg (by simp)]
    exact hn _ g _ _ k (r.put_same _ (.whenF _))

/-- An operation that is not carried out. -/
theorem Step.skip {ops : Array Oper} {o : Oper} {K : St → Prop} {j : Nat} {want : Bool} (hg : o.guard = some (j, want))
    (hc : guardB n ops s j want = some false) (u : V) (k : K (s.set o.dst (.when false u))) : Step E P n ops o K s := by
  intro g a w r next Q hn
  rw [guardB_ok r hg hc, if_neg (by simp)]
  exact hn _ g _ _ k (r.put_same _ (.whenF _))

end
end Go.Proofs.YtepdjimbnbiicaaGreatDoor
