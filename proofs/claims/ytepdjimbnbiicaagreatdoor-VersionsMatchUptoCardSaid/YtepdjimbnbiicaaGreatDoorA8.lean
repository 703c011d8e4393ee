/- The abstract layer, part 8: new slices, calls, a function's contract out of its body. -/
import Derived.Test.YtepdjimbnbiicaaGreatDoorA7
set_option linter.unusedVariables false
set_option linter.unusedSimpArgs false
set_option linter.unnecessarySimpa false
namespace Go.Proofs.YtepdjimbnbiicaaGreatDoor
open Go Go.RowKit

section
variable {J : Inv} {E : Env J} {P : Program} {T : TypeId → Option TI} {n : Nat} {s : St} {g : Gh} {a : Act} {w : World}

def chunk (sz : Nat) : Nat → List D → List (List D)
  | 0, _ => []
  | k + 1, ds => ds.take sz :: chunk sz k (ds.drop sz)

theorem chunk_length (sz : Nat) : ∀ (k : Nat) (ds : List D), (chunk sz k ds).length = k
  | 0, _ => rfl
  | k + 1, ds => by simp [chunk, chunk_length sz k]

theorem chunk_get (sz : Nat) : ∀ (k : Nat) (ds : List D) (i j : Nat) (x : List D) (d : D), (chunk sz k ds)[i]? = some x → x[j]? = some d → ds[i * sz + j]? = some d
  | 0, ds, i, j, x, d, h, _ => by simp [chunk] at h
  | k + 1, ds, 0, j, x, d, h, h2 => by
    simp [chunk] at h
    subst h
    rw [List.getElem?_take] at h2
    split at h2
    · simpa using h2
    · cases h2
  | k + 1, ds, i + 1, j, x, d, h, h2 => by
    have := chunk_get sz k (ds.drop sz) i j x d (by simpa [chunk] using h) h2
    rw [List.getElem?_drop] at this
    rw [Nat.add_mul, Nat.one_mul]
    rwa [show i * sz + sz + j = sz + (i * sz + j) by omega]

theorem chunk_sz (sz : Nat) : ∀ (k : Nat) (ds : List D), ds.length = k * sz → ∀ x ∈ chunk sz k ds, x.length = sz
  | 0, _, _, x, hx => by simp [chunk] at hx
  | k + 1, ds, h, x, hx => by
    rw [Nat.add_mul, Nat.one_mul] at h
    simp only [chunk, List.mem_cons] at hx
    rcases hx with rfl | hx
    · simp; omega
    · exact chunk_sz sz k (ds.drop sz) (by simp; omega) x hx

def evBS (T : TypeId → Option TI) (t : TypeId) (len : Nat) (parts : List (Nat × V)) : Option (Nat × List (List D)) :=
  match T t with
  | some { desc := .slice e, .. } => match T e with
    | some j => match zeroC j with
      | some z => if len * j.size ≤ 16777216 ∧ z.length = j.size then
          match fillC (fun i => some (i * j.size, j.size)) (List.replicate (len * j.size) .junk) parts with
          | some out => match allDs out with
            | some ds => if ds.length = len * j.size then some (j.size, chunk j.size len ds) else none
            | none => none
          | none => none
        else none
      | none => none
    | none => none
  | _ => none

/-- A new pure row. -/
theorem Rel.newRow (r : Rel E n g s a w) (d : Option Nat) {sz len : Nat} {ds : List D} {us : List Value} {t : TypeId} (hd : ds.length = len * sz) (hl : us.length = ds.length)
    (hx : ∀ (i : Nat) (c : C) (v : Value), (ds.map C.d)[i]? = some c → us[i]? = some v → RC g s.sh w c v) :
    ∃ g', Rel E n g' (s.set d (.one (.d (.vec sz (chunk sz len ds))))) (a.put d (.slice (some ⟨w.heap.size, 0, none⟩) len len)) (w.alloc (.cells us.toArray t)) := by
  have hsz : (w.alloc (.cells us.toArray t)).heap.size = w.heap.size + 1 := by simp
  have hb : Below w.heap.size w (w.alloc (.cells us.toArray t)) := (Below.refl _ _).alloc (Nat.le_refl _) _
  have hnew : (w.alloc (.cells us.toArray t)).heap[w.heap.size]? = some (.cells us.toArray t (0, 0)) := by show (w.heap.push _)[w.heap.size]? = _; simp
  have r1 := r.later (fun b => g.im b ∨ b = w.heap.size) hb (fun b h => .inl h) (fun b h => by rw [hsz]; rcases h with h | rfl; exact Nat.lt_succ_of_lt (r.imlt b h); exact Nat.lt_succ_self _)
    (fun b h => h.elim .inl (fun h => .inr (by omega)))
  refine ⟨_, r1.put_same d (.one _ _ (.d _ _ ?_))⟩
  have hrd : ∀ (i : Nat) (x : D) (v : Value), ds[i]? = some x → us[i]? = some v → RD (fun b => g.im b ∨ b = w.heap.size) (w.alloc (.cells us.toArray t)) x v := fun i x v h1 h2 => by
    have := hx i (.d x) v (by simp [h1]) h2
    cases this with | d _ _ q => exact q.mono (fun b h => .inl h) (fun b h => hb.block b (r.imlt b h))
  by_cases hz : len = 0
  · subst hz; exact .empty _ _ _
  · have hcl := chunk_length sz len ds
    have := RD.vec (im := fun b => g.im b ∨ b = w.heap.size) (w := w.alloc (.cells us.toArray t)) sz (chunk sz len ds) w.heap.size 0 len (fun i j => us.getD (i * sz + j) undef)
      (fun h => by rw [h] at hcl; simp at hcl; omega) (by omega) (.inr rfl) (chunk_sz sz len ds hd) (fun i j x d h1 h2 => ?_) (fun i j x d h1 h2 => ?_)
    · rw [hcl] at this; exact this
    · have h3 := chunk_get sz len ds i j x d h1 h2
      have h4 := (List.getElem?_eq_some_iff.1 h3).1
      have h5 : us[i * sz + j]? = some us[i * sz + j] := List.getElem?_eq_getElem (by omega)
      simp only [World.cell?, hnew, Nat.zero_add, Option.isSome_none, Bool.false_eq_true, if_false, List.getElem?_toArray, List.getD_eq_getElem?_getD, h5, Option.getD_some]
    · have h3 := chunk_get sz len ds i j x d h1 h2
      have h4 := (List.getElem?_eq_some_iff.1 h3).1
      have h5 : us[i * sz + j]? = some us[i * sz + j] := List.getElem?_eq_getElem (by omega)
      rw [List.getD_eq_getElem?_getD, h5]
      exact hrd _ _ _ h3 h5

theorem zeroCells_ok {h : Sh} {i : TI} {z : List C} (hz : zeroC i = some z) (m : Nat) (hm : z.length = i.size) (g : Gh) (w : World) :
    ∃ vs : List Value, ((Array.range m).map (i.zero.cells[· % i.zero.cells.size]!)) = vs.toArray ∧ vs.length = m ∧ (0 < i.size → ∀ v ∈ vs, v.oneCell' = true) := by
  obtain ⟨zs, h1, h2, _, h4⟩ := zeroC_ok (h := h) hz g w
  refine ⟨(List.range m).map (zs.toArray[· % zs.length]!), ?_, by simp, fun hpos v hv => ?_⟩
  · rw [h1]
    apply Array.toList_inj.1
    simp [Array.toList_range]
  · simp only [List.mem_map, List.mem_range] at hv
    obtain ⟨k, _, rfl⟩ := hv
    have hlt : k % zs.length < zs.length := Nat.mod_lt _ (by omega)
    simp only [List.getElem!_toArray, List.getElem!_eq_getElem?_getD, List.getElem?_eq_getElem hlt, Option.getD_some]
    exact h4 _ (List.getElem_mem _)

theorem run_buildSlice {len : Nat} {pv : Array (Nat × Value)} {t e : TypeId} {ti j : TI} {zs vs : List Value} (hT : TabOk P T) (ht : T t = some ti) (hd : ti.desc = .slice e) (hj : T e = some j)
    (hb : ¬ len * j.size > 2 ^ 24) (hz : ((Array.range (len * j.size)).map (j.zero.cells[· % j.zero.cells.size]!)) = zs.toArray)
    (hf : Instr.fill (fun i => some (i * j.size, j.size)) zs.toArray pv.toList = some vs.toArray) :
    (Instr.buildSlice t len pv).run P w = .ok (.slice (some ⟨w.heap.size, 0, none⟩) len len) (w.alloc (.cells vs.toArray e)) := by
  have hu := run_underlying' (w := w) hT ht
  rw [hd] at hu
  simp only [Instr.buildSlice, Sem.run_bind, hu, Result.andThen_ok, run_sizeOf' hT hj, if_neg hb]
  by_cases h0 : len * j.size = 0
  · have hzs : zs = [] := by
      have := congrArg Array.size hz
      simp [h0] at this
      exact List.eq_nil_of_length_eq_zero this.symm
    simp only [if_pos h0, Sem.run_bind, Sem.run_pure, Result.andThen_ok]
    have he : ((Array.range (len * j.size)).map fun x => (#[] : Array Value)[x % (#[] : Array Value).size]!) = zs.toArray := by rw [h0, hzs]; simp
    rw [he, hf]
    simp [newRow]
  · simp only [if_neg h0, Sem.run_bind, run_zeroValue' hT hj, Sem.run_pure, Result.andThen_ok]
    rw [hz, hf]
    simp [newRow]

theorem Step.buildSlice {ops : Array Oper} {o : Oper} {K : St → Prop} {t : TypeId} {len sz : Nat} {parts : Array (Nat × Operand)} {us : List (Nat × V)} {xs : List (List D)} (hT : TabOk P T)
    (ho : o.op = .buildSlice t len parts) (hg : o.guard = none) (hp : allOpd n s parts.toList = (true, us)) (hx : evBS T t len us = some (sz, xs))
    (k : K (s.set o.dst (.one (.d (.vec sz xs))))) : Step E P n ops o K s := by
  intro g a w r next Q hn
  have hw : Region.wanted o (yielded ops a.tmps) = true := by simp [Region.wanted, hg]
  rw [if_pos hw]
  obtain ⟨hl, hpv⟩ := allOpd_ok r _ _ _ hp rfl
  unfold evBS at hx
  split at hx
  · rename_i e _ _ _ _ ht
    split at hx
    · rename_i j hj
      split at hx
      · rename_i z hz
        split at hx
        · rename_i hc
          split at hx
          · rename_i out hf
            split at hx
            · rename_i ds hds
              split at hx
              · rename_i hlen
                obtain ⟨rfl, rfl⟩ : j.size = sz ∧ chunk j.size len ds = xs := by simpa using hx
                have hout := allDs_eq hds
                obtain ⟨zs, q1, q2, q3⟩ := zeroCells_ok (h := s.sh) hz (len * j.size) hc.2 g w
                have hjunk : ∀ (i : Nat) (c : C) (v : Value), (List.replicate (len * j.size) C.junk)[i]? = some c → zs[i]? = some v → RC g s.sh w c v := fun i c v h1 h2 => by
                  rw [List.getElem?_replicate] at h1
                  split at h1
                  · rename_i hi
                    cases h1
                    refine .junk _ (q3 ?_ v (List.mem_of_getElem? h2))
                    rcases Nat.eq_zero_or_pos j.size with h0 | h0
                    · rw [h0, Nat.mul_zero] at hi; omega
                    · exact h0
                  · cases h1
                obtain ⟨vs, f1, f2, f3⟩ := fillC_ok (h := s.sh) (fun i => some (i * j.size, j.size)) us (parts.toList.map fun (i, x) => (i, a.eval x)) _ out zs (by simp [hl]) hpv (by simp [q2]) hjunk hf
                have hu := run_underlying' (w := w) hT ht
                have e1 : (parts.map fun (i, x) => (i, a.eval x)) = (parts.toList.map fun (i, x) => (i, a.eval x)).toArray := Array.toList_inj.1 (by simp)
                have hrun : (execOp a.eval o).run P w = .ok (.value (.slice (some ⟨w.heap.size, 0, none⟩) len len)) (w.alloc (.cells vs.toArray e)) := by
                  have := run_buildSlice (w := w) (pv := parts.map fun (i, x) => (i, a.eval x)) (len := len) hT ht rfl hj (by have := hc.1; omega) q1 (by rw [e1]; simpa using f1)
                  simp only [execOp, ho, Sem.run_bind, this, Result.andThen_ok, Sem.run_pure]
                obtain ⟨g', hr⟩ := r.newRow o.dst (sz := j.size) (len := len) (ds := ds) (us := vs) (t := e) hlen (by rw [f2, hout]; simp) (by rw [← hout]; exact f3)
                unfold Oper.wp
                rw [hrun]
                exact hn _ _ _ _ k hr
              · cases hx
            · cases hx
          · cases hx
        · cases hx
      · cases hx
    · cases hx
  · cases hx

/-! ### Calls -/
def allOpdL (n : Nat) (s : St) : List Operand → Bool × List V
  | [] => (true, [])
  | x :: r => let a := opd n s x; let b := allOpdL n s r; (a.1 && b.1, a.2 :: b.2)

theorem allOpdL_ok (r : Rel E n g s a w) : ∀ (l : List Operand) (us : List V) (b : Bool), allOpdL n s l = (b, us) → b = true → us.length = l.length ∧
    ∀ (i : Nat) (u : V) (v : Value), us[i]? = some u → (l.map a.eval)[i]? = some v → RV g s.sh w u v
  | [], us, b, h, hb => by
    obtain ⟨rfl, rfl⟩ : true = b ∧ [] = us := by simpa [allOpdL] using h
    exact ⟨rfl, fun i p q h1 _ => by simp at h1⟩
  | x :: l, us, b, h, hb => by
    unfold allOpdL at h
    simp only at h
    generalize h1 : opd n s x = p1 at h
    generalize h2 : allOpdL n s l = p2 at h
    obtain ⟨b1, v1⟩ := p1
    obtain ⟨b2, v2⟩ := p2
    simp only [Prod.mk.injEq] at h
    obtain ⟨h3, rfl⟩ := h
    rw [← h3, Bool.and_eq_true] at hb
    obtain ⟨h4, h5⟩ := allOpdL_ok r l v2 b2 h2 hb.2
    refine ⟨by simp [h4], fun i p q h6 h7 => ?_⟩
    cases i with
    | zero =>
      simp at h6 h7
      subst h6; subst h7
      exact opd_ok r h1 hb.1
    | succ i => exact h5 i p q (by simpa using h6) (by simpa using h7)

/-- What is called: a function, and the values that a closure has captured. -/
def calleeV : V → Option (FuncId × List C)
  | .one (.d (.fn f)) => some (f, [])
  | .one (.clo f caps) => some (f, caps)
  | _ => none

theorem callFunc_run {f : FuncId} {fn : Func} (hf : P.funcs[f]? = some fn) (h1 : (fn.name == "runtime.NumGoroutine") = false) (h2 : fn.body.isNone = false) (args : Array Value) :
    (callFunc f args).run P w = .ok (.enter f args) w := by
  simp only [callFunc, Sem.run_bind, run_program, Result.andThen_ok, hf, h1, h2, Bool.false_eq_true, if_false, Sem.run_pure]

theorem call_run (r : Rel E n g s a w) {o : Oper} {fo : Operand} {args : Array Operand} {ats : Array TypeId} (ho : o.op = .call { callee := .value fo, args, argTypes := ats }) {u : V} {f : FuncId} {caps : List C}
    (hu : opd n s fo = (true, u)) (hc : calleeV u = some (f, caps)) {fn : Func} (hf : P.funcs[f]? = some fn) (h1 : (fn.name == "runtime.NumGoroutine") = false) (h2 : fn.body.isNone = false) :
    ∃ vs : List Value, vs.length = caps.length ∧ (∀ (i : Nat) (c : C) (v : Value), caps[i]? = some c → vs[i]? = some v → RC g s.sh w c v) ∧
      (execOp a.eval o).run P w = .ok (.enter f (args.toList.map a.eval ++ vs).toArray) w := by
  have hv := opd_ok r hu rfl
  unfold calleeV at hc
  split at hc
  · rename_i f'
    obtain ⟨rfl, rfl⟩ : f' = f ∧ [] = caps := by simpa using hc
    generalize hz : a.eval fo = z at hv
    cases hv with | one _ _ q => cases q with | d _ _ q => cases q with | fn =>
    refine ⟨[], rfl, fun i c v hc => by simp at hc, ?_⟩
    simp only [execOp, ho, resolve, hz, Deferred.ofValue, Sem.run_bind, Sem.run_pure, Result.andThen_ok, invoke, callFunc_run hf h1 h2]
    congr 2
    apply Array.toList_inj.1
    simp
  · rename_i f' caps'
    obtain ⟨rfl, rfl⟩ : f' = f ∧ caps' = caps := by simpa using hc
    generalize hz : a.eval fo = z at hv
    cases hv with | one _ _ q => cases q with | clo _ _ vs hl hx =>
    refine ⟨vs, hl, hx, ?_⟩
    simp only [execOp, ho, resolve, hz, Deferred.ofValue, Sem.run_bind, Sem.run_pure, Result.andThen_ok, invoke, callFunc_run hf h1 h2]
    congr 2
    apply Array.toList_inj.1
    simp
  · cases hc

def pureVs : List V → Bool
  | [] => true
  | v :: l => pureV v && pureVs l
theorem pureVs_get : ∀ {us : List V}, pureVs us = true → ∀ (i : Nat) (u : V), us[i]? = some u → pureV u = true
  | [], _, i, u, h => by simp at h
  | v :: l, hp, i, u, h => by
    simp only [pureVs, Bool.and_eq_true] at hp
    cases i with
    | zero => obtain rfl : v = u := by simpa using h
              exact hp.1
    | succ i => exact pureVs_get hp.2 i u (by simpa using h)

theorem capsV_ok {us : List V} {caps : List C} {ws vs : List Value} (hul : ws.length = us.length) (h1 : ∀ (i : Nat) (u : V) (v : Value), us[i]? = some u → ws[i]? = some v → RV g s.sh w u v)
    (hcl : vs.length = caps.length) (h2 : ∀ (i : Nat) (c : C) (v : Value), caps[i]? = some c → vs[i]? = some v → RC g s.sh w c v) :
    ∀ (i : Nat) (u : V) (v : Value), (us ++ caps.map V.one)[i]? = some u → (ws ++ vs)[i]? = some v → RV g s.sh w u v := by
  intro i u v h3 h4
  rcases Nat.lt_or_ge i us.length with h | h
  · rw [List.getElem?_append_left h] at h3
    rw [List.getElem?_append_left (by omega)] at h4
    exact h1 i u v h3 h4
  · rw [List.getElem?_append_right h] at h3
    rw [List.getElem?_append_right (by omega), hul] at h4
    simp only [List.getElem?_map, Option.map_eq_some_iff] at h3
    obtain ⟨c, hc, rfl⟩ := h3
    exact .one _ _ (h2 _ c v hc h4)

theorem call_wp (r : Rel E n g s a w) {o : Oper} {fo : Operand} {args : Array Operand} {ats : Array TypeId} (ho : o.op = .call { callee := .value fo, args, argTypes := ats }) {u : V} {f : FuncId} {caps : List C} {us : List V} {rv : V}
    (hu : opd n s fo = (true, u)) (hc : calleeV u = some (f, caps)) (ha : allOpdL n s args.toList = (true, us)) (hp : pureVs (us ++ caps.map V.one) = true) (pc : PureCall P J f (us ++ caps.map V.one) rv)
    {next : Act → World → Prop} {Q : Exit → Act → World → Prop} (k : ∀ v g' w', Rel E n g' s a w' → RV g' s.sh w' rv v → next (a.put o.dst v) w') : o.wp P a w next Q := by
  obtain ⟨fn, hf, h1, h2⟩ := pc.enter
  obtain ⟨vs, hl, hx, hrun⟩ := call_run r ho hu hc hf h1 h2
  obtain ⟨hal, hav⟩ := allOpdL_ok r _ _ _ ha rfl
  have hall := capsV_ok (s := s) (g := g) (w := w) (us := us) (caps := caps) (ws := args.toList.map a.eval) (vs := vs) (by simp [hal]) hav hl hx
  have hcall := pc.calls g.im w (args.toList.map a.eval ++ vs) (J.st _ _ E.hI r.below) r.imlt (by simp [hal, hl]) (fun i u v h3 h4 => (hall i u v h3 h4).pure (noGh g.im) noSh (show (noGh g.im).im = g.im from rfl) (pureVs_get hp i u h3))
  unfold Oper.wp
  rw [hrun]
  show Calls P f _ w _
  refine hcall.mono ?_
  rintro e w' ⟨v, im', rfl, hb, hi1, hi2, hi3, hv⟩
  exact k v _ _ (r.later im' hb hi1 hi2 hi3) (hv.mono (.fromNo im' w' _ _ rfl))

theorem Step.call {ops : Array Oper} {o : Oper} {K : St → Prop} {fo : Operand} {args : Array Operand} {ats : Array TypeId} {u : V} {f : FuncId} {caps : List C} {us : List V} {rv : V}
    (pc : PureCall P J f (us ++ caps.map V.one) rv) (ho : o.op = .call { callee := .value fo, args, argTypes := ats }) (hg : o.guard = none) (hu : opd n s fo = (true, u)) (hc : calleeV u = some (f, caps))
    (ha : allOpdL n s args.toList = (true, us)) (hp : pureVs (us ++ caps.map V.one) = true)
    (k : K (s.set o.dst rv)) : Step E P n ops o K s := by
  intro g a w r next Q hn
  have hw : Region.wanted o (yielded ops a.tmps) = true := by simp [Region.wanted, hg]
  rw [if_pos hw]
  exact call_wp r ho hu hc ha hp pc (fun v g' w' r' hv => hn _ g' _ _ k (r'.put_same _ hv))

theorem Step.callG {ops : Array Oper} {o : Oper} {K : St → Prop} {fo : Operand} {args : Array Operand} {ats : Array TypeId} {u : V} {f : FuncId} {caps : List C} {us : List V} {rv : V} {j : Nat} {want c b1 b2 : Bool}
    (pc : c = true → PureCall P J f (us ++ caps.map V.one) rv) (ho : o.op = .call { callee := .value fo, args, argTypes := ats }) (hg : o.guard = some (j, want)) (hgc : guardB n ops s j want = some c)
    (hu : opd n s fo = (b1, u)) (hc : calleeV u = some (f, caps)) (ha : allOpdL n s args.toList = (b2, us)) (hb : c = true → (b1 && b2) = true) (hp : pureVs (us ++ caps.map V.one) = true)
    (k : K (s.set o.dst (.when c rv))) : Step E P n ops o K s := by
  intro g a w r next Q hn
  rw [guardB_ok r hg hgc]
  cases c with
  | true =>
    rw [if_pos rfl]
    obtain ⟨rfl, rfl⟩ : b1 = true ∧ b2 = true := by simpa using hb rfl
    exact call_wp r ho hu hc ha hp (pc rfl) (fun v g' w' r' hv => hn _ g' _ _ k (r'.put_same _ (.whenT _ _ hv)))
  | false =>
    rw [if_neg (by simp)]
    exact hn _ g _ _ k (r.put_same _ (.whenF _))

/-! ### A function out of its body -/
def resOne (T : TypeId → Option TI) (n : Nat) (s : St) : ResultVar → Option (Bool × V)
  | .tmp t => some (opd n s (.tmp t))
  | .cell a t => one' n s (.tmp a) (evLoad T s t)
def resAll (T : TypeId → Option TI) (n : Nat) (s : St) : List ResultVar → Option (List V)
  | [] => some []
  | r :: l => match resOne T n s r, resAll T n s l with
    | some (true, v), some vs => some (v :: vs)
    | _, _ => none
def resV : List V → V
  | [v] => v
  | vs => .tup vs

/-- What a function returns, told with less. -/
def LeV (r' r : V) : Prop := ∀ (im : Nat → Prop) (w : World) (v : Value), RV (noGh im) noSh w r' v → RV (noGh im) noSh w r v
theorem LeV.refl (r : V) : LeV r r := fun _ _ _ h => h

def resSem (tmps : Array Value) : ResultVar → Sem Value
  | .tmp t => pure (tmps.getD t undef)
  | .cell c t => do loadVar t (← asAddr (tmps.getD c undef))
theorem results_eq (fn : Func) (tmps : Array Value) : results fn tmps = (do let vs ← fn.results.mapM (resSem tmps); pure (if h : vs.size = 1 then vs[0] else .tuple vs)) := by
  unfold results
  congr 1

theorem resOne_ok (hT : TabOk P T) (r : Rel E n g s a w) {x : ResultVar} {v : V} (h : resOne T n s x = some (true, v)) :
    ∃ z, (resSem a.tmps x).run P w = .ok z w ∧ RV g s.sh w v z := by
  cases x with
  | tmp t =>
    simp only [resOne, Option.some.injEq] at h
    exact ⟨_, rfl, opd_ok r h rfl⟩
  | cell c t =>
    simp only [resOne] at h
    obtain ⟨u, h1, h2⟩ := one'_some h
    obtain ⟨z, h3, h4⟩ := evLoad_ok (P := P) hT r.heap h2 (opd_ok r h1 rfl)
    have hp : ∃ ad, a.eval (.tmp c) = .pointer (some ad) := by
      have hv := opd_ok r h1 rfl
      unfold evLoad at h2
      split at h2
      · generalize a.eval (.tmp c) = z at hv ⊢
        cases hv with | one _ _ q => cases q with | ptr => exact ⟨_, rfl⟩
      · generalize a.eval (.tmp c) = z at hv ⊢
        cases hv with | one _ _ q => cases q with | eptr => exact ⟨_, rfl⟩
      · cases h2
    obtain ⟨ad, hp⟩ := hp
    have hp' : a.tmps.getD c undef = .pointer (some ad) := hp
    refine ⟨z, ?_, h4⟩
    simp only [Instr.loadAt, hp, Instr.sureAddr, Sem.run_bind, Sem.run_pure, Result.andThen_ok] at h3
    simp only [resSem, hp', asAddr, Sem.run_bind, Sem.run_pure, Result.andThen_ok, h3]

theorem resAll_ok (hT : TabOk P T) (r : Rel E n g s a w) : ∀ (l : List ResultVar) (vs : List V), resAll T n s l = some vs →
    ∃ zs : List Value, (l.mapM (resSem a.tmps)).run P w = .ok zs w ∧ zs.length = vs.length ∧
      ∀ (i : Nat) (u : V) (v : Value), vs[i]? = some u → zs[i]? = some v → RV g s.sh w u v
  | [], vs, h => by
    obtain rfl : [] = vs := by simpa [resAll] using h
    exact ⟨[], by simp, rfl, fun i u v h => by simp at h⟩
  | x :: l, vs, h => by
    unfold resAll at h
    split at h
    · rename_i v vs' h1 h2
      obtain rfl : v :: vs' = vs := by simpa using h
      obtain ⟨z, h3, h4⟩ := resOne_ok hT r h1
      obtain ⟨zs, h5, h6, h7⟩ := resAll_ok hT r l vs' h2
      refine ⟨z :: zs, ?_, by simp [h6], fun i u v h8 h9 => ?_⟩
      · rw [List.mapM_cons]
        simp only [Sem.run_bind, h3, Result.andThen_ok, h5, Sem.run_pure]
      · cases i with
        | zero => simp at h8 h9; subst h8; subst h9; exact h4
        | succ i => exact h7 i u v (by simpa using h8) (by simpa using h9)
    · cases h

theorem results_ok (hT : TabOk P T) (r : Rel E n g s a w) {fn : Func} {vs : List V} (h : resAll T n s fn.results.toList = some vs) : ∃ z, (results fn a.tmps).run P w = .ok z w ∧ RV g s.sh w (resV vs) z := by
  obtain ⟨zs, h1, h2, h3⟩ := resAll_ok (P := P) hT r _ _ h
  rw [results_eq, Array.mapM_eq_mapM_toList]
  simp only [Sem.run_bind, Sem.run_map, h1, Result.andThen_ok, Sem.run_pure]
  refine ⟨_, rfl, ?_⟩
  by_cases hz : zs.length = 1
  · obtain ⟨z, rfl⟩ := List.length_eq_one_iff.1 hz
    obtain ⟨v, rfl⟩ := List.length_eq_one_iff.1 (by rw [← h2]; exact hz : vs.length = 1)
    simpa [resV] using h3 0 v z rfl rfl
  · rw [dif_neg (by simpa using hz)]
    have : resV vs = .tup vs := by
      unfold resV
      split
      · simp at h2; omega
      · rfl
    rw [this]
    exact .tup vs zs h2 h3

def pureR : V → Bool
  | .tup vs => pureVs vs
  | v => pureV v

theorem RV.pureR {g : Gh} {h : Sh} {w : World} (g' : Gh) (h' : Sh) (hi : g'.im = g.im) {u : V} {v : Value} (hp : pureR u = true) (hx : RV g h w u v) : RV g' h' w u v := by
  cases hx with
  | tup us vs hl hx => exact .tup us vs hl (fun i u v h1 h2 => (hx i u v h1 h2).pure g' h' hi (pureVs_get hp i u h1))
  | one c v hx => exact (RV.one c v hx).pure g' h' hi hp
  | agg cs vs hl hx => exact (RV.agg cs vs hl hx).pure g' h' hi hp
  | whenT => simp [Go.Proofs.YtepdjimbnbiicaaGreatDoor.pureR, pureV] at hp
  | whenF => simp [Go.Proofs.YtepdjimbnbiicaaGreatDoor.pureR, pureV] at hp
  | junk => simp [Go.Proofs.YtepdjimbnbiicaaGreatDoor.pureR, pureV] at hp

/-- Where the body ends: what is returned. -/
def Ends (T : TypeId → Option TI) (fn : Func) (r : V) : Ex → St → Prop
  | .exit _, _ => False
  | _, s => ∃ vs, resAll T fn.ntmps s fn.results.toList = some vs ∧ Go.Proofs.YtepdjimbnbiicaaGreatDoor.pureR (resV vs) = true ∧ LeV (resV vs) r

theorem argsV_get : ∀ (l : List V) (i : Nat), argsV l i = l.getD i .junk
  | [], i => by simp [argsV]
  | v :: l, 0 => rfl
  | v :: l, i + 1 => by simp only [argsV]; rw [argsV_get l i]; simp

theorem PureCall.of_body (hT : TabOk P T) {f : FuncId} {fn : Func} {c : Code} {args : List V} {r : V} (hf : P.funcs[f]? = some fn) (hname : (fn.name == "runtime.NumGoroutine") = false) (hb : fn.body = some c)
    (hn : args.length ≤ fn.ntmps) (h : ∀ E : Env J, W E P fn.ntmps c (Ends T fn r) ⟨argsV args, [], [], []⟩) : PureCall P J f args r := by
  refine ⟨⟨fn, hf, hname, by rw [hb]; rfl⟩, fun im w vs hJ hi hl hx => ?_⟩
  refine calls_of_wp hf hb ?_
  have hsh : (⟨argsV args, [], [], []⟩ : St).sh = noSh := rfl
  have rel : Rel (⟨w, im, hJ⟩ : Env J) fn.ntmps (noGh im) ⟨argsV args, [], [], []⟩ { tmps := vs.toArray ++ Array.replicate (fn.ntmps - vs.toArray.size) undef, defers := [] } w := by
    refine ⟨Below.refl _ _, fun b h => h, hi, fun b h => .inl h, fun x hx => ?_, ?_, ?_, rfl, fun i hi' => ?_⟩
    · cases x with
      | b l => exact absurd (show l < 0 from hx) (Nat.not_lt_zero _)
      | r l => obtain ⟨o, h, _⟩ := hx; simp at h
      | m l => exact absurd (show l < 0 from hx) (Nat.not_lt_zero _)
    · have hno : ∀ x, ¬ (⟨argsV args, [], [], []⟩ : St).live x := fun x hx => by
        cases x with
        | b l => exact absurd (show l < 0 from hx) (Nat.not_lt_zero _)
        | r l => obtain ⟨o, h, _⟩ := hx; simp at h
        | m l => exact absurd (show l < 0 from hx) (Nat.not_lt_zero _)
      exact ⟨fun x hx => absurd hx (hno x), fun x hx => absurd hx (hno x), fun x y hx => absurd hx (hno x), fun l cs h => by simp at h, fun l cs h => by simp at h, fun l cs h => by simp at h⟩
    · simp [hl]; omega
    · rw [hsh]
      show RV _ _ _ (argsV args i) _
      rw [argsV_get]
      rcases Nat.lt_or_ge i args.length with h1 | h1
      · have h2 : vs[i]? = some vs[i] := List.getElem?_eq_getElem (by omega)
        have h3 : args[i]? = some args[i] := List.getElem?_eq_getElem h1
        rw [List.getD_eq_getElem?_getD, h3, Option.getD_some]
        have h4 : (vs.toArray ++ Array.replicate (fn.ntmps - vs.toArray.size) undef).getD i undef = vs[i] := by
          rw [Array.getD_eq_getD_getElem?, Array.getElem?_append_left (by simp; omega)]
          simp [h2]
        rw [h4]
        exact hx i _ _ h3 h2
      · rw [List.getD_eq_getElem?_getD, List.getElem?_eq_none h1]
        exact .junk _
  refine wp_mono (h ⟨w, im, hJ⟩ (noGh im) _ w rel) ?_
  rintro _ a' w' ⟨e, s', g', rfl, hk, r'⟩
  have fin : (∃ vs, resAll T fn.ntmps s' fn.results.toList = some vs ∧ Go.Proofs.YtepdjimbnbiicaaGreatDoor.pureR (resV vs) = true ∧ LeV (resV vs) r) → a'.defers = [] ∧ ∃ v, (results fn a'.tmps).run P w' = .ok v w' ∧
      ∃ v_1 im', Ending.returned v = Ending.returned v_1 ∧ Below w.heap.size w w' ∧ (∀ b, im b → im' b) ∧ (∀ b, im' b → b < w'.heap.size) ∧ (∀ b, im' b → im b ∨ w.heap.size ≤ b) ∧ RV (noGh im') noSh w' r v_1 := by
    rintro ⟨vs, h1, h2, h3⟩
    obtain ⟨z, h4, h5⟩ := results_ok (P := P) hT r' h1
    exact ⟨r'.defers, z, h4, z, g'.im, rfl, r'.below, r'.im0, r'.imlt, r'.imold, h3 _ _ _ (h5.pureR (noGh g'.im) noSh (show (noGh g'.im).im = g'.im from rfl) h2)⟩
  cases e with
  | normal => exact fin hk
  | exit id => exact hk.elim
  | ret => exact fin hk

end
end Go.Proofs.YtepdjimbnbiicaaGreatDoor
