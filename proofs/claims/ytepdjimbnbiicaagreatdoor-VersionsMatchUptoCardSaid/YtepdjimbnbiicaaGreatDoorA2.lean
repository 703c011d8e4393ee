/- The abstract layer, part 2: what a piece of code does to an abstract state; contracts of functions; calls. -/
import Derived.Test.YtepdjimbnbiicaaGreatDoorA1
import Derived.Deep.LoopGhost
set_option linter.unusedVariables false
namespace Go.Proofs.YtepdjimbnbiicaaGreatDoor
open Go Go.RowKit

inductive Ex where
  | normal | exit (id : Nat) | ret

def Ex.exit' : Ex → Exit
  | .normal => .normal | .exit id => .exit id | .ret => .ret

/-- What a piece of code does, told of abstract states. -/
def W {J : Inv} (E : Env J) (P : Program) (n : Nat) (c : Code) (K : Ex → St → Prop) (s : St) : Prop :=
  ∀ g a w, Rel E n g s a w → c.wp P (fun e a' w' => ∃ x s' g', e = Ex.exit' x ∧ K x s' ∧ Rel E n g' s' a' w') a w

section
variable {J : Inv} {E : Env J} {P : Program} {n : Nat} {K K' : Ex → St → Prop} {s : St}

theorem W.mono {c : Code} (h : W E P n c K s) (hk : ∀ e s, K e s → K' e s) : W E P n c K' s :=
  fun g a w r => wp_mono (h g a w r) (fun _ _ _ ⟨x, s', g', h1, h2, h3⟩ => ⟨x, s', g', h1, hk _ _ h2, h3⟩)

/-- Another state that tells less. -/
theorem W.weaken {c : Code} {s' : St} (h : W E P n c K s') (hr : ∀ g a w, Rel E n g s a w → ∃ g', Rel E n g' s' a w) : W E P n c K s :=
  fun g a w r => let ⟨g', r'⟩ := hr g a w r; h g' a w r'

theorem W.skip (h : K .normal s) : W E P n .skip K s := fun g a w r => wp_skip ⟨.normal, s, g, rfl, h, r⟩
theorem W.exit {id : Nat} (h : K (.exit id) s) : W E P n (.exit id) K s := fun g a w r => wp_exit ⟨.exit id, s, g, rfl, h, r⟩
theorem W.ret (h : K .ret s) : W E P n .ret K s := fun g a w r => wp_ret ⟨.ret, s, g, rfl, h, r⟩

/-- What is asked behind the first of two pieces. -/
def thenK (next : St → Prop) (K : Ex → St → Prop) : Ex → St → Prop
  | .normal, s => next s
  | e, s => K e s

theorem W.seq {x y : Code} (h : W E P n x (thenK (W E P n y K) K) s) : W E P n (.seq x y) K s := by
  intro g a w r
  refine wp_seq (wp_mono (h g a w r) ?_)
  rintro _ a' w' ⟨e, s', g', rfl, hk, r'⟩
  cases e with
  | normal => exact hk g' a' w' r'
  | exit id => exact ⟨.exit id, s', g', rfl, hk, r'⟩
  | ret => exact ⟨.ret, s', g', rfl, hk, r'⟩

/-- The same, what follows behind a name. -/
theorem W.seq_k {x y : Code} (h : ∀ N : St → Prop, (∀ s, W E P n y K s → N s) → W E P n x (thenK N K) s) : W E P n (.seq x y) K s := W.seq (h _ fun _ h => h)

def blockK (id : Nat) (K : Ex → St → Prop) : Ex → St → Prop
  | .exit j, s => bif Nat.beq j id then K .normal s else K (.exit j) s
  | e, s => K e s

theorem W.block {id : Nat} {c : Code} (h : W E P n c (blockK id K) s) : W E P n (.block id c) K s := by
  intro g a w r
  refine wp_block (wp_mono (h g a w r) ?_)
  rintro _ a' w' ⟨e, s', g', rfl, hk, r'⟩
  cases e with
  | normal => exact ⟨.normal, s', g', rfl, hk, r'⟩
  | exit j =>
    show if j = id then _ else _
    by_cases hj : j = id
    · rw [if_pos hj]
      subst hj
      have : K .normal s' := by simpa [blockK] using hk
      exact ⟨.normal, s', g', rfl, this, r'⟩
    · rw [if_neg hj]
      have hb : Nat.beq j id = false := by simpa [← Bool.not_eq_true] using hj
      have : K (.exit j) s' := by simpa [blockK, hb] using hk
      exact ⟨.exit j, s', g', rfl, this, r'⟩
  | ret => exact ⟨.ret, s', g', rfl, hk, r'⟩

/-- A loop: an invariant with a number that every round lowers. -/
theorem W.loop {c : Code} (I : Nat → St → Prop) (m : Nat) (h0 : I m s)
    (round : ∀ m s, I m s → W E P n c (thenK (fun s' => ∃ m', m' < m ∧ I m' s') K) s) : W E P n (.loop c) K s := by
  intro g a w r
  refine wp_loop_ghost (fun m a w => ∃ s g, I m s ∧ Rel E n g s a w) m ⟨s, g, h0, r⟩ ?_
  rintro m a w ⟨s, g, hi, r⟩
  refine wp_mono (round m s hi g a w r) ?_
  rintro _ a' w' ⟨e, s', g', rfl, hk, r'⟩
  cases e with
  | normal => obtain ⟨m', h1, h2⟩ := hk; exact ⟨m', h1, s', g', h2, r'⟩
  | exit id => exact ⟨.exit id, s', g', rfl, hk, r'⟩
  | ret => exact ⟨.ret, s', g', rfl, hk, r'⟩

/-! ### Operands -/
mutual
def constC : Value → C
  | .int k m => .d (.int k m)
  | .bool b => .d (.bool b)
  | .string s => .d (.str s.data.toList)
  | .slice none 0 0 => .d .nilsl
  | .map none => .d .nilmap
  | .pointer none => .d .nilptr
  | .nilIface => .d (.err true)
  | _ => .junk
end
def constV : Value → V
  | .agg cs => .agg (cs.toList.map constC)
  | .tuple _ => .junk
  | .float _ _ => .junk
  | v => .one (constC v)

/-- What is left behind the marks 'when', and the marks' conjunction. -/
def strip : V → Bool × V
  | .when b v => let r := strip v; (b && r.1, r.2)
  | v => (true, v)

def opdV (s : St) : Operand → V
  | .tmp t => s.t t
  | .const v => constV v
  | .func f => .one (.d (.fn f))
  | .global _ => .junk

theorem constC_ok (g : Gh) (h : Sh) (w : World) (v : Value) (hv : v.oneCell' = true) : RC g h w (constC v) v := by
  unfold constC
  split <;> first | exact .d _ _ (.int _ _) | exact .d _ _ (.bool _) | exact .d _ _ (.str _) | exact .d _ _ .nilsl | exact .d _ _ .nilmap | exact .d _ _ .nilptr | exact .d _ _ .errNil | exact .junk _ hv

/-- The constants that occur: aggregates of single cells. -/
def constOk : Value → Bool
  | .agg cs => cs.toList.all (·.oneCell')
  | _ => true

theorem constV_ok (g : Gh) (h : Sh) (w : World) (v : Value) (hv : constOk v = true) : RV g h w (constV v) v := by
  unfold constV
  split
  · rename_i cs
    have := RV.agg (g := g) (h := h) (w := w) (cs.toList.map constC) cs.toList (by simp) (fun i c v h1 h2 => by
      simp only [List.getElem?_map, h2, Option.map_some, Option.some.injEq] at h1
      subst h1
      refine constC_ok g h w v ?_
      have hm : v ∈ cs := by have := List.mem_of_getElem? h2; simpa using this
      simp only [constOk, List.all_eq_true, Array.mem_toList_iff] at hv
      exact hv v hm)
    simpa using this
  · exact .junk _
  · exact .junk _
  · rename_i h1 h2 h3
    refine .one _ _ (constC_ok g h w _ ?_)
    cases v <;> first | rfl | (exfalso; first | exact h1 _ rfl | exact h2 _ rfl)

def opdOk : Operand → Bool
  | .const v => constOk v
  | _ => true

theorem opdV_ok {g : Gh} {a : Act} {w : World} (r : Rel E n g s a w) (x : Operand) (hx : opdOk x = true) (hn : ∀ t, x = .tmp t → t < n) : RV g s.sh w (opdV s x) (a.eval x) := by
  cases x with
  | tmp t => exact r.tmps t (hn t rfl)
  | const v => exact constV_ok _ _ _ _ hx
  | func f => exact .one _ _ (.d _ _ (.fn f))
  | global g => exact .junk _

theorem strip_ok {g : Gh} {h : Sh} {w : World} : ∀ {u : V} {v : Value}, RV g h w u v → (strip u).1 = true → RV g h w (strip u).2 v
  | .when b u, v, hx, hb => by
    cases hx with
    | whenT _ _ hy => exact strip_ok (u := u) (v := v) hy (by simpa [strip] using hb)
    | whenF _ => simp [strip] at hb
  | .one c, v, hx, hb => hx
  | .agg c, v, hx, hb => hx
  | .tup c, v, hx, hb => hx
  | .junk, v, hx, hb => hx

/-- A temporary's number is in the frame. -/
def tmpOk (n : Nat) : Operand → Bool
  | .tmp t => Nat.blt t n
  | x => opdOk x

def opd (n : Nat) (s : St) (x : Operand) : Bool × V := let r := strip (opdV s x); (tmpOk n x && r.1, r.2)

theorem opd_ok {g : Gh} {a : Act} {w : World} (r : Rel E n g s a w) {x : Operand} {b : Bool} {v : V} (hx : opd n s x = (b, v)) (hb : b = true) : RV g s.sh w v (a.eval x) := by
  simp only [opd, Prod.mk.injEq] at hx
  obtain ⟨h1, rfl⟩ := hx
  rw [← h1, Bool.and_eq_true] at hb
  refine strip_ok (opdV_ok r x (by cases x <;> first | rfl | exact hb.1) (fun t ht => by subst ht; simpa [tmpOk, Nat.blt_eq] using hb.1)) hb.2

theorem W.cond {x y : Code} {c : Operand} {b : Bool} (hc : opd n s c = (true, .one (.d (.bool b))))
    (ht : b = true → W E P n x K s) (hf : b = false → W E P n y K s) : W E P n (.cond c x y) K s := by
  intro g a w r
  have h := opd_ok r hc rfl
  obtain ⟨v, hv⟩ : ∃ v, v = a.eval c := ⟨_, rfl⟩
  rw [← hv] at h
  cases h with | one _ _ h => cases h with | d _ _ h => cases h with | bool =>
  exact wp_cond_split hv.symm (fun e => ht e g a w r) (fun e => hf e g a w r)

/-! ### Operations -/
def QN {J : Inv} (E : Env J) (n : Nat) (K : St → Prop) : Exit → Act → World → Prop
  | .normal, a, w => ∃ s g, K s ∧ Rel E n g s a w
  | _, _, _ => False

/-- One operation of a region. -/
def Step {J : Inv} (E : Env J) (P : Program) (n : Nat) (ops : Array Oper) (o : Oper) (K : St → Prop) (s : St) : Prop :=
  ∀ g a w, Rel E n g s a w → ∀ (next : Act → World → Prop) (Q : Exit → Act → World → Prop), (∀ s' g' a' w', K s' → Rel E n g' s' a' w' → next a' w') →
    if Region.wanted o (yielded ops a.tmps) then o.wp P a w next Q else next (a.put o.dst undef) w

/-- The operations of a region that are left, in the text's order. -/
def WL {J : Inv} (E : Env J) (P : Program) (n : Nat) (ops : Array Oper) : List Oper → (St → Prop) → St → Prop
  | [], K, s => K s
  | o :: l, K, s => Step E P n ops o (WL E P n ops l K) s

theorem wpOps_of_WL {ops : Array Oper} {Q : Exit → Act → World → Prop} {K : St → Prop} : ∀ (l : List Oper) (k : Nat) (s : St), ops.toList.drop k = l → WL E P n ops l K s →
    ∀ g a w, Rel E n g s a w → (∀ s' g' a' w', K s' → Rel E n g' s' a' w' → Q .normal a' w') → wpOps P ops Q (List.range' k l.length) a w
  | [], k, s, hl, h, g, a, w, r, hq => hq s g a w h r
  | o :: l, k, s, hl, h, g, a, w, r, hq => by
    have ho : ops[k]? = some o := by
      have := congrArg (fun x => x[0]?) hl
      simpa using this
    have ht : ops.toList.drop (k + 1) = l := by
      have := congrArg (List.drop 1) hl
      simpa [List.drop_drop, Nat.add_comm] using this
    have h1 := h g a w r (wpOps P ops Q (List.range' (k + 1) l.length)) Q (fun s' g' a' w' hk r' => wpOps_of_WL l (k + 1) s' ht hk g' a' w' r' hq)
    simp only [List.length_cons, List.range'_succ]
    unfold wpOps
    simp only [ho]
    split
    · rename_i hw; rw [if_pos hw] at h1; exact .inl h1
    · rename_i hw; rw [if_neg hw] at h1; exact h1

theorem W.region {id : Nat} {l : List Oper} (h : WL E P n l.toArray l (K .normal) s) : W E P n (.region id l.toArray false) K s := by
  intro g a w r
  refine wp_region ?_
  have := wpOps_of_WL (Q := fun e a' w' => ∃ x s' g', e = Ex.exit' x ∧ K x s' ∧ Rel E n g' s' a' w') l 0 s (by simp) h g a w r (fun s' g' a' w' hk r' => ⟨.normal, s', g', rfl, hk, r'⟩)
  simpa [List.range_eq_range'] using this

theorem WL.nil {ops : Array Oper} {K : St → Prop} (h : K s) : WL E P n ops [] K s := h
theorem WL.cons {ops : Array Oper} {o : Oper} {l : List Oper} {K : St → Prop} (h : Step E P n ops o (WL E P n ops l K) s) : WL E P n ops (o :: l) K s := h

/-! ### Contracts -/
def argsV : List V → Nat → V
  | [], _ => .junk
  | v :: l, i => match i with | 0 => v | i + 1 => argsV l i

/- Values without own places. -/
mutual
def pureC : C → Bool
  | .d _ => true
  | .clo _ caps => pureCs caps
  | _ => false
def pureCs : List C → Bool
  | [] => true
  | c :: l => pureC c && pureCs l
end
def pureV : V → Bool
  | .one c => pureC c
  | .agg cs => pureCs cs
  | _ => false

/-- Weaker telling of pure data: a nil slice is one without elements. -/
inductive LeD : D → D → Prop where
  | refl (x : D) : LeD x x
  | nil (sz : Nat) : LeD .nilsl (.vec sz [])

def noGh (im : Nat → Prop) : Gh := ⟨im, fun _ => 0, fun _ => 0, fun _ => 0⟩
def noSh : Sh := ⟨0, [], 0⟩

/-- 'Called with arguments that are told as 'args', it returns what is told as 'r'; of what was there nothing has turned.' -/
structure PureCall (P : Program) (J : Inv) (f : FuncId) (args : List V) (r : V) : Prop where
  enter : ∃ fn, P.funcs[f]? = some fn ∧ (fn.name == "runtime.NumGoroutine") = false ∧ fn.body.isNone = false
  calls : ∀ (im : Nat → Prop) (w : World) (vs : List Value), J.I w → (∀ b, im b → b < w.heap.size) → vs.length = args.length →
    (∀ (i : Nat) (u : V) (v : Value), args[i]? = some u → vs[i]? = some v → RV (noGh im) noSh w u v) →
    Calls P f vs.toArray w fun e w' => ∃ v im', e = .returned v ∧ Below w.heap.size w w' ∧ (∀ b, im b → im' b) ∧ (∀ b, im' b → b < w'.heap.size) ∧
      (∀ b, im' b → im b ∨ w.heap.size ≤ b) ∧ RV (noGh im') noSh w' r v
end
end Go.Proofs.YtepdjimbnbiicaaGreatDoor
