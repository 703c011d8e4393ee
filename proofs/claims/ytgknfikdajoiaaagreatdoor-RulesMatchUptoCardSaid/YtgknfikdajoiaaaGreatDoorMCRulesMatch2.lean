/- Part 2 of a proof: A54, A55, A56, A57, A58, A20, Shelf, P0, L1, P1, W80, V1, V2, V3, V4, V5, V6, V7, V8, V9, V10, V11, V12, V13, V14, V15, V16, V21, V22, V23, V20, V60, V80, W81, A59, W82, W1, L2, W2, W3, W4, W5, L3, W6, W7, W8, W9, W10, W11, W30, W31, V61, V62. -/
import Derived.Laws.LoneSync
import Derived.Defers
import Derived.Laws.CopyRow
import Derived.Shelf.Strings.Builder1
import Derived.Shelf.Strings.Builder2
import Derived.Shelf.Strings.OnBuilder
import Derived.Shelf.Strings.Trim
import Derived.Shelf.Small.Utf8
import Derived.Shelf.Small.Bits
import Derived.Shelf.Small.Strs
import Derived.Shelf.Small.Wraps
import Derived.Shelf.Strings.BuilderF
import Derived.Shelf.Strings.BuilderK
import Derived.Shelf.Utf8.RuneCount
import Derived.Shelf.Strings.Builder2Cap
import Derived.Shelf.Strconv.Atoi
import Derived.Shelf.Strconv.Itoa0
import Derived.Shelf.Strconv.Itoa1
import Derived.Shelf.LaysM
import Derived.Shelf.Strconv.Itoa2
import Derived.Shelf.Strconv.Itoa3
import Derived.Shelf.Strconv.AtoiErrFast
import Derived.Shelf.Strconv.ParseIntEmpty
import Derived.Shelf.Strconv.AtoiFail
import Derived.Shelf.Strconv.Clone
import Derived.Shelf.Strconv.SyntaxError
import Derived.Shelf.LaysC
import Derived.Shelf.Strconv.ToError
import Derived.Shelf.Strconv.Lower
import Derived.Shelf.Strconv.ParseUint10
import Derived.Shelf.Strconv.ParseUint10Empty
import Derived.Shelf.Strconv.ParseUint10Any
import Derived.Shelf.Strconv.ParseInt10
import Derived.Shelf.Strconv.AtoiLong
import Derived.Shelf.Strconv.AtoiInnerAll
import Derived.Shelf.Strconv.RangeError
import Derived.Shelf.Strconv.ToErrorRange
import Derived.Shelf.Strconv.AtoiAll
import Derived.Shelf.Strconv.ErrVarAll
import Derived.Shelf.Strconv.ParseUintEmpty
import Derived.Shelf.Strconv.ParseUint10b64
import Derived.Shelf.Strconv.ParseUint10b32
import Derived.Shelf.Strconv.ParseUint10b16
import Derived.Shelf.Strconv.ParseUint10b8
import Derived.Shelf.Strconv.ParseUint10At
import Derived.Shelf.Strings.Search1
import Derived.Shelf.Strings.Search2
import Derived.Shelf.Strings.Search3
import Derived.Shelf.Strings.Cut
import Derived.Shelf.Strings.Count
import Derived.Shelf.Strings.Shaped
import Derived.Shelf.Sort.Plain
import Derived.Shelf.Strings.Prefix
import Derived.Shelf.Strings.Split
import Derived.Shelf.Strings.Replace
import Derived.Shelf.Strings.SplitShaped
import Derived.Shelf.Unicode.Decode
import Derived.Shelf.Strings.Runes
import Derived.Shelf.Strings.RuneCount
import Derived.Shelf.Strings.AsciiSet
import Derived.Shelf.Strings.Explode
import Derived.Shelf.Unicode.DecodeSlow
import Derived.Shelf.Unicode.DecodeAny
import Derived.Shelf.Unicode.DecodeLast
import Derived.Shelf.Strings.BuilderCap
import Derived.Shelf.Slices.Turned
import Derived.Shelf.Slices.Equal
import Derived.Shelf.Slices.CompactS
import Derived.Ground.Names2Prog
import Derived.Shelf.Slices.SearchI
import Derived.Shelf.Slices.Cells
import Derived.Shelf.Slices.In.SortNone
import Derived.Shelf.Slices.Empties2
import Derived.Test.YtgknfikdajoiaaaGreatDoorProg
import Derived.Lib.SplitLaws
import Derived.Lib.ItoaNum
import Derived.Lib.AtoiAll
import Derived.Shelf.Strings.SlTrimAscii
import Derived.Lib.TrailingZeros
import Derived.Lib.IndexMore
import Derived.Lib.Small
import Derived.Lib.Bytealg
import Derived.Lib.SlTrimSet
import Derived.Lib.AtoiTie
import Derived.Lib.Join
import Derived.Lib.ItoaLen
import Derived.Test.YtgknfikdajoiaaaGreatDoorMCRulesMatch1
set_option linter.unusedVariables false
set_option linter.unusedSimpArgs false
namespace Go.Proofs.YtgknfikdajoiaaaGreatDoor
open Go Go.RowKit
section
variable {J : Inv} {k0 : Lens} {E : Env J k0} {P : Program} {T : TypeId → Option TI} {n : Nat} {t : Nat → V} {b : List (List C)} {r : List (Option RowO)} {m : List (List (DV × DV))} {ops : Array Oper} {l : List Oper}
  {K : St → Prop} {i : Nat} {ty : TypeId} {pos : String} {after : Array Edge}
theorem S.makeBnd {f : FuncId} {x : Operand} {lo off : Nat} (hx : opd n ⟨t, b, r, m⟩ x = (true, .one (.ptr lo off))) (k : WL E P n ops l K ⟨upd t i (.one (.wr (.bnd f) lo off)), b, r, m⟩) :
    WL E P n ops (⟨some i, .makeFunc (.func f) #[x] #[], ty, pos, after, none⟩ :: l) K ⟨t, b, r, m⟩ := by
  intro g a w rel next Q hn
  have hw : Region.wanted (⟨some i, .makeFunc (.func f) #[x] #[], ty, pos, after, none⟩ : Oper) (yielded ops a.tmps) = true := by simp [Region.wanted]
  rw [if_pos hw]
  have hp := opd_ok rel hx rfl
  generalize hz : a.eval x = z at hp
  cases hp with | one _ _ hp => cases hp with | ptr _ _ hl =>
  have hrun : (execOp a.eval (⟨some i, .makeFunc (.func f) #[x] #[], ty, pos, after, none⟩ : Oper)).run P w = .ok (.value (.func (.func f) #[.pointer (some ⟨g.at_ (.b lo), off, none⟩)] #[])) w := by
    simp [execOp, Instr.makeFunc, hz]
  unfold Oper.wp
  rw [hrun]
  exact hn _ g _ _ k (rel.put_same (some i) (.one _ _ (.wr (.bnd f) lo off hl)))
def notIfc : TypeDesc → Bool
  | .interface _ => false
  | _ => true
theorem S.makeIfc {xt : TypeId} {dd : TypeDesc} {x : Operand} {lo off : Nat} (hut : P.underlying xt = some dd) (hd : notIfc dd = true) (hx : opd n ⟨t, b, r, m⟩ x = (true, .one (.ptr lo off))) (k : WL E P n ops l K ⟨upd t i (.one (.wr (.ifc xt) lo off)), b, r, m⟩) :
    WL E P n ops (⟨some i, .makeInterface xt x, ty, pos, after, none⟩ :: l) K ⟨t, b, r, m⟩ := by
  intro g a w rel next Q hn
  have hw : Region.wanted (⟨some i, .makeInterface xt x, ty, pos, after, none⟩ : Oper) (yielded ops a.tmps) = true := by simp [Region.wanted]
  rw [if_pos hw]
  have hp := opd_ok rel hx rfl
  generalize hz : a.eval x = z at hp
  cases hp with | one _ _ hp => cases hp with | ptr _ _ hl =>
  have hrun : (execOp a.eval (⟨some i, .makeInterface xt x, ty, pos, after, none⟩ : Oper)).run P w = .ok (.value (.iface xt (.pointer (some ⟨g.at_ (.b lo), off, none⟩)))) w := by
    simp only [execOp, hz, Instr.makeInterface, Sem.run_bind, run_underlying hut, Result.andThen_ok]
    cases hq : dd <;> rw [hq] at hd <;> first | (cases hd; done) | simp only [Sem.run_pure, Result.andThen_ok]
  unfold Oper.wp
  rw [hrun]
  exact hn _ g _ _ k (rel.put_same (some i) (.one _ _ (.wr (.ifc xt) lo off hl)))
theorem enter_wp {g : Gh} {a : Act} {w : World} (rel : Rel E n g ⟨t, b, r, m⟩ a w) {o : Oper} {f : FuncId} {us : List V} {vs : List Value} {Q : HPost} (hrun : (execOp a.eval o).run P w = .ok (.enter f vs.toArray) w) (hl : vs.length = us.length)
    (hx : ∀ (i : Nat) (u : V) (v : Value), us[i]? = some u → vs[i]? = some v → RV g (⟨t, b, r, m⟩ : St).sh w u v) (pc : HCall P J f us b r m Q)
    {next : Act → World → Prop} {Qx : Exit → Act → World → Prop} (k : ∀ v g' w' rv b' r' m', Rel E n g' ⟨t, b', r', m'⟩ a w' → RV g' (hst b' r' m').sh w' rv v → Q rv b' r' m' → next (a.put o.dst v) w') : o.wp P a w next Qx := by
  have hN : ∀ x, (hst b r m).live x → J.N ≤ g.at_ x := fun x hx => by
    rcases rel.own x (live_t hx) with h | h
    · exact E.hN _ h
    · exact Nat.le_trans (J.lt _ E.hI) h
  have hcall := pc.calls g w vs rel.inv rel.imlt (rel.heap.t _) hN hl hx
  unfold Oper.wp
  rw [hrun]
  show Calls P f _ w _
  refine hcall.mono ?_
  rintro e w' ⟨v, g', rv, b', r', m', rfl, p2, p3, p4, p5, p6, p7, p8, p9⟩
  exact k v g' w' rv b' r' m' (rel.behind p2 p3 p4 p5 p6 p7) p8 p9
theorem S.invoke {recv : Operand} {name : String} {args : Array Operand} {ats : Array TypeId} {tt : TypeId} {lo off : Nat} {f : FuncId} {us ws : List V} {rv : V} {b' : List (List C)} {r' : List (Option RowO)} {m' : List (List (DV × DV))}
    (hx : opd n ⟨t, b, r, m⟩ recv = (true, .one (.wr (.ifc tt) lo off))) (ha : allOpdL n ⟨t, b, r, m⟩ args.toList = (true, us)) (hw : forceVs (.one (.ptr lo off) :: us) = some ws)
    (hm : ∀ (a : Addr) (w : World), (Go.method (P.types.size + Made.depth) tt (.pointer (some a)) name).run P w = .ok (f, .pointer (some a)) w) (pc : HCall P J f ws b r m (isH rv b' r' m'))
    (k : WL E P n ops l K ⟨upd t i rv, b', r', m'⟩) : WL E P n ops (⟨some i, .call ⟨.invoke recv name, args, ats⟩, ty, pos, after, none⟩ :: l) K ⟨t, b, r, m⟩ := by
  obtain rfl := forceVs_eq hw
  intro g a w rel next Q hn
  have hwt : Region.wanted (⟨some i, .call ⟨.invoke recv name, args, ats⟩, ty, pos, after, none⟩ : Oper) (yielded ops a.tmps) = true := by simp [Region.wanted]
  rw [if_pos hwt]
  have hp := opd_ok rel hx rfl
  generalize hz : a.eval recv = z at hp
  cases hp with | one _ _ hp => cases hp with | wr _ _ _ hl =>
  obtain ⟨fn, hf, h1, h2⟩ := pc.enter
  obtain ⟨hal, hav⟩ := allOpdL_ok rel _ _ _ ha rfl
  have hrun : (execOp a.eval (⟨some i, .call ⟨.invoke recv name, args, ats⟩, ty, pos, after, none⟩ : Oper)).run P w = .ok (.enter f (.pointer (some ⟨g.at_ (.b lo), off, none⟩) :: args.toList.map a.eval).toArray) w := by
    have e : ∀ x : Value, (#[x] ++ args.map a.eval : Array Value).extract 1 (#[x] ++ args.map a.eval).size = args.map a.eval := fun x => by
      apply Array.toList_inj.1
      simp [List.take_of_length_le]
    have e0 : ∀ x : Value, (#[x] ++ args.map a.eval : Array Value)[0]? = some x := fun x => by
      rw [Array.getElem?_append_left (by simp)]; rfl
    have e1 : (#[Value.pointer (some ⟨g.at_ (.b lo), off, none⟩)] ++ args.map a.eval : Array Value) = (.pointer (some ⟨g.at_ (.b lo), off, none⟩) :: args.toList.map a.eval).toArray := by
      apply Array.toList_inj.1; simp
    simp only [execOp, resolve, hz, Wr.v, Sem.run_bind, Sem.run_pure, Result.andThen_ok]
    unfold Go.invoke
    simp only [Sem.run_bind, Sem.run_pure, Result.andThen_ok, e0, e, callMethod, run_program, hm, e1, callFunc_run hf h1 h2]
  refine enter_wp rel hrun (by simp [hal]) (fun j u v hu hv => ?_) pc (fun v g' w' rv' b1 r1 m1 rel' hv' ⟨q1, q2, q3, q4⟩ => by
    subst q1; subst q2; subst q3; subst q4
    exact hn _ g' _ _ k (rel'.put_same (some i) hv'))
  cases j with
  | zero => simp at hu hv; subst hu; subst hv; exact .one _ _ (.ptr _ _ hl)
  | succ j => simp at hu hv; exact hav j u v hu (by simpa using hv)
theorem ext_run {g : Gh} {a : Act} {w w' : World} {s : St} (rel : Rel E n g s a w) {o : Oper} {fo : Operand} {args : Array Operand} {ats : Array TypeId} (ho : o.op = .call { callee := .value fo, args, argTypes := ats }) {f : FuncId}
    (hu : opd n s fo = (true, .one (.d (.fn f)))) {xs : Array Value} (hxs : args.map a.eval = xs) {v : Value} (hrun : (callFunc f xs).run P w = .ok (.value v) w') : (execOp a.eval o).run P w = .ok (.value v) w' := by
  have hv := opd_ok rel hu rfl
  generalize hz : a.eval fo = z at hv
  cases hv with | one _ _ q => cases q with | d _ _ q => cases q with | fn =>
  subst hxs
  have e : (#[] ++ args.map a.eval ++ #[] : Array Value) = args.map a.eval := by simp
  simp only [execOp, ho, resolve, hz, Deferred.ofValue, Sem.run_bind, Sem.run_pure, Result.andThen_ok, invoke, e, hrun]
theorem box_get {g : Gh} {s : St} {w : World} (hH : Heap g s w) {lo off : Nat} {cs : List C} {c : C} (hb : s.b[lo]? = some cs) (hc : cs[off]? = some c) :
    ∃ (vs : List Value) (tt : TypeId) (v : Value), w.heap[g.at_ (.b lo)]? = some (.cells vs.toArray tt (0, 0)) ∧ vs.length = cs.length ∧ vs[off]? = some v ∧ RC g s.sh w c v := by
  obtain ⟨vs, tt, q1, q2, q3⟩ := hH.box lo cs hb
  have hlt := (List.getElem?_eq_some_iff.1 hc).1
  have hlv : off < vs.toList.length := by simpa [q2] using hlt
  refine ⟨vs.toList, tt, vs.toList[off], by simpa using q1, by simpa using q2, List.getElem?_eq_getElem hlv, q3 off c _ hc ?_⟩
  rw [← Array.getElem?_toList]; exact List.getElem?_eq_getElem hlv
theorem cell_as {w : World} {k off : Nat} {vs : List Value} {tt : TypeId} (h : w.heap[k]? = some (.cells vs.toArray tt (0, 0))) : w.cell? ⟨k, off, none⟩ = vs[off]? ∧ w.frozen? ⟨k, off, none⟩ = false := by
  constructor
  · simp [World.cell?, h]
  · simp [World.frozen?, h]
theorem setCell_as {w : World} {k off : Nat} {vs : List Value} {tt : TypeId} (h : w.heap[k]? = some (.cells vs.toArray tt (0, 0))) (ho : off < vs.length) (u : Value) :
    w.setCell ⟨k, off, none⟩ u = { w with heap := w.heap.setIfInBounds k (.cells (vs.take off ++ [u] ++ vs.drop (off + [u].length)).toArray tt (0, 0)) } := by
  have hk := (Array.getElem?_eq_some_iff.1 h).1
  have hkv := (Array.getElem?_eq_some_iff.1 h).2
  have e : vs.take off ++ [u] ++ vs.drop (off + [u].length) = vs.set off u := by
    rw [List.set_eq_take_append_cons_drop, if_pos ho]; simp
  rw [e]
  unfold World.setCell
  congr 1
  apply Array.ext_getElem?
  intro j
  rw [Array.getElem?_modify, Array.getElem?_setIfInBounds]
  by_cases hj : k = j
  · subst hj
    rw [if_pos rfl, if_pos rfl, if_pos hk, h]
    simp
  · rw [if_neg hj, if_neg hj]
theorem S.atLoad {f : FuncId} {fo x : Operand} {ats : Array TypeId} {lo off : Nat} {cs : List C} {kd : IntKind} {z : Int} (hr : ∀ (a : Addr) (w : World), w.cell? a = some (.int kd z) → (callFunc f #[.pointer (some a)]).run P w = .ok (.value (.int kd z)) w)
    (hu : opd n ⟨t, b, r, m⟩ fo = (true, .one (.d (.fn f)))) (hx : opd n ⟨t, b, r, m⟩ x = (true, .one (.ptr lo off))) (hb : b[lo]? = some cs) (hc : cs[off]? = some (.d (.int kd z)))
    (k : WL E P n ops l K ⟨upd t i (.one (.d (.int kd z))), b, r, m⟩) : WL E P n ops (⟨some i, .call ⟨.value fo, #[x], ats⟩, ty, pos, after, none⟩ :: l) K ⟨t, b, r, m⟩ := by
  intro g a w rel next Q hn
  have hw : Region.wanted (⟨some i, .call ⟨.value fo, #[x], ats⟩, ty, pos, after, none⟩ : Oper) (yielded ops a.tmps) = true := by simp [Region.wanted]
  rw [if_pos hw]
  have hp := opd_ok rel hx rfl
  generalize hz : a.eval x = zz at hp
  cases hp with | one _ _ hp => cases hp with | ptr _ _ hl =>
  obtain ⟨vs, tt, v, q1, q2, q3, q4⟩ := box_get rel.heap hb hc
  cases q4 with | d _ _ q4 => cases q4 with | int =>
  have hrun := ext_run (o := ⟨some i, .call ⟨.value fo, #[x], ats⟩, ty, pos, after, none⟩) rel rfl hu (xs := #[.pointer (some ⟨g.at_ (.b lo), off, none⟩)]) (by simp [hz]) (hr ⟨g.at_ (.b lo), off, none⟩ w (by rw [(cell_as q1).1]; exact q3))
  unfold Oper.wp
  rw [hrun]
  exact hn _ g _ _ k (rel.put_same (some i) (.one _ _ (.d _ _ (.int _ _))))
def intVs (ks : List (IntKind × Int)) : List Value := ks.map fun x => .int x.1 x.2
def intUs (ks : List (IntKind × Int)) : List V := ks.map fun x => .one (.d (.int x.1 x.2))
theorem S.atPut {dst : Option Nat} {f : FuncId} {fo : Operand} {args : Array Operand} {ats : Array TypeId} {lo off : Nat} {cs cs' : List C} {b' : List (List C)} {kd : IntKind} {z y : Int} {rv : V} {v : Value} (ks : List (IntKind × Int))
    (hr : ∀ (a : Addr) (w : World), w.cell? a = some (.int kd z) → w.frozen? a = false → (callFunc f (.pointer (some a) :: intVs ks).toArray).run P w = .ok (.value v) (w.setCell a (.int kd y)))
    (hrv : ∀ (g : Gh) (h : Sh) (w : World), RV g h w rv v) (hu : opd n ⟨t, b, r, m⟩ fo = (true, .one (.d (.fn f)))) (ha : allOpdL n ⟨t, b, r, m⟩ args.toList = (true, .one (.ptr lo off) :: intUs ks)) (hb : b[lo]? = some cs) (hc : cs[off]? = some (.d (.int kd z)))
    (hf : forceL (putCells cs off [.d (.int kd y)]) = some cs') (hb' : forceL (b.set lo cs') = some b')
    (k : WL E P n ops l K ⟨updO t dst rv, b', r, m⟩) : WL E P n ops (⟨dst, .call ⟨.value fo, args, ats⟩, ty, pos, after, none⟩ :: l) K ⟨t, b, r, m⟩ := by
  obtain rfl := forceL_eq hf
  obtain rfl := forceL_eq hb'
  intro g a w rel next Q hn
  have hw : Region.wanted (⟨dst, .call ⟨.value fo, args, ats⟩, ty, pos, after, none⟩ : Oper) (yielded ops a.tmps) = true := by simp [Region.wanted]
  rw [if_pos hw]
  obtain ⟨hal, hav⟩ := allOpdL_ok rel _ _ _ ha rfl
  obtain ⟨vs, tt, v0, q1, q2, q3, q4⟩ := box_get rel.heap hb hc
  cases q4 with | d _ _ q4 => cases q4 with | int =>
  have hvals : args.map a.eval = (Value.pointer (some ⟨g.at_ (.b lo), off, none⟩) :: intVs ks).toArray := by
    apply Array.toList_inj.1
    rw [Array.toList_map]
    have hlen : (args.toList.map a.eval).length = (intUs ks).length + 1 := by simp at hal ⊢; omega
    apply List.ext_getElem?
    intro j
    by_cases hj : j < (args.toList.map a.eval).length
    · have e1 : (args.toList.map a.eval)[j]? = some (args.toList.map a.eval)[j] := List.getElem?_eq_getElem hj
      rw [e1]
      cases j with
      | zero =>
        have := hav 0 _ _ rfl e1
        generalize (args.toList.map a.eval)[0] = q at this
        cases this with | one _ _ hp => cases hp with | ptr _ _ hl => rfl
      | succ j =>
        have hjk : j < ks.length := by simp [intUs] at hlen hj; omega
        have := hav (j + 1) (.one (.d (.int ks[j].1 ks[j].2))) _ (by simp [intUs, hjk]) e1
        generalize (args.toList.map a.eval)[j + 1] = q at this
        cases this with | one _ _ hp => cases hp with | d _ _ hp =>
        have e2 : (Value.pointer (some ⟨g.at_ (.b lo), off, none⟩) :: intVs ks)[j + 1]? = some (.int ks[j].1 ks[j].2) := by simp [intVs, hjk]
        rw [e2]
        cases hp; rfl
    · rw [List.getElem?_eq_none (by omega), List.getElem?_eq_none]
      have h9 : (intVs ks).length = (intUs ks).length := by simp [intVs, intUs]
      show (Value.pointer (some ⟨g.at_ (.b lo), off, none⟩) :: intVs ks).length ≤ j
      rw [List.length_cons]; omega
  have ho : off < cs.length := (List.getElem?_eq_some_iff.1 hc).1
  have hrun := ext_run (o := ⟨dst, .call ⟨.value fo, args, ats⟩, ty, pos, after, none⟩) rel rfl hu hvals (hr ⟨g.at_ (.b lo), off, none⟩ w (by rw [(cell_as q1).1]; exact q3) (cell_as q1).2)
  rw [setCell_as q1 (by omega)] at hrun
  have hrel := rel.store (l := lo) (off := off) (cs := cs) (ds := [.d (.int kd y)]) (vs := vs) (us := [.int kd y]) hb rfl (by simp; omega) q1 q2 (fun j c v hc hv => by
    cases j with
    | zero => simp at hc hv; subst hc; subst hv; exact .d _ _ (.int _ _)
    | succ j => simp at hc) dst rv v (hrv _ _ _)
  unfold Oper.wp
  rw [hrun]
  refine hn _ g _ _ ?_ hrel
  cases dst <;> exact k
theorem S.mark {dst : Option Nat} {f : FuncId} {fo : Operand} {ats : Array TypeId} (hr : ∀ (w : World), (callFunc f #[]).run P w = .ok (.value (.tuple #[])) w) (hu : opd n ⟨t, b, r, m⟩ fo = (true, .one (.d (.fn f))))
    (k : WL E P n ops l K ⟨updO t dst (.tup []), b, r, m⟩) : WL E P n ops (⟨dst, .call ⟨.value fo, #[], ats⟩, ty, pos, after, none⟩ :: l) K ⟨t, b, r, m⟩ := by
  intro g a w rel next Q hn
  have hw : Region.wanted (⟨dst, .call ⟨.value fo, #[], ats⟩, ty, pos, after, none⟩ : Oper) (yielded ops a.tmps) = true := by simp [Region.wanted]
  rw [if_pos hw]
  have hrun := ext_run (o := ⟨dst, .call ⟨.value fo, #[], ats⟩, ty, pos, after, none⟩) rel rfl hu (xs := #[]) (by simp) (hr w)
  unfold Oper.wp
  rw [hrun]
  have hrel := rel.put_same dst (u := .tup []) (v := .tuple #[]) (.tup [] [] rfl (fun i u v h => by simp at h))
  refine hn _ g _ _ ?_ hrel
  cases dst <;> exact k
theorem S.mark1 {dst : Option Nat} {f : FuncId} {fo x : Operand} {ats : Array TypeId} {lo off : Nat} (hr : ∀ (a : Addr) (w : World), (callFunc f #[.pointer (some a)]).run P w = .ok (.value (.tuple #[])) w) (hu : opd n ⟨t, b, r, m⟩ fo = (true, .one (.d (.fn f))))
    (hx : opd n ⟨t, b, r, m⟩ x = (true, .one (.ptr lo off))) (k : WL E P n ops l K ⟨updO t dst (.tup []), b, r, m⟩) : WL E P n ops (⟨dst, .call ⟨.value fo, #[x], ats⟩, ty, pos, after, none⟩ :: l) K ⟨t, b, r, m⟩ := by
  intro g a w rel next Q hn
  have hw : Region.wanted (⟨dst, .call ⟨.value fo, #[x], ats⟩, ty, pos, after, none⟩ : Oper) (yielded ops a.tmps) = true := by simp [Region.wanted]
  rw [if_pos hw]
  have hp := opd_ok rel hx rfl
  generalize hz : a.eval x = zz at hp
  cases hp with | one _ _ hp => cases hp with | ptr _ _ hl =>
  have hrun := ext_run (o := ⟨dst, .call ⟨.value fo, #[x], ats⟩, ty, pos, after, none⟩) rel rfl hu (xs := #[.pointer (some ⟨g.at_ (.b lo), off, none⟩)]) (by simp [hz]) (hr _ w)
  unfold Oper.wp
  rw [hrun]
  have hrel := rel.put_same dst (u := .tup []) (v := .tuple #[]) (.tup [] [] rfl (fun i u v h => by simp at h))
  refine hn _ g _ _ ?_ hrel
  cases dst <;> exact k
theorem S.convUnsafe {src dst t0 : TypeId} {x : Operand} {lo off : Nat} {cs : List C} (hs : P.underlying src = some (.pointer t0)) (hd : P.underlying dst = some .unsafePointer) (hsz : (P.info? t0).map (fun i => decide (i.size = 0)) = some false)
    (hx : opd n ⟨t, b, r, m⟩ x = (true, .one (.ptr lo off))) (hb : b[lo]? = some cs) (ho : Nat.blt off cs.length = true)
    (k : WL E P n ops l K ⟨upd t i (.one (.ptr lo off)), b, r, m⟩) : WL E P n ops (⟨some i, .convert src dst x, ty, pos, after, none⟩ :: l) K ⟨t, b, r, m⟩ := by
  have ho : off < cs.length := by simpa [Nat.blt_eq] using ho
  intro g a w rel next Q hn
  have hw : Region.wanted (⟨some i, .convert src dst x, ty, pos, after, none⟩ : Oper) (yielded ops a.tmps) = true := by simp [Region.wanted]
  rw [if_pos hw]
  have hp := opd_ok rel hx rfl
  generalize hz : a.eval x = zz at hp
  cases hp with | one _ _ hp => cases hp with | ptr _ _ hl =>
  obtain ⟨vs, tt, v, q1, q2, q3, q4⟩ := box_get (off := off) rel.heap hb (List.getElem?_eq_getElem ho)
  have hcv := run_convert_to_unsafe (P := P) hs hd hsz (a := ⟨g.at_ (.b lo), off, none⟩) (v := v) (w := w) (by rw [(cell_as q1).1]; exact q3)
  have hrun : (execOp a.eval (⟨some i, .convert src dst x, ty, pos, after, none⟩ : Oper)).run P w = .ok (.value (.pointer (some ⟨g.at_ (.b lo), off, none⟩))) w := by
    simp only [execOp, hz, Sem.run_bind, hcv, Result.andThen_ok, Sem.run_pure]
  unfold Oper.wp
  rw [hrun]
  exact hn _ g _ _ k (rel.put_same (some i) (.one _ _ (.ptr _ _ hl)))
end
end Go.Proofs.YtgknfikdajoiaaaGreatDoor
namespace Go.Proofs.YtgknfikdajoiaaaGreatDoor
open Go Go.RowKit
structure DCall (P : Program) (J : Inv) (f : FuncId) (args : List V) (b : List (List C)) (r : List (Option RowO)) (m : List (List (DV × DV))) (Q : HPost) : Prop where
  enter : ∃ fn, P.funcs[f]? = some fn ∧ (fn.name == "runtime.NumGoroutine") = false ∧ fn.body.isNone = false
  calls : ∀ (z : FrameMode) (g : Gh) (w : World) (vs : List Value), J.I w → (∀ k, g.im k → k < w.heap.size) → Heap g (hst b r m) w → (∀ x, (hst b r m).live x → J.N ≤ g.at_ x) → vs.length = args.length →
    (∀ (i : Nat) (u : V) (v : Value), args[i]? = some u → vs[i]? = some v → RV g (hst b r m).sh w u v) →
    CallsD P f vs.toArray z w fun e z' w' => z' = z ∧ ∃ v g' rv b' r' m', e = .returned v ∧ BelowX (fun k => ∃ x, (hst b r m).live x ∧ g.at_ x = k) w w' ∧ Ext g (hst b r m).sh w g' (hst b' r' m').sh w' ∧
      (∀ k, g'.im k → k < w'.heap.size) ∧ (∀ k, g'.im k → g.im k ∨ (∃ x, (hst b r m).live x ∧ g.at_ x = k) ∨ w.heap.size ≤ k) ∧
      (∀ x, (hst b' r' m').live x → (∃ y, (hst b r m).live y ∧ g.at_ y = g'.at_ x) ∨ w.heap.size ≤ g'.at_ x) ∧ Heap g' (hst b' r' m') w' ∧ RV g' (hst b' r' m').sh w' rv v ∧ Q rv b' r' m'
section
variable {J : Inv} {P : Program} {T : TypeId → Option TI}
def env0 {P : Program} {J : Inv} {b : List (List C)} {r : List (Option RowO)} {m : List (List (DV × DV))} (g : Gh) (w : World) (hJ : J.I w) (hN : ∀ x, (hst b r m).live x → J.N ≤ g.at_ x) : Env J ⟨b.length, r.length, m.length⟩ :=
  ⟨w, g, (hst b r m).sh, fun k => ∃ x, (hst b r m).live x ∧ g.at_ x = k, rfl, by simp [hst, St.sh], rfl, hJ, fun k ⟨x, hx, hk⟩ => by rw [← hk]; exact hN x hx⟩
theorem rel0 {b : List (List C)} {r : List (Option RowO)} {m : List (List (DV × DV))} {g : Gh} {w : World} {args : List V} {vs : List Value} {nt : Nat} (hJ : J.I w) (hi : ∀ k, g.im k → k < w.heap.size) (hH : Heap g (hst b r m) w) (hN : ∀ x, (hst b r m).live x → J.N ≤ g.at_ x)
    (hl : vs.length = args.length) (hx : ∀ (i : Nat) (u : V) (v : Value), args[i]? = some u → vs[i]? = some v → RV g (hst b r m).sh w u v) (hn : args.length ≤ nt) :
    Rel (env0 (P := P) g w hJ hN) nt g ⟨argsV args, b, r, m⟩ { tmps := vs.toArray ++ Array.replicate (nt - vs.toArray.size) undef, defers := [] } w := by
  refine ⟨BelowX.refl _ _, .refl _ _ _, hi, fun b h => .inl h, fun x hx => .inl ⟨x, live_t hx, rfl⟩, hH.t _, ?_, rfl, fun i hi' => ?_⟩
  · simp [hl]; omega
  · show RV _ _ _ (argsV args i) _
    rw [argsV_get]
    rcases Nat.lt_or_ge i args.length with h1 | h1
    · have h2 : vs[i]? = some vs[i] := List.getElem?_eq_getElem (by omega)
      have h3 : args[i]? = some args[i] := List.getElem?_eq_getElem h1
      rw [List.getD_eq_getElem?_getD, h3, Option.getD_some]
      have h4 : (vs.toArray ++ Array.replicate (nt - vs.toArray.size) undef).getD i undef = vs[i] := by
        rw [Array.getD_eq_getD_getElem?, Array.getElem?_append_left (by simp; omega)]
        simp [h2]
      rw [h4]
      exact hx i _ _ h3 h2
    · rw [List.getD_eq_getElem?_getD, List.getElem?_eq_none h1]
      exact .junk _
theorem DCall.ofN (hT : TabOk P T) {f : FuncId} {fn : Func} {c : Code} {args : List V} {b b' : List (List C)} {r r' : List (Option RowO)} {m m' : List (List (DV × DV))} {rv : V} (hf : P.funcs[f]? = some fn)
    (hname : (fn.name == "runtime.NumGoroutine") = false) (hb : fn.body = some c) (hn : args.length ≤ fn.ntmps)
    (h : ∀ E : Env J ⟨b.length, r.length, m.length⟩, W E P fn.ntmps c (HEndsN T fn rv b' r' m') ⟨argsV args, b, r, m⟩) : DCall P J f args b r m (isH rv b' r' m') := by
  refine ⟨⟨fn, hf, hname, by rw [hb]; rfl⟩, fun z g w vs hJ hi hH hN hl hx => ?_⟩
  refine callsD_of_wp hf hb ?_
  refine wp_mono (h (env0 (P := P) g w hJ hN) g _ w (rel0 hJ hi hH hN hl hx hn)) ?_
  rintro _ a' w' ⟨e, s', g', rfl, hk, rl⟩
  cases e with
  | normal =>
    obtain ⟨vs, h1, h2, h3, h4, h5⟩ := hk
    obtain ⟨y, q4, q5⟩ := results_ok (P := P) hT rl h1
    exact ⟨rl.defers, y, q4, y, g', rv, s'.b, s'.r, s'.m, rfl, rl.below, rl.ext, rl.imlt, rl.imold, fun x hx => rl.own x (live_t hx), rl.heap.t _, h2 _ _ _ _ q5, rfl, h3, h4, h5⟩
  | exit id => exact hk.elim
  | ret =>
    obtain ⟨vs, h1, h2, h3, h4, h5⟩ := hk
    obtain ⟨y, q4, q5⟩ := results_ok (P := P) hT rl h1
    exact ⟨rl.defers, y, q4, y, g', rv, s'.b, s'.r, s'.m, rfl, rl.below, rl.ext, rl.imlt, rl.imold, fun x hx => rl.own x (live_t hx), rl.heap.t _, h2 _ _ _ _ q5, rfl, h3, h4, h5⟩
def addD (ds : List Deferred) (a : Act) : Act := { a with defers := a.defers ++ ds }
theorem lift_op {o : Oper} {a : Act} {w : World} {ds : List Deferred} {next : Act → World → Prop} {Q : Exit → Act → World → Prop} (h : o.wp P a w (fun a' w' => next (addD ds a') w') (fun _ _ _ => False)) : o.wp P (addD ds a) w next Q := by
  unfold Oper.wp at h ⊢
  have he : (addD ds a).eval = a.eval := rfl
  rw [he]
  generalize (execOp a.eval o).run P w = x at h
  cases x with
  | halt q w' => cases q <;> first | exact h.elim | exact h
  | ok nx w' =>
    have hp : ∀ v, (addD ds a).put o.dst v = addD ds (a.put o.dst v) := fun v => by cases ho : o.dst <;> rfl
    cases nx with
    | value v => show next _ _; rw [hp]; exact h
    | skip => show next _ _; rw [hp]; exact h
    | defer d =>
      have hd : ({ addD ds a with defers := d :: (addD ds a).defers } : Act).put o.dst undef = addD ds (({ a with defers := d :: a.defers } : Act).put o.dst undef) := by cases ho : o.dst <;> rfl
      show next _ _; rw [hd]; exact h
    | enter f args =>
      refine Calls.mono (show Calls P f args w' _ from h) ?_
      rintro e w'' he
      cases e with
      | returned v => show next _ _; rw [hp]; exact he
      | panicked c => exact he.elim
      | outgrown => obtain ⟨_, _, q⟩ := he; exact q.elim
    | row rw_ args =>
      have h : Rows P rw_ args w' (fun v w'' => next (addD ds (a.put o.dst v)) w'') := h
      show Rows P rw_ args w' (fun v w'' => next ((addD ds a).put o.dst v) w'')
      simp only [hp]
      exact h
    | _ => exact h.elim
variable {k0 : Lens} {E : Env J k0} {n : Nat}
theorem opsD {ops : Array Oper} {Q : Exit → Act → World → Prop} {K : St → Prop} {ds : List Deferred} {rest : List Nat} : ∀ (l : List Oper) (k : Nat) (s : St), (∀ j o, l[j]? = some o → ops[k + j]? = some o) → WL E P n ops l K s →
    ∀ g a w, Rel E n g s a w → (∀ s' g' a' w', K s' → Rel E n g' s' a' w' → wpOps P ops Q rest (addD ds a') w') → wpOps P ops Q (List.range' k l.length ++ rest) (addD ds a) w
  | [], k, s, hl, h, g, a, w, rel, hq => hq s g a w h rel
  | o :: l, k, s, hl, h, g, a, w, rel, hq => by
    have ho : ops[k]? = some o := hl 0 o rfl
    have hr : List.range' k (o :: l).length ++ rest = k :: (List.range' (k + 1) l.length ++ rest) := by simp [List.range'_succ]
    rw [hr]
    unfold wpOps
    simp only [ho]
    have h3 := h g a w rel (fun a' w' => wpOps P ops Q (List.range' (k + 1) l.length ++ rest) (addD ds a') w') (fun _ _ _ => False) (fun s' g' a' w' hk rel' =>
      opsD l (k + 1) s' (fun j o hj => by have := hl (j + 1) o hj; rwa [show k + (j + 1) = k + 1 + j by omega] at this) hk g' a' w' rel' hq)
    have ht : (addD ds a).tmps = a.tmps := rfl
    rw [ht]
    split
    · rename_i hw
      rw [if_pos hw] at h3
      exact .inl (lift_op h3)
    · rename_i hw
      rw [if_neg hw] at h3
      have hp : (addD ds a).put o.dst undef = addD ds (a.put o.dst undef) := by cases hd : o.dst <;> rfl
      rw [hp]
      exact h3
theorem regD {id : Nat} {l : List Oper} {K : St → Prop} {s : St} (h : WL E P n l.toArray l K s) {g : Gh} {a : Act} {w : World} (ds : List Deferred) (rel : Rel E n g s a w) {Q : Exit → Act → World → Prop}
    (hq : ∀ s' g' a' w', K s' → Rel E n g' s' a' w' → Q .normal (addD ds a') w') : (Code.region id l.toArray false).wp P Q (addD ds a) w := by
  refine wp_region ?_
  have := opsD (Q := Q) (ds := ds) (rest := []) l 0 s (fun j o hj => by simpa using hj) h g a w rel (fun s' g' a' w' hk rel' => hq s' g' a' w' hk rel')
  rw [List.append_nil] at this
  rw [List.range_eq_range']
  simpa using this
theorem regDefer {id : Nat} {l : List Oper} {K : St → Prop} {s : St} {args : Array Operand} {ats : Array TypeId} {ty : TypeId} {pos : String} {after : Array Edge} {f : FuncId} (h : WL E P n (l ++ [(⟨none, .defer ⟨.value (.func f), args, ats⟩, ty, pos, after, none⟩ : Oper)]).toArray l K s)
    {g : Gh} {a : Act} {w : World} (ds : List Deferred) (rel : Rel E n g s a w) {Q : Exit → Act → World → Prop}
    (hq : ∀ s' g' a' w', K s' → Rel E n g' s' a' w' → Q .normal (addD ({ target := .fn (.func f) #[], args := args.map a'.eval } :: ds) a') w') :
    (Code.region id (l ++ [(⟨none, .defer ⟨.value (.func f), args, ats⟩, ty, pos, after, none⟩ : Oper)]).toArray false).wp P Q (addD ds a) w := by
  refine wp_region ?_
  obtain ⟨o, ho⟩ : ∃ o : Oper, o = ⟨none, .defer ⟨.value (.func f), args, ats⟩, ty, pos, after, none⟩ := ⟨_, rfl⟩
  rw [← ho] at h ⊢
  have := opsD (Q := Q) (ds := ds) (rest := [l.length]) l 0 s (fun j o' hj => by
    have hlt := (List.getElem?_eq_some_iff.1 hj).1
    simp only [List.getElem?_toArray, Nat.zero_add]
    rw [List.getElem?_append_left hlt]; exact hj) h g a w rel (fun s' g' a' w' hk rel' => by
    unfold wpOps
    have ho' : (l ++ [o]).toArray[l.length]? = some o := by simp
    simp only [ho']
    have hw : Region.wanted o (yielded (l ++ [o]).toArray (addD ds a').tmps) = true := by simp [Region.wanted, ho]
    rw [if_pos hw]
    refine .inl ?_
    have hrun : (execOp (addD ds a').eval o).run P w' = .ok (.defer { target := .fn (.func f) #[], args := args.map a'.eval }) w' := by
      have he : (addD ds a').eval = a'.eval := rfl
      have hev : a'.eval (.func f) = .func (.func f) #[] #[] := rfl
      rw [ho, he]
      simp [execOp, resolve, hev, Deferred.ofValue]
    unfold Oper.wp
    rw [hrun]
    have e : ({ addD ds a' with defers := { target := .fn (.func f) #[], args := args.map a'.eval } :: (addD ds a').defers } : Act).put o.dst undef = addD ({ target := .fn (.func f) #[], args := args.map a'.eval } :: ds) a' := by
      rw [show o.dst = none by rw [ho]]
      have hd := rel'.defers
      unfold addD Act.put
      simp [hd]
    show wpOps P (l ++ [o]).toArray Q [] (({ addD ds a' with defers := { target := .fn (.func f) #[], args := args.map a'.eval } :: (addD ds a').defers } : Act).put o.dst undef) w'
    rw [e]
    unfold wpOps
    exact hq s' g' a' w' hk rel')
  rw [List.range_eq_range']
  have hsz : (l ++ [o]).toArray.size = l.length + 1 := by simp
  rw [hsz, List.range'_concat]
  simpa using this
end
end Go.Proofs.YtgknfikdajoiaaaGreatDoor
namespace Go.Proofs.YtgknfikdajoiaaaGreatDoor
open Go Go.RowKit
section
variable {J : Inv} {P : Program}
theorem invoke_enter {f : FuncId} {fn : Func} (hf : P.funcs[f]? = some fn) (h1 : (fn.name == "runtime.NumGoroutine") = false) (h2 : fn.body.isNone = false) (vs : List Value) {xs : Array Value} (hx : xs = vs.toArray) {w : World} :
    (invoke (.fn (.func f) #[]) xs).run P w = .ok (.enter f vs.toArray) w := by
  subst hx
  have e : (vs.toArray ++ #[] : Array Value) = vs.toArray := by simp
  unfold Go.invoke
  simp only [e, callFunc_run hf h1 h2]
theorem ptr_val {g : Gh} {h : Sh} {w : World} {l off : Nat} {v : Value} (hv : RV g h w (.one (.ptr l off)) v) : v = .pointer (some ⟨g.at_ (.b l), off, none⟩) := by
  cases hv with | one _ _ hv => cases hv; rfl
theorem HCall.once {f fU fS : FuncId} {fn : Func} {i0 i1 i2 i3 i4 : Nat} (l0 l1 l2 l3 l4 : List Oper) {xU xS cnd : Operand} {atU atS : Array TypeId} {tyU tyS : TypeId} {posU posS : String} {afU afS : Array Edge} {oU oS : Nat}
    {args : List V} {b b1 b2 b3 : List (List C)} {r r1 : List (Option RowO)} {m m1 : List (List (DV × DV))} {rvS rvU : V} (hf : P.funcs[f]? = some fn) (hname : (fn.name == "runtime.NumGoroutine") = false) (hres : fn.results = #[]) (hn : args.length ≤ fn.ntmps)
    (hb : fn.body = some (.seq (.region i0 l0.toArray false) (.seq (.region i1 (l1 ++ [(⟨none, .defer ⟨.value (.func fU), #[xU], atU⟩, tyU, posU, afU, none⟩ : Oper)]).toArray false) (.seq (.region i2 l2.toArray false)
      (.cond cnd (.seq (.region i3 (l3 ++ [(⟨none, .defer ⟨.value (.func fS), #[xS, .const (.bool true)], atS⟩, tyS, posS, afS, none⟩ : Oper)]).toArray false) (.region i4 l4.toArray false)) .skip)))))
    (h0 : 0 < b.length) (h1 : 0 < b1.length) (h2 : 0 < b2.length)
    (h : ∀ E : Env J ⟨b.length, r.length, m.length⟩, WL E P fn.ntmps l0.toArray l0 (fun s0 => WL E P fn.ntmps (l1 ++ [(⟨none, .defer ⟨.value (.func fU), #[xU], atU⟩, tyU, posU, afU, none⟩ : Oper)]).toArray l1 (fun s1 => opd fn.ntmps s1 xU = (true, .one (.ptr 0 oU)) ∧
      WL E P fn.ntmps l2.toArray l2 (fun s2 => opd fn.ntmps s2 cnd = (true, .one (.d (.bool true))) ∧ WL E P fn.ntmps (l3 ++ [(⟨none, .defer ⟨.value (.func fS), #[xS, .const (.bool true)], atS⟩, tyS, posS, afS, none⟩ : Oper)]).toArray l3 (fun s3 => opd fn.ntmps s3 xS = (true, .one (.ptr 0 oS)) ∧
        WL E P fn.ntmps l4.toArray l4 (fun s4 => s4.b = b1 ∧ s4.r = r1 ∧ s4.m = m1) s3) s2) s1) s0) ⟨argsV args, b, r, m⟩)
    (dS : DCall P J fS [.one (.ptr 0 oS), .one (.d (.bool true))] b1 r1 m1 (isH rvS b2 r1 m1)) (dU : DCall P J fU [.one (.ptr 0 oU)] b2 r1 m1 (isH rvU b3 r1 m1)) : HCall P J f args b r m (isH (.tup []) b3 r1 m1) := by
  refine ⟨⟨fn, hf, hname, by rw [hb]; rfl⟩, fun g w vs hJ hi hH hN hl hx => ?_⟩
  refine calls_of_wp_defers hf hb ?_
  have rel := rel0 (P := P) hJ hi hH hN hl hx hn
  have h := h (env0 (P := P) g w hJ hN)
  generalize hact : ({ tmps := vs.toArray ++ Array.replicate (fn.ntmps - vs.toArray.size) undef, defers := [] } : Act) = act at rel ⊢
  have ea : act = addD [] act := by unfold addD; simp
  rw [ea]
  refine wp_seq (regD h [] rel (fun s0 g0 a0 w0 h0' rel0' => ?_))
  refine wp_seq (regDefer h0' [] rel0' (fun s1 g1 a1 w1 hx1 rel1 => ?_))
  obtain ⟨hx1, h1'⟩ := hx1
  refine wp_seq (regD h1' _ rel1 (fun s2 g2 a2 w2 hc2 rel2 => ?_))
  obtain ⟨hc2, h2'⟩ := hc2
  have hev : ∀ ds, (addD ds a2 : Act).eval cnd = .bool true := fun ds => by
    have := opd_ok rel2 hc2 rfl
    show a2.eval cnd = _
    generalize a2.eval cnd = z at this
    cases this with | one _ _ q => cases q with | d _ _ q => cases q; rfl
  refine wp_cond_true (hev _) ?_
  refine wp_seq (regDefer h2' _ rel2 (fun s3 g3 a3 w3 hx3 rel3 => ?_))
  obtain ⟨hx3, h3'⟩ := hx3
  refine regD h3' _ rel3 (fun s4 g4 a4 w4 hk4 rel4 => ?_)
  obtain ⟨t4, b4, r4, m4⟩ := s4
  obtain ⟨e1, e2, e3⟩ := hk4
  have e1 : b4 = b1 := e1
  have e2 : r4 = r1 := e2
  have e3 : m4 = m1 := e3
  subst e1; subst e2; subst e3
  have pU := ptr_val (opd_ok rel1 hx1 rfl)
  have pS := ptr_val (opd_ok rel3 hx3 rfl)
  have hL : 0 < (env0 (P := P) g w hJ hN).sh0.L := by rw [(env0 (P := P) g w hJ hN).hL]; exact h0
  have a1e := rel1.ext.atB 0 hL
  have a3e := rel3.ext.atB 0 hL
  have a4e := rel4.ext.atB 0 hL
  show Leaves P fn a4.tmps _ (a4.defers ++ _) .returning w4
  rw [rel4.defers, List.nil_append]
  obtain ⟨fnS, s1, s2, s3⟩ := dS.enter
  obtain ⟨fnU, u1, u2, u3⟩ := dU.enter
  have hNN : ∀ {t : Nat → V} {bb : List (List C)} {rr : List (Option RowO)} {mm : List (List (DV × DV))} {gg : Gh} {aa : Act} {ww : World}, Rel (env0 (P := P) g w hJ hN) fn.ntmps gg ⟨t, bb, rr, mm⟩ aa ww → ∀ x, (hst bb rr mm).live x → J.N ≤ gg.at_ x := fun rel x hx => by
    rcases rel.own x (live_t hx) with h | h
    · exact (env0 (P := P) g w hJ hN).hN _ h
    · exact Nat.le_trans (J.lt _ (env0 (P := P) g w hJ hN).hI) h
  refine leaves_cons (f := fS) (args := ([.pointer (some ⟨g4.at_ (.b 0), oS, none⟩), .bool true] : List Value).toArray) (by simp) (invoke_enter s1 s2 s3 _ ?_) ?_
  · have hc : a3.eval (.const (.bool true)) = .bool true := rfl
    simp only [List.map_toArray, List.map_cons, List.map_nil, pS, hc, a3e, a4e]
  refine (dS.calls .returning g4 w4 [.pointer (some ⟨g4.at_ (.b 0), oS, none⟩), .bool true] rel4.inv rel4.imlt (rel4.heap.t _) (hNN rel4) rfl (fun i u v hu hv => ?_)).mono ?_
  · match i with
    | 0 => simp at hu hv; subst hu; subst hv; exact .one _ _ (.ptr _ _ h1)
    | 1 => simp at hu hv; subst hu; subst hv; exact .one _ _ (.d _ _ (.bool _))
    | i + 2 => simp at hu
  rintro e u' w5 ⟨rfl, v5, g5, rv5, b5, r5, m5, rfl, p2, p3, p4, p5, p6, p7, p8, q1, q2, q3, q4⟩
  subst q2; subst q3; subst q4
  have rel5 := rel4.behind p2 p3 p4 p5 p6 p7
  have a5e := rel5.ext.atB 0 hL
  show Leaves P fn a4.tmps _ [_] .returning w5
  refine leaves_cons (f := fU) (args := ([.pointer (some ⟨g5.at_ (.b 0), oU, none⟩)] : List Value).toArray) (by simp) (invoke_enter u1 u2 u3 _ ?_) ?_
  · simp only [List.map_toArray, List.map_cons, List.map_nil, pU, a1e, a5e]
  refine (dU.calls .returning g5 w5 [.pointer (some ⟨g5.at_ (.b 0), oU, none⟩)] rel5.inv rel5.imlt (rel5.heap.t _) (hNN rel5) rfl (fun i u v hu hv => ?_)).mono ?_
  · match i with
    | 0 => simp at hu hv; subst hu; subst hv; exact .one _ _ (.ptr _ _ h2)
    | i + 1 => simp at hu
  rintro e u' w6 ⟨rfl, v6, g6, rv6, b6, r6, m6, rfl, z2, z3, z4, z5, z6, z7, z8, y1, y2, y3, y4⟩
  subst y2; subst y3; subst y4
  have rel6 := rel5.behind z2 z3 z4 z5 z6 z7
  show ∃ v, (results fn a4.tmps).run P w6 = .ok v w6 ∧ _
  refine ⟨.tuple #[], by simp [results, hres], .tuple #[], g6, .tup [], _, _, _, rfl, rel6.below, rel6.ext, rel6.imlt, rel6.imold, fun x hx => rel6.own x (live_t hx), rel6.heap.t _, .tup [] [] rfl (fun i u v h => by simp at h), rfl, rfl, rfl, rfl⟩
end
end Go.Proofs.YtgknfikdajoiaaaGreatDoor
namespace Go.Proofs.YtgknfikdajoiaaaGreatDoor
open Go Go.RowKit
section
variable {J : Inv} {k0 : Lens} {E : Env J k0} {P : Program} {T : TypeId → Option TI} {n : Nat} {t : Nat → V} {b : List (List C)} {r : List (Option RowO)} {m : List (List (DV × DV))} {ops : Array Oper} {l : List Oper}
  {K : St → Prop} {i : Nat} {ty : TypeId} {pos : String} {after : Array Edge}
theorem Rel.newOwnC {s : St} {g : Gh} {a : Act} {w : World} (r : Rel E n g s a w) (d : Option Nat) {sz len cap : Nat} {xs : List (List D)} {us : List Value} {te : TypeId} (hxl : xs.length = len) (hlc : len ≤ cap) (hus : us.length = cap * sz) (hle : cap ≤ maxLen)
    (hxs : ∀ x ∈ xs, x.length = sz) (hrd : ∀ (i j : Nat) (x : List D) (dd : D) (v : Value), xs[i]? = some x → x[j]? = some dd → us[i * sz + j]? = some v → RD g.im w dd v) :
    Rel E n (g.rowNew s.r.length w.heap.size cap) ((⟨s.t, s.b, s.r ++ [some ⟨true, 0, sz, te, xs⟩], s.m⟩ : St).set d (.one (.row s.r.length 0 0 len))) (a.put d (.slice (some ⟨w.heap.size, 0, none⟩) len cap)) (w.alloc (.cells us.toArray te)) := by
  obtain ⟨s1, hs1⟩ : ∃ s1 : St, s1 = ⟨s.t, s.b, s.r ++ [some ⟨true, 0, sz, te, xs⟩], s.m⟩ := ⟨_, rfl⟩
  have hsz : (w.alloc (.cells us.toArray te)).heap.size = w.heap.size + 1 := by simp
  have hold : ∀ k, k < w.heap.size → (w.alloc (.cells us.toArray te)).heap[k]? = w.heap[k]? := fun k hk => Below.heap_alloc w _ k hk
  have hnew : (w.alloc (.cells us.toArray te)).heap[w.heap.size]? = some (.cells us.toArray te (0, 0)) := by show (w.heap.push _)[w.heap.size]? = _; simp
  have e : Ext g s.sh w (g.rowNew s.r.length w.heap.size cap) s1.sh (w.alloc (.cells us.toArray te)) := by
    subst hs1
    refine ⟨fun _ h => h, fun b hb => hold b (r.imlt b hb), Nat.le_refl _, Nat.le_refl _, by simp [St.sh], fun _ _ => by simp [Gh.rowNew], fun l hl => by simp [Gh.rowNew], fun q al ver sz' len' hq h => ⟨al, ver, sz', len', ?_, Nat.le_refl _, fun _ => ?_⟩⟩
    · have hq' : q < s.r.length := by simpa [St.sh] using hq
      simpa [St.sh, List.getElem?_append_left hq', List.getElem?_append_left (show q < (s.r.map (·.map RowO.form)).length by simpa using hq')] using h
    · have hq' : q < s.r.length := by simpa [St.sh] using hq
      have hne : q ≠ s.r.length := by omega
      exact ⟨rfl, rfl, Nat.le_refl _, by simp [Gh.rowNew, hne], by simp [Gh.rowNew, hne], by simp [Gh.rowNew, hne]⟩
  have hat : ∀ x, s.live x → (g.rowNew s.r.length w.heap.size cap).at_ x = g.at_ x := fun x hx => by
    have : x ≠ .r s.r.length := by
      rintro rfl
      obtain ⟨o, ho, _⟩ := hx
      exact absurd (List.getElem?_eq_some_iff.1 ho).1 (Nat.lt_irrefl _)
    simp [Gh.rowNew, this]
  have hlive : ∀ x, s1.live x → s.live x ∨ x = .r s.r.length := fun x hx => by
    subst hs1
    cases x with
    | m l => exact .inl hx
    | b l => exact .inl hx
    | r l =>
      obtain ⟨o, ho, hal⟩ := hx
      have ho : (s.r ++ [some ⟨true, 0, sz, te, xs⟩])[l]? = some (some o) := ho
      rcases Nat.lt_or_ge l s.r.length with h | h
      · rw [List.getElem?_append_left h] at ho; exact .inl ⟨o, ho, hal⟩
      · have h4 := (List.getElem?_eq_some_iff.1 ho).1
        right; congr 1; simp at h4; omega
  have hnewat : (g.rowNew s.r.length w.heap.size cap).at_ (.r s.r.length) = w.heap.size := by simp [Gh.rowNew]
  have hheap : Heap (g.rowNew s.r.length w.heap.size cap) s1 (w.alloc (.cells us.toArray te)) := by
    refine ⟨fun x hx => ?_, fun x hx => ?_, fun x y hx hy he => ?_, fun l cs' hl' => ?_, fun l o ho => ?_, fun l es hes => ?_⟩
    · rcases hlive x hx with h | rfl
      · rw [hat x h, hsz]; exact Nat.lt_succ_of_lt (r.heap.lt x h)
      · rw [hnewat, hsz]; exact Nat.lt_succ_self _
    · rcases hlive x hx with h | rfl
      · rw [hat x h]; exact r.heap.new x h
      · rw [hnewat]; exact fun hi => absurd (r.imlt _ hi) (Nat.lt_irrefl _)
    · rcases hlive x hx with h | rfl <;> rcases hlive y hy with h' | rfl
      · rw [hat x h, hat y h'] at he; exact r.heap.inj x y h h' he
      · rw [hat x h, hnewat] at he; exact absurd (r.heap.lt x h) (by omega)
      · rw [hat y h', hnewat] at he; exact absurd (r.heap.lt y h') (by omega)
      · rfl
    · have hl2 : s.b[l]? = some cs' := by subst hs1; exact hl'
      obtain ⟨vs', t', h1, h2, h3⟩ := r.heap.box l cs' hl2
      have hlv : s.live (.b l) := (List.getElem?_eq_some_iff.1 hl2).1
      rw [hat (.b l) hlv]
      exact ⟨vs', t', by rw [hold _ (r.heap.lt (.b l) hlv)]; exact h1, h2, fun j c v hc hv => (h3 j c v hc hv).mono e⟩
    · have ho' : (s.r ++ [some ⟨true, 0, sz, te, xs⟩])[l]? = some (some o) := by subst hs1; exact ho
      rcases Nat.lt_or_ge l s.r.length with h | h
      · rw [List.getElem?_append_left h] at ho'
        have hne : l ≠ s.r.length := by omega
        have := r.heap.row l o ho'
        by_cases hal : o.al = true
        · rw [if_pos hal] at this ⊢
          obtain ⟨vs', t', h1, h2, h3, h4, h5, h6⟩ := this
          have ho2 : (g.rowNew s.r.length w.heap.size cap).off l = g.off l := by simp [Gh.rowNew, hne]
          have hc2 : (g.rowNew s.r.length w.heap.size cap).cap l = g.cap l := by simp [Gh.rowNew, hne]
          rw [hat (.r l) ⟨o, ho', hal⟩, ho2, hc2]
          exact ⟨vs', t', by rw [hold _ (r.heap.lt (.r l) ⟨o, ho', hal⟩)]; exact h1, h2, h3, h4, h5, fun i j x d v p q u => (h6 i j x d v p q u).mono e.im e.same⟩
        · rw [if_neg hal] at this ⊢; exact this
      · have h4 := (List.getElem?_eq_some_iff.1 ho').1
        obtain rfl : l = s.r.length := by simp at h4; omega
        rw [List.getElem?_append_right (Nat.le_refl _)] at ho'
        simp at ho'
        subst ho'
        have ho2 : (g.rowNew s.r.length w.heap.size cap).off s.r.length = 0 := by simp [Gh.rowNew]
        have hc2 : (g.rowNew s.r.length w.heap.size cap).cap s.r.length = cap := by simp [Gh.rowNew]
        rw [if_pos rfl, hnewat, ho2, hc2]
        refine ⟨us.toArray, te, hnew, ⟨by simp [hus], rfl, rfl, hle⟩, by simp [hxl]; omega, hxs, fun _ _ => trivial, fun i j x dd v p q u => ?_⟩
        have u : us[i * sz + j]? = some v := by simpa using u
        exact (hrd i j x dd v p q u).mono e.im e.same
    · have hl2 : s.m[l]? = some es := by subst hs1; exact hes
      have hlv : s.live (.m l) := (List.getElem?_eq_some_iff.1 hl2).1
      obtain ⟨arr, clock, h1, h2, h3⟩ := r.heap.map l es hl2
      rw [hat (.m l) hlv]
      exact ⟨arr, clock, by rw [hold _ (r.heap.lt (.m l) hlv)]; exact h1, h2, fun i x y hx hy => ⟨(h3 i x y hx hy).1.mono e, (h3 i x y hx hy).2.mono e⟩⟩
  have hbelow : BelowX E.lent E.w0 (w.alloc (.cells us.toArray te)) := r.below.then ((Below.refl _ _).alloc (Nat.le_refl _) _)
  have rel1 : Rel E n (g.rowNew s.r.length w.heap.size cap) s1 a (w.alloc (.cells us.toArray te)) := by
    refine ⟨hbelow, r.ext.trans e, fun b hb => by rw [hsz]; exact Nat.lt_succ_of_lt (r.imlt b hb), r.imold, fun x hx => ?_, hheap, r.size, r.defers, fun i hi => ?_⟩
    · rcases hlive x hx with h | rfl
      · rw [hat x h]; exact r.own x h
      · rw [hnewat]; exact .inr r.below.size
    · have := (r.tmps i hi).mono e
      subst hs1; exact this
  have := rel1.put_same d (u := .one (.row s.r.length 0 0 len)) (v := .slice (some ⟨w.heap.size, 0, none⟩) len cap) (by
    refine .one _ _ (.row _ _ _ _ _ rfl (by subst hs1; simp [St.sh]) (fun al ver' sz' len' hh => ?_))
    have : (some (some (al, ver', sz', len')) : Option (Option _)) = some (some (true, 0, sz, len)) := by rw [← hh]; subst hs1; simp [St.sh, RowO.form, hxl]
    simp only [Option.some.injEq, Prod.mk.injEq] at this
    obtain ⟨rfl, rfl, rfl, rfl⟩ := this
    refine ⟨Nat.le_refl _, fun _ => ⟨by omega, ?_⟩⟩
    simp [Gh.rowNew])
  subst hs1
  exact this
theorem S.makeEmpty (hT : TabOk P T) {te e : TypeId} {ti ei : TI} {x y : Operand} {k1 k2 : IntKind} {zd : List D} {r' : List (Option RowO)} (cap : Nat) (hti : T te = some ti) (hd : ti.desc = .slice e) (hei : T e = some ei) (hzc : zeroC ei = some (zd.map .d)) (hsz : Nat.beq ei.size zd.length = true)
    (hx : opd n ⟨t, b, r, m⟩ x = (true, .one (.d (.int k1 0)))) (hy : opd n ⟨t, b, r, m⟩ y = (true, .one (.d (.int k2 (cap : Int))))) (hl : cap ≤ 100000000) (hby : Nat.ble ei.bytes 1000 = true)
    (hr : appL r [some ⟨true, 0, zd.length, e, []⟩] = r')
    (k : WL E P n ops l K ⟨upd t i (.one (.row r.length 0 0 0)), b, r', m⟩) : WL E P n ops (⟨some i, .makeSlice te x y, ty, pos, after, none⟩ :: l) K ⟨t, b, r, m⟩ := by
  subst hr
  rw [appL_eq] at k
  intro g a w rel next Q hn
  have hw : Region.wanted (⟨some i, .makeSlice te x y, ty, pos, after, none⟩ : Oper) (yielded ops a.tmps) = true := by simp [Region.wanted]
  rw [if_pos hw]
  have hp := opd_ok rel hx rfl
  have hq := opd_ok rel hy rfl
  generalize hxx : a.eval x = xv at hp
  generalize hyy : a.eval y = yv at hq
  cases hp with | one _ _ hp => cases hp with | d _ _ hp => cases hp with | int =>
  cases hq with | one _ _ hq => cases hq with | d _ _ hq => cases hq with | int =>
  obtain ⟨us, z1, z2, z3, z4⟩ := zeroC_ok (h := (⟨t, b, r, m⟩ : St).sh) hzc g w
  obtain ⟨hui, info, i1, i2, i3, i4, _⟩ := hT e ei hei
  have hut := (hT te ti hti).1
  rw [hd] at hut
  have hby' := Nat.le_of_ble_eq_true hby
  have hsz' := Nat.eq_of_beq_eq_true hsz
  obtain ⟨M, hM⟩ : ∃ M : List Value, M = (madeCells ei.zero.cells (cap * info.size)).toList := ⟨_, rfl⟩
  have hMl : M.length = cap * zd.length := by rw [hM, Array.length_toList, size_madeCells, i2, hsz']
  have hrun : (execOp a.eval (⟨some i, .makeSlice te x y, ty, pos, after, none⟩ : Oper)).run P w = .ok (.value (.slice (some ⟨w.heap.size, 0, none⟩) 0 cap)) (w.alloc (.cells M.toArray e)) := by
    have hb : (info.bytes : Int) * (cap : Int) ≤ 281474976710656 := by
      rw [i4]
      have := Nat.mul_le_mul hby' hl
      have h2 : ((ei.bytes * cap : Nat) : Int) ≤ 281474976710656 := by omega
      rwa [Int.natCast_mul] at h2
    have := run_make (P := P) w te e info ei.zero hut i1 i3 k1 k2 (0 : Int) (cap : Int) (by omega) (by omega) hb (by omega)
    simp only [Int.toNat_natCast, Int.toNat_zero] at this
    simp only [execOp, hxx, hyy, Sem.run_bind, this, Result.andThen_ok, Sem.run_pure, hM, Array.toArray_toList]
  unfold Oper.wp
  rw [hrun]
  exact hn _ _ _ _ k (rel.newOwnC (some i) (te := e) (xs := []) rfl (Nat.zero_le _) hMl (by simp only [maxLen]; omega) (fun x hx => by cases hx) (fun p j x d v h1 h2 h3 => by simp at h1))
theorem S.copyRow (hT : TabOk P T) {dT sT e : TypeId} {ti ei : TI} {x y : Operand} {ri ver off k : Nat} {o : RowO} {news : List D} (hti : T dT = some ti) (hd : ti.desc = .slice e) (hei : T e = some ei) (hes : ei.size = 1)
    (hx : opd n ⟨t, b, r, m⟩ x = (true, .one (.row ri ver off k))) (hy : opd n ⟨t, b, r, m⟩ y = (true, .one (.d (.vec 1 (news.map fun d => [d]))))) (ho : rowAt ⟨t, b, r, m⟩ ri ver = some o) (hsz : o.sz = 1) (hne : news ≠ []) (hk : news.length ≤ k)
    {xs' : List (List D)} (hxs : o.xs.take off ++ (news.map fun d => [d]) ++ o.xs.drop (off + news.length) = xs') {r' : List (Option RowO)} (hr' : r.set ri (some ⟨o.al, o.ver, o.sz, o.ty, xs'⟩) = r')
    (h : WL E P n ops l K ⟨upd t i (.one (.d (.int .i64 (news.length : Int)))), b, r', m⟩) : WL E P n ops (⟨some i, .call ⟨.builtin .copy, #[x, y], #[dT, sT]⟩, ty, pos, after, none⟩ :: l) K ⟨t, b, r, m⟩ := by
  subst hr'; subst hxs
  intro g a w rel next Q hn
  have hw : Region.wanted (⟨some i, .call ⟨.builtin .copy, #[x, y], #[dT, sT]⟩, ty, pos, after, none⟩ : Oper) (yielded ops a.tmps) = true := by simp [Region.wanted]
  rw [if_pos hw]
  have hp := opd_ok rel hx rfl
  have hq := opd_ok rel hy rfl
  generalize hxx : a.eval x = xv at hp
  generalize hyy : a.eval y = yv at hq
  cases hp with | one _ _ hp =>
  obtain ⟨q1, q2, q3⟩ := row_val (s := ⟨t, b, r, m⟩) rel.heap ho hp
  obtain ⟨ho1, ho2⟩ := rowAt_some ho
  have hut := (hT dT ti hti).1
  rw [hd] at hut
  obtain ⟨_, info, i1, i2, _⟩ := hT e ei hei
  have hnl : 0 < news.length := List.length_pos_iff.2 hne
  rcases q3 with ⟨hal, rfl⟩ | ⟨_, hk0, _⟩
  case inr => omega
  cases hq with | one _ _ hq => cases hq with | d _ _ hq =>
  generalize hvv : (news.map fun d => [d]) = vv at hq
  cases hq with
  | empty => simp at hvv; exact absurd hvv hne
  | vec _ _ bb oo cap uu hne' hc hb' hsz' hcell hrd =>
  subst hvv
  have hrow := rel.heap.row ri o ho1
  rw [if_pos hal] at hrow
  obtain ⟨vs, tt', p1, ⟨p2, p3, p4, p5⟩, p6, p7, _, p8⟩ := hrow
  rw [hsz] at p2 p8
  rw [p4] at p2 p8
  simp only [Nat.mul_one, Nat.zero_add] at p2 p8
  obtain ⟨Z, hZ⟩ : ∃ Z : List Value, Z = (List.range news.length).map fun j => uu j 0 := ⟨_, rfl⟩
  have hZl : Z.length = news.length := by rw [hZ]; simp
  have hZg : ∀ j, j < news.length → Z[j]? = some (uu j 0) := fun j hj => by rw [hZ]; simp [hj]
  have hd1 : ∀ j (hj : j < news.length), (news.map fun d => [d])[j]? = some [news[j]] := fun j hj => by simp [hj]
  have hsrc : ∀ j v, Z[j]? = some v → w.cell? ((⟨bb, oo, none⟩ : Addr).add j) = some v := fun j v hv => by
    have hj : j < news.length := by have := (List.getElem?_eq_some_iff.1 hv).1; omega
    rw [hZg j hj] at hv
    rw [← hv, ← hcell j 0 [news[j]] news[j] (hd1 j hj) rfl]
    unfold Addr.add
    split
    · rename_i h0; subst h0; simp
    · simp
  have hone : ∀ v ∈ Z, v.oneCell' = true := fun v hv => by
    obtain ⟨j, hv⟩ := List.mem_iff_getElem?.1 hv
    have hj : j < news.length := by have := (List.getElem?_eq_some_iff.1 hv).1; omega
    rw [hZg j hj] at hv
    rw [← Option.some.inj hv]
    exact (hrd j 0 [news[j]] news[j] (hd1 j hj) rfl).one
  have hlive : (⟨t, b, r, m⟩ : St).live (.r ri) := ⟨o, ho1, hal⟩
  have hhl := rel.heap.lt _ hlive
  have hrun0 := run_copy_row (P := P) w dT sT ty e (g.at_ (.r ri)) off k (g.cap ri - off) ⟨bb, oo, none⟩ (news.map fun d => [d]).length cap vs tt' Z hut (by rw [i1]; simp [i2, hes]) p1 (by rw [hZl, List.length_map]; exact (Nat.min_eq_left hk).symm) hsrc (by rw [hZl]; omega) hone
  obtain ⟨w1, hw1⟩ : ∃ w1 : World, w1 = w.setRow (g.at_ (.r ri)) (vs.toList.take off ++ Z ++ vs.toList.drop (off + Z.length)).toArray := ⟨_, rfl⟩
  rw [← hw1] at hrun0
  have hrun : (execOp a.eval (⟨some i, .call ⟨.builtin .copy, #[x, y], #[dT, sT]⟩, ty, pos, after, none⟩ : Oper)).run P w = .ok (.value (goInt Z.length)) w1 := by
    have e1 : g.off ri + off * o.sz = off := by rw [p4, hsz]; omega
    simp only [execOp, resolve, Sem.run_bind, Sem.run_pure, Result.andThen_ok, List.map_toArray, List.map_cons, List.map_nil, hxx, hyy]
    unfold Go.invoke
    simp only [builtin, Sem.run_bind, Sem.run_pure, Result.andThen_ok, e1, hrun0]
  have hold : ∀ q, q ≠ g.at_ (.r ri) → w1.heap[q]? = w.heap[q]? := fun q hq => by rw [hw1]; exact setRow_other w _ q _ hq
  have him : ∀ q, g.im q → w1.heap[q]? = w.heap[q]? := fun q hq => hold q (fun he => rel.heap.new _ hlive (he ▸ hq))
  have rel1 := rel.setXs (xs1 := o.xs.take off ++ (news.map fun d => [d]) ++ o.xs.drop (off + news.length)) (vs := vs) (vs1 := (vs.toList.take off ++ Z ++ vs.toList.drop (off + Z.length)).toArray) (tt := tt') ho1 hal (by simp; omega) (fun y hy => by
      rw [hsz]
      simp only [List.mem_append, List.mem_map] at hy
      rcases hy with (hy | ⟨d, _, rfl⟩) | hy
      · have := p7 y (List.mem_of_mem_take hy); omega
      · rfl
      · have := p7 y (List.mem_of_mem_drop hy); omega) p1 (by rw [hw1]; rfl) (by rw [hw1]; rfl) (by rw [hw1]; rfl) (by rw [hw1]; simp [World.setRow]) (fun q _ hq => hold q hq) (by rw [hw1]; exact setRow_heap w _ vs _ tt' _ p1) (by simp; omega) (fun p j y d v y1 y2 y3 => by
      rw [p4, hsz, Nat.mul_one, Nat.zero_add] at y3
      have hj0 : j = 0 := by
        have h1 := (List.getElem?_eq_some_iff.1 y2).1
        have h2 : y.length = 1 := by
          have hy := List.mem_of_getElem? y1
          simp only [List.mem_append, List.mem_map] at hy
          rcases hy with (hy | ⟨d, _, rfl⟩) | hy
          · have := p7 y (List.mem_of_mem_take hy); omega
          · rfl
          · have := p7 y (List.mem_of_mem_drop hy); omega
        omega
      subst hj0
      simp only [List.getElem?_toArray, List.append_assoc, Nat.add_zero] at y3 y1
      by_cases c1 : p < off
      · rw [List.getElem?_append_left (by simp; omega), List.getElem?_take, if_pos c1] at y1
        rw [List.getElem?_append_left (by simp; omega), List.getElem?_take, if_pos c1] at y3
        exact (p8 p 0 y d v y1 y2 (by simpa using y3)).mono (fun _ h => h) him
      · rw [List.getElem?_append_right (by simp; omega)] at y1 y3
        simp only [List.length_take, show min off o.xs.length = off by omega, show min off vs.toList.length = off by simp; omega] at y1 y3
        by_cases c2 : p - off < news.length
        · rw [List.getElem?_append_left (by simpa using c2), hd1 _ c2] at y1
          rw [List.getElem?_append_left (by omega), hZg _ c2] at y3
          obtain rfl := Option.some.inj y1
          obtain rfl := Option.some.inj y3
          simp at y2
          subst y2
          exact (hrd (p - off) 0 [news[p - off]] news[p - off] (hd1 _ c2) rfl).mono (fun _ h => h) him
        · rw [List.getElem?_append_right (by simp; omega), List.length_map, List.getElem?_drop, show off + news.length + (p - off - news.length) = p by omega] at y1
          rw [List.getElem?_append_right (by omega), List.getElem?_drop, show off + Z.length + (p - off - Z.length) = p by omega] at y3
          exact (p8 p 0 y d v y1 y2 (by simpa using y3)).mono (fun _ h => h) him)
  unfold Oper.wp
  rw [hrun]
  refine hn _ g _ _ h (rel1.put_same (some i) ?_)
  rw [hZl]
  exact .one _ _ (.d _ _ (.int _ _))
theorem OpZ.copyRow (hT : TabOk P T) {dT sT e : TypeId} {ti ei : TI} {x y : Operand} {ri ver off k : Nat} {o : RowO} {news : List D} (hti : T dT = some ti) (hd : ti.desc = .slice e) (hei : T e = some ei) (hes : ei.size = 1)
    (hx : opd n ⟨t, b, r, m⟩ x = (true, .one (.row ri ver off k))) (hy : opd n ⟨t, b, r, m⟩ y = (true, .one (.d (.vec 1 (news.map fun d => [d]))))) (ho : rowAt ⟨t, b, r, m⟩ ri ver = some o) (hsz : o.sz = 1) (hne : news ≠ []) (hk : news.length ≤ k)
    {xs' : List (List D)} (hxs : o.xs.take off ++ (news.map fun d => [d]) ++ o.xs.drop (off + news.length) = xs') {r' : List (Option RowO)} (hr' : r.set ri (some ⟨o.al, o.ver, o.sz, o.ty, xs'⟩) = r')
    (h : K ⟨upd t i (.one (.d (.int .i64 (news.length : Int)))), b, r', m⟩) : OpZ E P n ops (⟨some i, .call ⟨.builtin .copy, #[x, y], #[dT, sT]⟩, ty, pos, after, none⟩ : Oper) K ⟨t, b, r, m⟩ := by
  have hm : (⟨some i, .call ⟨.builtin .copy, #[x, y], #[dT, sT]⟩, ty, pos, after, none⟩ : Oper).op.operands.toList = [x, y] := by simp [Op.operands, Call.operands]
  refine ⟨fun v1 b1 r1 m1 => v1 = .one (.d (.int .i64 (news.length : Int))) ∧ b1 = b ∧ r1 = r' ∧ m1 = m, fun t' ht => ?_, fun v1 b1 r1 m1 ⟨e0, e1, e2, e3⟩ => by subst e0; subst e1; subst e2; subst e3; exact h⟩
  have h1 := looks_opd (r := r) (m := m) (b := b) (b1 := b) (n := n) (x := x) (o := ⟨some i, .call ⟨.builtin .copy, #[x, y], #[dT, sT]⟩, ty, pos, after, none⟩) (by rw [hm]; simp) ht
  have h2 := looks_opd (r := r) (m := m) (b := b) (b1 := b) (n := n) (x := y) (o := ⟨some i, .call ⟨.builtin .copy, #[x, y], #[dT, sT]⟩, ty, pos, after, none⟩) (by rw [hm]; simp) ht
  exact S.copyRow (t := t') (l := []) (K := fun s1 => ∃ v b2 r2 m2, s1 = ⟨updO t' (some i) v, b2, r2, m2⟩ ∧ (v = .one (.d (.int .i64 (news.length : Int))) ∧ b2 = b ∧ r2 = r' ∧ m2 = m)) hT hti hd hei hes (h1.trans hx) (h2.trans hy) ho hsz hne hk hxs hr' ⟨_, b, r', m, rfl, rfl, rfl, rfl, rfl⟩
theorem OpZ.sliceRow (hT : TabOk P T) {tt e : TypeId} {ti ei : TI} {x y : Operand} {ri ver off k : Nat} {o : RowO} (l1 : Nat) (hti : T tt = some ti) (hd : ti.desc = .slice e) (hei : T e = some ei)
    (hx : opd n ⟨t, b, r, m⟩ x = (true, .one (.row ri ver off k))) (hy : opd n ⟨t, b, r, m⟩ y = (true, .one (.d (.int .i64 (l1 : Int))))) (ho : rowAt ⟨t, b, r, m⟩ ri ver = some o) (hsz : ei.size = o.sz)
    (hb : l1 < k) {off' k' : Nat} (ho' : off + l1 = off') (hk' : k - l1 = k') (h : K ⟨upd t i (.one (.row ri ver off' k')), b, r, m⟩) : OpZ E P n ops (⟨some i, .slice tt x (some y) none none, ty, pos, after, none⟩ : Oper) K ⟨t, b, r, m⟩ := by
  have hm : (⟨some i, .slice tt x (some y) none none, ty, pos, after, none⟩ : Oper).op.operands.toList = [x, y] := by simp [Op.operands]
  refine ⟨fun v1 b1 r1 m1 => v1 = .one (.row ri ver off' k') ∧ b1 = b ∧ r1 = r ∧ m1 = m, fun t' ht => ?_, fun v1 b1 r1 m1 ⟨e0, e1, e2, e3⟩ => by subst e0; subst e1; subst e2; subst e3; exact h⟩
  have h1 := looks_opd (r := r) (m := m) (b := b) (b1 := b) (n := n) (x := x) (o := ⟨some i, .slice tt x (some y) none none, ty, pos, after, none⟩) (by rw [hm]; simp) ht
  have h2 := looks_opd (r := r) (m := m) (b := b) (b1 := b) (n := n) (x := y) (o := ⟨some i, .slice tt x (some y) none none, ty, pos, after, none⟩) (by rw [hm]; simp) ht
  have hlo : bnd n ⟨t', b, r, m⟩ 0 (some y) = some (true, (l1 : Int)) := by unfold bnd; simp only [h2.trans hy]
  exact S.sliceRow (t := t') (l := []) (K := fun s1 => ∃ v b2 r2 m2, s1 = ⟨updO t' (some i) v, b2, r2, m2⟩ ∧ (v = .one (.row ri ver off' k') ∧ b2 = b ∧ r2 = r ∧ m2 = m)) hT l1 k hti hd hei (h1.trans hx) hlo rfl ho hsz rfl rfl ⟨by omega, Nat.le_refl _, hb⟩ ho' hk' ⟨_, b, r, m, rfl, rfl, rfl, rfl, rfl⟩
def isNil (d : D) (q : Bool) : Prop := (d = .nilsl ∧ q = true) ∨ (∃ sz y ys, d = .vec sz (y :: ys) ∧ q = false)
theorem run_nilB {w : World} {t0 e : TypeId} {x y : Operand} (a : Option Addr) (j c : Nat) (h : P.underlying t0 = some (.slice e)) :
    ((do eqGuard .neq t0 x y (.slice a j c) (.slice none 0 0); Go.binOp .neq t0 (.slice a j c) (.slice none 0 0)) : Sem Value).run P w = .ok (.bool (!a.isNone)) w := by
  have h1 : (eqGuard .neq t0 x y (.slice a j c) (.slice none 0 0)).run P w = .ok () w := rfl
  have h2 : (Op.equal t0 (.slice a j c) (.slice none 0 0)).run P w = .ok a.isNone w := run_eqNil0 9999 a j c h
  simp only [Sem.run_bind, h1, Result.andThen_ok]
  unfold Go.binOp
  simp only [Sem.run_bind, h2, Result.andThen_ok, Sem.run_pure]
theorem nil_val {g : Gh} {h : Sh} {w : World} {d : D} {q : Bool} {v : Value} (hq : isNil d q) (hv : RV g h w (.one (.d d)) v) : ∃ A j c, v = .slice A j c ∧ A.isNone = q := by
  cases hv with | one _ _ hv => cases hv with | d _ _ hv =>
  rcases hq with ⟨rfl, rfl⟩ | ⟨sz, y, ys, rfl, rfl⟩
  · cases hv with | nilsl => exact ⟨_, _, _, rfl, rfl⟩
  · cases hv with | vec _ _ _ _ _ _ _ _ _ _ _ _ => exact ⟨_, _, _, rfl, rfl⟩
theorem S.isNilD (hT : TabOk P T) {t0 t1 e : TypeId} {ti : TI} {x : Operand} {d : D} (q : Bool) (hq : isNil d q) (hti : T t0 = some ti) (hd : ti.desc = .slice e) (hx : opd n ⟨t, b, r, m⟩ x = (true, .one (.d d)))
    (k : WL E P n ops l K ⟨upd t i (.one (.d (.bool q))), b, r, m⟩) : WL E P n ops (⟨some i, .binOp .eql t0 x (.const (.slice none 0 0)) t1, ty, pos, after, none⟩ :: l) K ⟨t, b, r, m⟩ := by
  intro g a w rel next Q hn
  have hw : Region.wanted (⟨some i, .binOp .eql t0 x (.const (.slice none 0 0)) t1, ty, pos, after, none⟩ : Oper) (yielded ops a.tmps) = true := by simp [Region.wanted]
  rw [if_pos hw]
  have h1 := (hT t0 ti hti).1
  rw [hd] at h1
  obtain ⟨A, j, c, he, hA⟩ := nil_val hq (opd_ok rel hx rfl)
  have hex : (execOp a.eval (⟨some i, .binOp .eql t0 x (.const (.slice none 0 0)) t1, ty, pos, after, none⟩ : Oper)).run P w = .ok (.value (.bool q)) w := by
    show ((do let v ← ((do eqGuard .eql t0 x (.const (.slice none 0 0)) (a.eval x) (.slice none 0 0); Go.binOp .eql t0 (a.eval x) (.slice none 0 0)) : Sem Value); Pure.pure (Next.value v)) : Sem Next).run P w = _
    rw [he, Sem.run_bind, run_eqNil A j c h1, hA]
    simp only [Result.andThen_ok, Sem.run_pure]
  unfold Oper.wp
  rw [hex]
  exact hn _ g _ _ k (rel.put_same (some i) (.one _ _ (.d _ _ (.bool _))))
theorem S.notNilD (hT : TabOk P T) {t0 t1 e : TypeId} {ti : TI} {x : Operand} {d : D} (q : Bool) (hq : isNil d q) (hti : T t0 = some ti) (hd : ti.desc = .slice e) (hx : opd n ⟨t, b, r, m⟩ x = (true, .one (.d d)))
    (k : WL E P n ops l K ⟨upd t i (.one (.d (.bool (!q)))), b, r, m⟩) : WL E P n ops (⟨some i, .binOp .neq t0 x (.const (.slice none 0 0)) t1, ty, pos, after, none⟩ :: l) K ⟨t, b, r, m⟩ := by
  intro g a w rel next Q hn
  have hw : Region.wanted (⟨some i, .binOp .neq t0 x (.const (.slice none 0 0)) t1, ty, pos, after, none⟩ : Oper) (yielded ops a.tmps) = true := by simp [Region.wanted]
  rw [if_pos hw]
  have h1 := (hT t0 ti hti).1
  rw [hd] at h1
  obtain ⟨A, j, c, he, hA⟩ := nil_val hq (opd_ok rel hx rfl)
  have hex : (execOp a.eval (⟨some i, .binOp .neq t0 x (.const (.slice none 0 0)) t1, ty, pos, after, none⟩ : Oper)).run P w = .ok (.value (.bool (!q))) w := by
    show ((do let v ← ((do eqGuard .neq t0 x (.const (.slice none 0 0)) (a.eval x) (.slice none 0 0); Go.binOp .neq t0 (a.eval x) (.slice none 0 0)) : Sem Value); Pure.pure (Next.value v)) : Sem Next).run P w = _
    rw [he, Sem.run_bind, run_nilB A j c h1, hA]
    simp only [Result.andThen_ok, Sem.run_pure]
  unfold Oper.wp
  rw [hex]
  exact hn _ g _ _ k (rel.put_same (some i) (.one _ _ (.d _ _ (.bool _))))
end
end Go.Proofs.YtgknfikdajoiaaaGreatDoor
namespace Go.Proofs.YtgknfikdajoiaaaGreatDoor
open Go Go.RowKit
section
variable {J : Inv} {k0 : Lens} {E : Env J k0} {P : Program} {T : TypeId → Option TI} {n : Nat} {t : Nat → V} {b : List (List C)} {r : List (Option RowO)} {m : List (List (DV × DV))} {ops : Array Oper} {l : List Oper}
  {K : St → Prop} {i : Nat} {ty : TypeId} {pos : String} {after : Array Edge}
theorem S.appendNil (hT : TabOk P T) {tt e : TypeId} {ti ei : TI} {y : Operand} {news : List D} (hti : T tt = some ti) (hd : ti.desc = .slice e) (hei : T e = some ei) (hes : ei.size = 1) (hby : Nat.ble ei.bytes 4096 = true)
    (hy : opd n ⟨t, b, r, m⟩ y = (true, .one (.d (.vec 1 (news.map fun d => [d]))))) (hne : news ≠ []) (hk : news.length ≤ 34359738368)
    (h : WL E P n ops l K ⟨upd t i (.one (.d (.vec 1 (news.map fun d => [d])))), b, r, m⟩) : WL E P n ops (⟨some i, .call ⟨.builtin .append, #[.const (.slice none 0 0), y], #[tt, tt]⟩, ty, pos, after, none⟩ :: l) K ⟨t, b, r, m⟩ := by
  intro g a w rel next Q hn
  have hw : Region.wanted (⟨some i, .call ⟨.builtin .append, #[.const (.slice none 0 0), y], #[tt, tt]⟩, ty, pos, after, none⟩ : Oper) (yielded ops a.tmps) = true := by simp [Region.wanted]
  rw [if_pos hw]
  have hq := opd_ok rel hy rfl
  generalize hyy : a.eval y = yv at hq
  have hut := (hT tt ti hti).1
  rw [hd] at hut
  obtain ⟨_, info, i1, i2, i3, i4, _⟩ := hT e ei hei
  have hnl : 0 < news.length := List.length_pos_iff.2 hne
  cases hq with | one _ _ hq => cases hq with | d _ _ hq =>
  generalize hvv : (news.map fun d => [d]) = vv at hq h
  cases hq with
  | empty => simp at hvv; exact absurd hvv hne
  | vec _ _ bb oo cap uu hne' hc hb' hsz' hcell hrd =>
  subst hvv
  obtain ⟨Z, hZ⟩ : ∃ Z : List Value, Z = (List.range news.length).map fun j => uu j 0 := ⟨_, rfl⟩
  have hZl : Z.length = news.length := by rw [hZ]; simp
  have hZg : ∀ j, j < news.length → Z[j]? = some (uu j 0) := fun j hj => by rw [hZ]; simp [hj]
  have hd1 : ∀ j (hj : j < news.length), (news.map fun d => [d])[j]? = some [news[j]] := fun j hj => by simp [hj]
  have hsrc : ∀ j v, Z[j]? = some v → w.cell? ((⟨bb, oo, none⟩ : Addr).add j) = some v := fun j v hv => by
    have hj : j < news.length := by have := (List.getElem?_eq_some_iff.1 hv).1; omega
    rw [hZg j hj] at hv
    rw [← hv, ← hcell j 0 [news[j]] news[j] (hd1 j hj) rfl]
    unfold Addr.add
    split
    · rename_i h0; subst h0; simp
    · simp
  have hby' : ei.bytes ≤ 4096 := Nat.le_of_ble_eq_true hby
  have hrun0 := run_append_nil (P := P) (w := w) tt ty e info ei.zero hut i1 i3 ⟨bb, oo, none⟩ news.length cap Z (by rw [hZl, i2, hes, Nat.mul_one]) hsrc hnl (by omega) (by
    rw [i4]
    have := Nat.mul_le_mul hk hby'
    omega)
  obtain ⟨cells, hcells⟩ : ∃ cells : Array Value, cells = Z.toArray ++ Builtin.zeroCells ei.zero.cells (grownCap w news.length 0 e - news.length) := ⟨_, rfl⟩
  rw [← hcells] at hrun0
  obtain ⟨w1, hw1⟩ : ∃ w1 : World, w1 = w.drew.alloc (.cells cells e) := ⟨_, rfl⟩
  rw [← hw1] at hrun0
  have hcg : ∀ j, j < news.length → cells[j]? = some (uu j 0) := fun j hj => by
    rw [hcells, Array.getElem?_append_left (by simp [hZl]; exact hj)]
    simpa using hZg j hj
  have hrun : (execOp a.eval (⟨some i, .call ⟨.builtin .append, #[.const (.slice none 0 0), y], #[tt, tt]⟩, ty, pos, after, none⟩ : Oper)).run P w = .ok (.value (.slice (some ⟨w.heap.size, 0, none⟩) news.length (grownCap w news.length 0 e))) w1 := by
    have hc0 : a.eval (.const (.slice none 0 0)) = .slice none 0 0 := rfl
    rw [List.length_map] at hyy
    simp only [execOp, resolve, Sem.run_bind, Sem.run_pure, Result.andThen_ok, List.map_toArray, List.map_cons, List.map_nil, hyy, hc0]
    unfold Go.invoke
    simp only [builtin, Sem.run_bind, Sem.run_pure, Result.andThen_ok, hrun0]
  have hold : ∀ q, q < w.heap.size → w1.heap[q]? = w.heap[q]? := fun q hq => by rw [hw1]; exact Below.heap_alloc w.drew _ q hq
  have hnew : w1.heap[w.heap.size]? = some (.cells cells e (0, 0)) := by rw [hw1]; show (w.heap.push _)[w.heap.size]? = _; simp
  have hsz1 : w1.heap.size = w.heap.size + 1 := by rw [hw1]; simp
  have hbel : Below w.heap.size w w1 := by rw [hw1]; exact ((Below.refl _ _).drew).alloc (Nat.le_refl _) _
  have rel1 := rel.later (fun q => g.im q ∨ q = w.heap.size) hbel (fun q hq => .inl hq) (fun q hq => by
    rcases hq with hq | hq
    · have := rel.imlt q hq; omega
    · omega) (fun q hq => by
    rcases hq with hq | hq
    · exact .inl hq
    · exact .inr (by omega))
  unfold Oper.wp
  rw [hrun]
  refine hn _ _ _ _ h (rel1.put_same (some i) (.one _ _ (.d _ _ ?_)))
  have hge : news.length ≤ grownCap w news.length 0 e := grownCap_ge w news.length 0 e
  have := RD.vec (im := fun q => g.im q ∨ q = w.heap.size) (w := w1) 1 (news.map fun d => [d]) w.heap.size 0 (grownCap w news.length 0 e) uu hne' (by simpa using hge) (.inr rfl) hsz' (fun p j x d h1 h2 => by
    have hp : p < news.length := by have := (List.getElem?_eq_some_iff.1 h1).1; simpa using this
    rw [hd1 p hp] at h1
    obtain rfl := Option.some.inj h1
    have hj : j = 0 := by have := (List.getElem?_eq_some_iff.1 h2).1; simp at this; exact this
    subst hj
    simp only [World.cell?, hnew]
    simpa using hcg p hp) (fun p j x d h1 h2 => (hrd p j x d h1 h2).mono (fun q hq => .inl hq) (fun q hq => hold q (rel.imlt q hq)))
  rwa [List.length_map] at this
theorem S.callBnd {dst : Nat} {fo : Operand} {ats : Array TypeId} {f : FuncId} {lo off : Nat} {rv : V} {b' : List (List C)} {r' : List (Option RowO)} {m' : List (List (DV × DV))} (hu : opd n ⟨t, b, r, m⟩ fo = (true, .one (.wr (.bnd f) lo off))) (pc : HCall P J f [.one (.ptr lo off)] b r m (isH rv b' r' m'))
    (k : WL E P n ops l K ⟨upd t dst rv, b', r', m'⟩) : WL E P n ops (⟨some dst, .call ⟨.value fo, #[], ats⟩, ty, pos, after, none⟩ :: l) K ⟨t, b, r, m⟩ := by
  intro g a w rel next Q hn
  have hwt : Region.wanted (⟨some dst, .call ⟨.value fo, #[], ats⟩, ty, pos, after, none⟩ : Oper) (yielded ops a.tmps) = true := by simp [Region.wanted]
  rw [if_pos hwt]
  have hp := opd_ok rel hu rfl
  generalize hz : a.eval fo = z at hp
  cases hp with | one _ _ hp => cases hp with | wr _ _ _ hl =>
  obtain ⟨fn, hf, h1, h2⟩ := pc.enter
  have hrun : (execOp a.eval (⟨some dst, .call ⟨.value fo, #[], ats⟩, ty, pos, after, none⟩ : Oper)).run P w = .ok (.enter f [.pointer (some ⟨g.at_ (.b lo), off, none⟩)].toArray) w := by
    have e1 : (#[Value.pointer (some ⟨g.at_ (.b lo), off, none⟩)] ++ (#[] : Array Value) ++ #[] : Array Value) = [.pointer (some ⟨g.at_ (.b lo), off, none⟩)].toArray := rfl
    simp only [execOp, resolve, hz, Wr.v, Deferred.ofValue, Sem.run_bind, Sem.run_pure, Result.andThen_ok, Array.map_empty]
    exact invoke_enter hf h1 h2 _ rfl
  refine enter_wp rel hrun rfl (fun j u v hu hv => ?_) pc (fun v g' w' rv' b1 r1 m1 rel' hv' ⟨q1, q2, q3, q4⟩ => by
    subst q1; subst q2; subst q3; subst q4
    exact hn _ g' _ _ k (rel'.put_same (some dst) hv'))
  cases j with
  | zero => simp at hu hv; subst hu; subst hv; exact .one _ _ (.ptr _ _ hl)
  | succ j => simp at hu
end
end Go.Proofs.YtgknfikdajoiaaaGreatDoor
namespace Go.Proofs
open Go.Shelf
def Tryz.lays160_ren : Go.Shelf.Ren := ⟨fun | 160 => 129 | 232 => 173 | 231 => 172 | 227 => 174 | 234 => 176 | 233 => 175 | 236 => 178 | 235 => 177 | 228 => 209 | 271 => 211 | 151 => 210 | 197 => 185 | 120 => 231 | 152 => 230 | 260 => 219 | 137 => 114 | 119 => 246 | 224 => 183 | 225 => 182 | 217 => 161 | 266 => 202 | n => n, fun | 9 => 9 | 4 => 4 | 3 => 3 | 5 => 5 | 117 => 211 | 116 => 210 | 0 => 0 | 124 => 214 | 21 => 21 | 105 => 218 | 46 => 139 | 119 => 243 | 139 => 280 | 138 => 279 | n => n, fun | 3 => 1 | 4 => 2 | n => n⟩
theorem Tryz.lays160 : Go.Proofs.Lays.n160 Tryz.prog Tryz.lays160_ren := {
  mixed := by kernel_rfl
  f119 := Tryz.func246.trans (congrArg some (by kernel_rfl))
  f120 := Tryz.func231.trans (congrArg some (by kernel_rfl))
  f137 := Tryz.func114.trans (congrArg some (by kernel_rfl))
  f151 := Tryz.func210.trans (congrArg some (by kernel_rfl))
  f152 := Tryz.func230.trans (congrArg some (by kernel_rfl))
  f160 := Tryz.func129.trans (congrArg some (by kernel_rfl))
  f197 := Tryz.func185.trans (congrArg some (by kernel_rfl))
  f217 := Tryz.func161.trans (congrArg some (by kernel_rfl))
  f224 := Tryz.func183.trans (congrArg some (by kernel_rfl))
  f225 := Tryz.func182.trans (congrArg some (by kernel_rfl))
  f227 := Tryz.func174.trans (congrArg some (by kernel_rfl))
  f228 := Tryz.func209.trans (congrArg some (by kernel_rfl))
  f231 := Tryz.func172.trans (congrArg some (by kernel_rfl))
  f232 := Tryz.func173.trans (congrArg some (by kernel_rfl))
  f233 := Tryz.func175.trans (congrArg some (by kernel_rfl))
  f234 := Tryz.func176.trans (congrArg some (by kernel_rfl))
  f235 := Tryz.func177.trans (congrArg some (by kernel_rfl))
  f236 := Tryz.func178.trans (congrArg some (by kernel_rfl))
  f260 := Tryz.func219.trans (congrArg some (by kernel_rfl))
  f266 := Tryz.func202.trans (congrArg some (by kernel_rfl))
  f271 := Tryz.func211.trans (congrArg some (by kernel_rfl))
  t0 := Tryz.underlying0
  a0 := Tryz.isAgg0
  z0 := Tryz.sizeOf0
  v0 := Tryz.zeroValue0
  t3 := Tryz.underlying3
  a3 := Tryz.isAgg3
  z3 := Tryz.sizeOf3
  v3 := Tryz.zeroValue3
  t4 := Tryz.underlying4
  a4 := Tryz.isAgg4
  z4 := Tryz.sizeOf4
  v4 := Tryz.zeroValue4
  t5 := Tryz.underlying5
  a5 := Tryz.isAgg5
  z5 := Tryz.sizeOf5
  v5 := Tryz.zeroValue5
  t9 := Tryz.underlying9
  a9 := Tryz.isAgg9
  z9 := Tryz.sizeOf9
  v9 := Tryz.zeroValue9
  t21 := Tryz.underlying21
  a21 := Tryz.isAgg21
  z21 := Tryz.sizeOf21
  v21 := Tryz.zeroValue21
  t46 := Tryz.underlying139
  a46 := Tryz.isAgg139
  z46 := Tryz.sizeOf139
  v46 := Tryz.zeroValue139
  t105 := Tryz.underlying218
  a105 := Tryz.isAgg218
  z105 := Tryz.sizeOf218
  v105 := Tryz.zeroValue218
  t116 := Tryz.underlying210
  a116 := Tryz.isAgg210
  z116 := Tryz.sizeOf210
  t117 := Tryz.underlying211
  a117 := Tryz.isAgg211
  z117 := Tryz.sizeOf211
  v117 := Tryz.zeroValue211
  t119 := Tryz.underlying243
  a119 := Tryz.isAgg243
  z119 := Tryz.sizeOf243
  t124 := Tryz.underlying214
  a124 := Tryz.isAgg214
  z124 := Tryz.sizeOf214
  v124 := Tryz.zeroValue214
  t138 := Tryz.underlying279
  a138 := Tryz.isAgg279
  z138 := Tryz.sizeOf279
  v138 := Tryz.zeroValue279
  t139 := Tryz.underlying280
  a139 := Tryz.isAgg280
  z139 := Tryz.sizeOf280
  v139 := Tryz.zeroValue280
  g3 := by kernel_rfl
  g4 := by kernel_rfl }
def Tryz.lays137_ren : Go.Shelf.Ren := ⟨fun | 137 => 114 | 217 => 161 | 266 => 202 | n => n, fun | 9 => 9 | 5 => 5 | 3 => 3 | n => n, fun | n => n⟩
theorem Tryz.lays137 : Go.Proofs.Lays.n137 Tryz.prog Tryz.lays137_ren := {
  mixed := by kernel_rfl
  f137 := Tryz.func114.trans (congrArg some (by kernel_rfl))
  f217 := Tryz.func161.trans (congrArg some (by kernel_rfl))
  f266 := Tryz.func202.trans (congrArg some (by kernel_rfl))
  t3 := Tryz.underlying3
  a3 := Tryz.isAgg3
  z3 := Tryz.sizeOf3
  v3 := Tryz.zeroValue3
  t5 := Tryz.underlying5
  a5 := Tryz.isAgg5
  z5 := Tryz.sizeOf5
  v5 := Tryz.zeroValue5
  t9 := Tryz.underlying9
  a9 := Tryz.isAgg9
  z9 := Tryz.sizeOf9
  v9 := Tryz.zeroValue9 }
open Go.RowKit in
theorem Tryz.strings_IndexByte (s : ByteArray) (c : Int) (w : World) :
    Calls Tryz.prog 114 #[.string s, .int .u8 c] w fun e w' => e = .returned (.int .i64 (Lib.indexByte s.data.toList c.toNat.toUInt8)) ∧ w' = w := Any.strings_IndexByte Tryz.lays137 s c w
def Tryz.lays144_ren : Go.Shelf.Ren := ⟨fun | 144 => 41 | 143 => 90 | 219 => 134 | 217 => 161 | 225 => 182 | 224 => 183 | 267 => 184 | 266 => 202 | 314 => 218 | n => n, fun | 9 => 9 | 4 => 4 | 3 => 3 | 5 => 5 | 46 => 139 | 146 => 250 | 51 => 162 | n => n, fun | 1 => 0 | n => n⟩
theorem Tryz.lays144 : Go.Proofs.Lays.n144 Tryz.prog Tryz.lays144_ren := {
  mixed := by kernel_rfl
  f143 := Tryz.func90.trans (congrArg some (by kernel_rfl))
  f144 := Tryz.func41.trans (congrArg some (by kernel_rfl))
  f217 := Tryz.func161.trans (congrArg some (by kernel_rfl))
  f219 := Tryz.func134.trans (congrArg some (by kernel_rfl))
  f224 := Tryz.func183.trans (congrArg some (by kernel_rfl))
  f225 := Tryz.func182.trans (congrArg some (by kernel_rfl))
  f266 := Tryz.func202.trans (congrArg some (by kernel_rfl))
  f267 := Tryz.func184.trans (congrArg some (by kernel_rfl))
  f314 := Tryz.func218.trans (congrArg some (by kernel_rfl))
  t3 := Tryz.underlying3
  a3 := Tryz.isAgg3
  z3 := Tryz.sizeOf3
  v3 := Tryz.zeroValue3
  t4 := Tryz.underlying4
  a4 := Tryz.isAgg4
  z4 := Tryz.sizeOf4
  v4 := Tryz.zeroValue4
  t5 := Tryz.underlying5
  a5 := Tryz.isAgg5
  z5 := Tryz.sizeOf5
  v5 := Tryz.zeroValue5
  t9 := Tryz.underlying9
  a9 := Tryz.isAgg9
  z9 := Tryz.sizeOf9
  v9 := Tryz.zeroValue9
  t46 := Tryz.underlying139
  a46 := Tryz.isAgg139
  z46 := Tryz.sizeOf139
  v46 := Tryz.zeroValue139
  t51 := Tryz.underlying162
  a51 := Tryz.isAgg162
  z51 := Tryz.sizeOf162
  v51 := Tryz.zeroValue162
  t146 := Tryz.underlying250
  a146 := Tryz.isAgg250
  z146 := Tryz.sizeOf250
  v146 := Tryz.zeroValue250
  g1 := by kernel_rfl }
open Go.RowKit Go.Lib in
theorem Tryz.strings_Contains (s sub : ByteArray) (m : Int) (w : World) (hs : s.size < 4294967281) (hm : w.cell? ⟨0, 0, none⟩ = some (.int .i64 m)) :
    Calls Tryz.prog 41 #[.string s, .string sub] w fun e w' => e = .returned (.bool (Lib.contains s.data.toList sub.data.toList)) ∧ w' = w := Any.strings_Contains Tryz.lays144 s sub m w hs hm
def Tryz.lays145_ren : Go.Shelf.Ren := ⟨fun | 145 => 39 | 220 => 89 | 219 => 134 | 217 => 161 | 225 => 182 | 224 => 183 | 267 => 184 | 266 => 202 | 314 => 218 | n => n, fun | 9 => 9 | 4 => 4 | 59 => 65 | 3 => 3 | 5 => 5 | 46 => 139 | 146 => 250 | 51 => 162 | n => n, fun | 1 => 0 | n => n⟩
theorem Tryz.lays145 : Go.Proofs.Lays.n145 Tryz.prog Tryz.lays145_ren := {
  mixed := by kernel_rfl
  f145 := Tryz.func39.trans (congrArg some (by kernel_rfl))
  f217 := Tryz.func161.trans (congrArg some (by kernel_rfl))
  f219 := Tryz.func134.trans (congrArg some (by kernel_rfl))
  f220 := Tryz.func89.trans (congrArg some (by kernel_rfl))
  f224 := Tryz.func183.trans (congrArg some (by kernel_rfl))
  f225 := Tryz.func182.trans (congrArg some (by kernel_rfl))
  f266 := Tryz.func202.trans (congrArg some (by kernel_rfl))
  f267 := Tryz.func184.trans (congrArg some (by kernel_rfl))
  f314 := Tryz.func218.trans (congrArg some (by kernel_rfl))
  t3 := Tryz.underlying3
  a3 := Tryz.isAgg3
  z3 := Tryz.sizeOf3
  v3 := Tryz.zeroValue3
  t4 := Tryz.underlying4
  a4 := Tryz.isAgg4
  z4 := Tryz.sizeOf4
  v4 := Tryz.zeroValue4
  t5 := Tryz.underlying5
  a5 := Tryz.isAgg5
  z5 := Tryz.sizeOf5
  v5 := Tryz.zeroValue5
  t9 := Tryz.underlying9
  a9 := Tryz.isAgg9
  z9 := Tryz.sizeOf9
  v9 := Tryz.zeroValue9
  t46 := Tryz.underlying139
  a46 := Tryz.isAgg139
  z46 := Tryz.sizeOf139
  v46 := Tryz.zeroValue139
  t51 := Tryz.underlying162
  a51 := Tryz.isAgg162
  z51 := Tryz.sizeOf162
  v51 := Tryz.zeroValue162
  t59 := Tryz.underlying65
  a59 := Tryz.isAgg65
  z59 := Tryz.sizeOf65
  v59 := Tryz.zeroValue65
  t146 := Tryz.underlying250
  a146 := Tryz.isAgg250
  z146 := Tryz.sizeOf250
  v146 := Tryz.zeroValue250
  g1 := by kernel_rfl }
open Go.RowKit Go.Lib in
theorem Tryz.strings_Cut (s sep : ByteArray) (m : Int) (w : World) (hs : s.size < 4294967281) (hm : w.cell? ⟨0, 0, none⟩ = some (.int .i64 m)) :
    Calls Tryz.prog 39 #[.string s, .string sep] w fun e w' => e = .returned (.tuple #[.string ⟨(Lib.cut s.data.toList sep.data.toList).1.toArray⟩, .string ⟨(Lib.cut s.data.toList sep.data.toList).2.1.toArray⟩, .bool (Lib.cut s.data.toList sep.data.toList).2.2]) ∧ ∃ n, w' = w.drewN n := Any.strings_Cut Tryz.lays145 s sep m w hs hm
def Tryz.lays99_ren : Go.Shelf.Ren := ⟨fun | 99 => 32 | 206 => 83 | n => n, fun | 9 => 9 | 4 => 4 | 3 => 3 | n => n, fun | n => n⟩
theorem Tryz.lays99 : Go.Proofs.Lays.n99 Tryz.prog Tryz.lays99_ren := {
  mixed := by kernel_rfl
  f99 := Tryz.func32.trans (congrArg some (by kernel_rfl))
  f206 := Tryz.func83.trans (congrArg some (by kernel_rfl))
  t3 := Tryz.underlying3
  a3 := Tryz.isAgg3
  z3 := Tryz.sizeOf3
  v3 := Tryz.zeroValue3
  t4 := Tryz.underlying4
  a4 := Tryz.isAgg4
  z4 := Tryz.sizeOf4
  v4 := Tryz.zeroValue4
  t9 := Tryz.underlying9
  a9 := Tryz.isAgg9
  z9 := Tryz.sizeOf9
  v9 := Tryz.zeroValue9 }
open Go.RowKit Go.Lib in
theorem Tryz.strings_HasPrefix (s p : ByteArray) (w : World) :
    Calls Tryz.prog 32 #[.string s, .string p] w fun e w' => e = .returned (.bool (Lib.hasPrefix s.data.toList p.data.toList)) ∧ w' = w := Any.strings_HasPrefix Tryz.lays99 s p w
def Tryz.lays146_ren : Go.Shelf.Ren := ⟨fun | 146 => 81 | 221 => 128 | 268 => 170 | 138 => 171 | 143 => 90 | 195 => 207 | 197 => 185 | 218 => 208 | 219 => 134 | 260 => 219 | 217 => 161 | 225 => 182 | 224 => 183 | 267 => 184 | 266 => 202 | 314 => 218 | n => n, fun | 9 => 9 | 31 => 40 | 3 => 3 | 4 => 4 | 0 => 0 | 105 => 218 | 21 => 21 | 5 => 5 | 46 => 139 | 119 => 243 | 139 => 280 | 138 => 279 | 146 => 250 | 51 => 162 | n => n, fun | 1 => 0 | 3 => 1 | 4 => 2 | n => n⟩
theorem Tryz.lays146 : Go.Proofs.Lays.n146 Tryz.prog Tryz.lays146_ren := {
  mixed := by kernel_rfl
  f138 := Tryz.func171.trans (congrArg some (by kernel_rfl))
  f143 := Tryz.func90.trans (congrArg some (by kernel_rfl))
  f146 := Tryz.func81.trans (congrArg some (by kernel_rfl))
  f195 := Tryz.func207.trans (congrArg some (by kernel_rfl))
  f197 := Tryz.func185.trans (congrArg some (by kernel_rfl))
  f217 := Tryz.func161.trans (congrArg some (by kernel_rfl))
  f218 := Tryz.func208.trans (congrArg some (by kernel_rfl))
  f219 := Tryz.func134.trans (congrArg some (by kernel_rfl))
  f221 := Tryz.func128.trans (congrArg some (by kernel_rfl))
  f224 := Tryz.func183.trans (congrArg some (by kernel_rfl))
  f225 := Tryz.func182.trans (congrArg some (by kernel_rfl))
  f260 := Tryz.func219.trans (congrArg some (by kernel_rfl))
  f266 := Tryz.func202.trans (congrArg some (by kernel_rfl))
  f267 := Tryz.func184.trans (congrArg some (by kernel_rfl))
  f268 := Tryz.func170.trans (congrArg some (by kernel_rfl))
  f314 := Tryz.func218.trans (congrArg some (by kernel_rfl))
  t0 := Tryz.underlying0
  a0 := Tryz.isAgg0
  z0 := Tryz.sizeOf0
  v0 := Tryz.zeroValue0
  t3 := Tryz.underlying3
  a3 := Tryz.isAgg3
  z3 := Tryz.sizeOf3
  v3 := Tryz.zeroValue3
  t4 := Tryz.underlying4
  a4 := Tryz.isAgg4
  z4 := Tryz.sizeOf4
  v4 := Tryz.zeroValue4
  t5 := Tryz.underlying5
  a5 := Tryz.isAgg5
  z5 := Tryz.sizeOf5
  v5 := Tryz.zeroValue5
  t9 := Tryz.underlying9
  a9 := Tryz.isAgg9
  z9 := Tryz.sizeOf9
  v9 := Tryz.zeroValue9
  t21 := Tryz.underlying21
  a21 := Tryz.isAgg21
  z21 := Tryz.sizeOf21
  v21 := Tryz.zeroValue21
  t31 := Tryz.underlying40
  a31 := Tryz.isAgg40
  z31 := Tryz.sizeOf40
  v31 := Tryz.zeroValue40
  t46 := Tryz.underlying139
  a46 := Tryz.isAgg139
  z46 := Tryz.sizeOf139
  v46 := Tryz.zeroValue139
  t51 := Tryz.underlying162
  a51 := Tryz.isAgg162
  z51 := Tryz.sizeOf162
  v51 := Tryz.zeroValue162
  t105 := Tryz.underlying218
  a105 := Tryz.isAgg218
  z105 := Tryz.sizeOf218
  v105 := Tryz.zeroValue218
  t119 := Tryz.underlying243
  a119 := Tryz.isAgg243
  z119 := Tryz.sizeOf243
  t138 := Tryz.underlying279
  a138 := Tryz.isAgg279
  z138 := Tryz.sizeOf279
  v138 := Tryz.zeroValue279
  t139 := Tryz.underlying280
  a139 := Tryz.isAgg280
  z139 := Tryz.sizeOf280
  v139 := Tryz.zeroValue280
  t146 := Tryz.underlying250
  a146 := Tryz.isAgg250
  z146 := Tryz.sizeOf250
  v146 := Tryz.zeroValue250
  g1 := by kernel_rfl
  g3 := by kernel_rfl
  g4 := by kernel_rfl }
open Go.RowKit Go.Lib in
theorem Tryz.strings_Split (s sep : ByteArray) (m : Int) (w : World) (hs : s.size < 4294967281) (hm : w.cell? ⟨0, 0, none⟩ = some (.int .i64 m)) (h1 : 1 ≤ sep.size) :
    Calls Tryz.prog 81 #[.string s, .string sep] w fun e w' =>
      e = .returned (.slice (some ⟨w.heap.size, 0, none⟩) (Lib.countB s sep + 1) (Lib.countB s sep + 1)) ∧ w' = w.alloc (.cells ((Lib.splitB sep 0 (Lib.countB s sep) s).map Value.string).toArray 9) := Any.strings_Split Tryz.lays146 (by kernel_rfl) s sep m w hs hm h1
def Tryz.lays155_ren : Go.Shelf.Ren := ⟨fun | 155 => 91 | 154 => 135 | 138 => 171 | 165 => 107 | 143 => 90 | 166 => 108 | 197 => 185 | 169 => 109 | 195 => 207 | 218 => 208 | 240 => 148 | 241 => 149 | 219 => 134 | 260 => 219 | 276 => 194 | 277 => 195 | 217 => 161 | 225 => 182 | 224 => 183 | 267 => 184 | 266 => 202 | 314 => 218 | n => n, fun | 9 => 9 | 3 => 3 | 4 => 4 | 72 => 131 | 0 => 0 | 76 => 134 | 105 => 218 | 21 => 21 | 5 => 5 | 70 => 129 | 20 => 20 | 37 => 122 | 75 => 133 | 127 => 188 | 164 => 222 | 46 => 139 | 119 => 243 | 139 => 280 | 138 => 279 | 146 => 250 | 51 => 162 | 80 => 136 | n => n, fun | 1 => 0 | 3 => 1 | 4 => 2 | n => n⟩
theorem Tryz.lays155 : Go.Proofs.Lays.n155 Tryz.prog Tryz.lays155_ren := {
  mixed := by kernel_rfl
  f138 := Tryz.func171.trans (congrArg some (by kernel_rfl))
  f143 := Tryz.func90.trans (congrArg some (by kernel_rfl))
  f154 := Tryz.func135.trans (congrArg some (by kernel_rfl))
  f155 := Tryz.func91.trans (congrArg some (by kernel_rfl))
  f165 := Tryz.func107.trans (congrArg some (by kernel_rfl))
  f166 := Tryz.func108.trans (congrArg some (by kernel_rfl))
  f169 := Tryz.func109.trans (congrArg some (by kernel_rfl))
  f195 := Tryz.func207.trans (congrArg some (by kernel_rfl))
  f197 := Tryz.func185.trans (congrArg some (by kernel_rfl))
  f217 := Tryz.func161.trans (congrArg some (by kernel_rfl))
  f218 := Tryz.func208.trans (congrArg some (by kernel_rfl))
  f219 := Tryz.func134.trans (congrArg some (by kernel_rfl))
  f224 := Tryz.func183.trans (congrArg some (by kernel_rfl))
  f225 := Tryz.func182.trans (congrArg some (by kernel_rfl))
  f240 := Tryz.func148.trans (congrArg some (by kernel_rfl))
  f241 := Tryz.func149.trans (congrArg some (by kernel_rfl))
  f260 := Tryz.func219.trans (congrArg some (by kernel_rfl))
  f266 := Tryz.func202.trans (congrArg some (by kernel_rfl))
  f267 := Tryz.func184.trans (congrArg some (by kernel_rfl))
  f276 := Tryz.func194.trans (congrArg some (by kernel_rfl))
  f277 := Tryz.func195.trans (congrArg some (by kernel_rfl))
  f314 := Tryz.func218.trans (congrArg some (by kernel_rfl))
  t0 := Tryz.underlying0
  a0 := Tryz.isAgg0
  z0 := Tryz.sizeOf0
  v0 := Tryz.zeroValue0
  t3 := Tryz.underlying3
  a3 := Tryz.isAgg3
  z3 := Tryz.sizeOf3
  v3 := Tryz.zeroValue3
  t4 := Tryz.underlying4
  a4 := Tryz.isAgg4
  z4 := Tryz.sizeOf4
  v4 := Tryz.zeroValue4
  t5 := Tryz.underlying5
  a5 := Tryz.isAgg5
  z5 := Tryz.sizeOf5
  v5 := Tryz.zeroValue5
  t9 := Tryz.underlying9
  a9 := Tryz.isAgg9
  z9 := Tryz.sizeOf9
  v9 := Tryz.zeroValue9
  t20 := Tryz.underlying20
  a20 := Tryz.isAgg20
  z20 := Tryz.sizeOf20
  v20 := Tryz.zeroValue20
  t21 := Tryz.underlying21
  a21 := Tryz.isAgg21
  z21 := Tryz.sizeOf21
  v21 := Tryz.zeroValue21
  t37 := Tryz.underlying122
  a37 := Tryz.isAgg122
  z37 := Tryz.sizeOf122
  v37 := Tryz.zeroValue122
  t46 := Tryz.underlying139
  a46 := Tryz.isAgg139
  z46 := Tryz.sizeOf139
  v46 := Tryz.zeroValue139
  t51 := Tryz.underlying162
  a51 := Tryz.isAgg162
  z51 := Tryz.sizeOf162
  v51 := Tryz.zeroValue162
  t70 := Tryz.underlying129
  a70 := Tryz.isAgg129
  z70 := Tryz.sizeOf129
  v70 := Tryz.zeroValue129
  t72 := Tryz.underlying131
  a72 := Tryz.isAgg131
  z72 := Tryz.sizeOf131
  v72 := Tryz.zeroValue131
  t75 := Tryz.underlying133
  a75 := Tryz.isAgg133
  z75 := Tryz.sizeOf133
  v75 := Tryz.zeroValue133
  t76 := Tryz.underlying134
  a76 := Tryz.isAgg134
  z76 := Tryz.sizeOf134
  v76 := Tryz.zeroValue134
  t105 := Tryz.underlying218
  a105 := Tryz.isAgg218
  z105 := Tryz.sizeOf218
  v105 := Tryz.zeroValue218
  t119 := Tryz.underlying243
  a119 := Tryz.isAgg243
  z119 := Tryz.sizeOf243
  t127 := Tryz.underlying188
  a127 := Tryz.isAgg188
  z127 := Tryz.sizeOf188
  v127 := Tryz.zeroValue188
  t138 := Tryz.underlying279
  a138 := Tryz.isAgg279
  z138 := Tryz.sizeOf279
  v138 := Tryz.zeroValue279
  t139 := Tryz.underlying280
  a139 := Tryz.isAgg280
  z139 := Tryz.sizeOf280
  v139 := Tryz.zeroValue280
  t146 := Tryz.underlying250
  a146 := Tryz.isAgg250
  z146 := Tryz.sizeOf250
  v146 := Tryz.zeroValue250
  t164 := Tryz.underlying222
  a164 := Tryz.isAgg222
  z164 := Tryz.sizeOf222
  v164 := Tryz.zeroValue222
  g1 := by kernel_rfl
  g3 := by kernel_rfl
  g4 := by kernel_rfl }
theorem Tryz.Builder_Extra_155 : Builder.Extra Tryz.prog Tryz.lays155_ren := {
  sizeBuilder := by kernel_rfl
  liesBuilder := by kernel_rfl
  t5 := Tryz.underlying5
  a5 := Tryz.isAgg5
  z5 := Tryz.sizeOf5
  v5 := Tryz.zeroValue5
  infoByte := by kernel_rfl
  cellsByte := by kernel_rfl
  sizeByte := by kernel_rfl
  neB5 := by decide }
open Go.RowKit Go.Lib in
theorem Tryz.strings_ReplaceAll (s old new : ByteArray) (m : Int) (w : World) (hs : s.size < 4294967281) (hm : w.cell? ⟨0, 0, none⟩ = some (.int .i64 m)) (h1 : 1 ≤ old.size) (hlen : s.size + Lib.countB s old * new.size ≤ 140737488355328) :
    Calls Tryz.prog 91 #[.string s, .string old, .string new] w fun e w' =>
      e = .returned (.string ⟨(Lib.replaceAll s.data.toList old.data.toList new.data.toList).toArray⟩) ∧ Below w.heap.size w w' := Any.strings_ReplaceAll Tryz.lays155 Tryz.Builder_Extra_155 s old new m w hs hm h1 hlen
end Go.Proofs
namespace Go.Proofs.YtgknfikdajoiaaaGreatDoor
theorem all_take_succ {α : Type} {φ : α → Bool} {s : List α} {d : α} {i : Nat} (hi : i < s.length) (h : (s.take i).all φ = true) (hc : φ (s.getD i d) = true) : (s.take (i + 1)).all φ = true := by
  rw [List.take_add_one, List.all_append, h]
  rw [List.getD_eq_getElem?_getD, List.getElem?_eq_getElem hi] at hc
  simp only [List.getElem?_eq_getElem hi, Option.toList_some, List.all_cons, List.all_nil, Bool.and_true, Bool.true_and]
  simpa using hc
theorem all_false_of {α : Type} {φ : α → Bool} {s : List α} {d : α} {i : Nat} (hi : i < s.length) (hc : φ (s.getD i d) = false) : s.all φ = false := by
  rw [List.getD_eq_getElem?_getD, List.getElem?_eq_getElem hi] at hc
  rw [← Bool.not_eq_true, List.all_eq_true]
  intro h
  have := h s[i] (List.getElem_mem hi)
  simp at hc
  rw [hc] at this
  cases this
theorem all_of_take {α : Type} {φ : α → Bool} {s : List α} {i : Nat} (hi : s.length ≤ i) (h : (s.take i).all φ = true) : s.all φ = true := by
  rwa [List.take_of_length_le hi] at h
theorem countFrom_le (sub : List UInt8) : ∀ (f : Nat) (s : List UInt8), Go.Lib.countFrom sub f s ≤ f
  | 0, _ => Nat.le_refl _
  | f + 1, s => by
    unfold Go.Lib.countFrom
    split
    · omega
    · have := countFrom_le sub f (s.drop ((Go.Lib.index s sub).toNat + sub.length)); omega
theorem splitK_le (sep : List UInt8) (save : Nat) : ∀ (k : Nat) (s : List UInt8), (Go.Lib.splitK sep save k s).length ≤ k + 1
  | 0, _ => by simp [Go.Lib.splitK]
  | k + 1, s => by
    unfold Go.Lib.splitK
    split
    · simp
    · have := splitK_le sep save k (s.drop ((Go.Lib.index s sep).toNat + sep.length)); simp; omega
theorem split_le (s sep : List UInt8) : (Go.Lib.split s sep).length ≤ s.length + 2 := by
  have h1 := splitK_le sep 0 (Go.Lib.count s sep) s
  have h2 := countFrom_le sep (s.length + 1) s
  unfold Go.Lib.count at h1
  unfold Go.Lib.split Go.Lib.count
  omega
theorem splitK_mem (sep : List UInt8) : ∀ (k : Nat) (s x : List UInt8), x ∈ Go.Lib.splitK sep 0 k s → x.length ≤ s.length
  | 0, s, x, h => by simp [Go.Lib.splitK] at h; rw [h]; exact Nat.le_refl _
  | k + 1, s, x, h => by
    unfold Go.Lib.splitK at h
    split at h
    · simp at h; rw [h]; exact Nat.le_refl _
    · rcases List.mem_cons.1 h with rfl | h
      · simp; omega
      · have := splitK_mem sep k _ x h; simp at this; omega
theorem split_mem {s sep x : List UInt8} (h : x ∈ Go.Lib.split s sep) : x.length ≤ s.length := splitK_mem sep _ s x h
theorem split_at {s sep : List UInt8} {i : Nat} : ((Go.Lib.split s sep).getD i []).length ≤ s.length := by
  rw [List.getD_eq_getElem?_getD]
  cases h : (Go.Lib.split s sep)[i]? with
  | none => simp
  | some x => exact split_mem (List.mem_of_getElem? h)
end Go.Proofs.YtgknfikdajoiaaaGreatDoor
namespace Go.Proofs.YtgknfikdajoiaaaGreatDoor
open Go Go.RowKit Go.Sort
structure Base (w : World) : Prop where
  max : ∃ m, w.cell? ⟨0, 0, none⟩ = some (.int .i64 m)
theorem var_lt {P : Program} {w : World} {s : String} {g : Nat} {cs : Array Value} (hg : P.globalNamed s = some g) (hc : w.var? P s = some cs) : g < w.heap.size := by
  simp only [World.var?, hg, Option.bind_some] at hc
  apply Decidable.byContradiction; intro hn
  rw [Array.getElem?_eq_none (by omega)] at hc
  simp at hc
theorem var_stay {P : Program} {N : Nat} {w w' : World} {s : String} {g : Nat} {cs : Array Value} (h : Below N w w') (hg : P.globalNamed s = some g) (hN : g < N) (hc : w.var? P s = some cs) : w'.var? P s = some cs := by
  simp only [World.var?, hg, Option.bind_some] at hc ⊢
  rw [h.block g hN]; exact hc
theorem cell_lt {w : World} {b o : Nat} {v : Value} (hc : w.cell? ⟨b, o, none⟩ = some v) : b < w.heap.size := by
  apply Decidable.byContradiction; intro hn
  simp only [World.cell?] at hc
  rw [Array.getElem?_eq_none (by omega)] at hc
  simp at hc
theorem cell_stay {N : Nat} {w w' : World} {b o : Nat} {v : Value} (h : Below N w w') (hN : b < N) (hc : w.cell? ⟨b, o, none⟩ = some v) : w'.cell? ⟨b, o, none⟩ = some v := by
  rw [World.cell?_of_block (w := w) (h.block b hN)]; exact hc
def JN : Nat := 0 + 1
def J : Inv where
  I := Base
  N := JN
  lt w h := by
    obtain ⟨m, hm⟩ := h.max
    exact cell_lt hm
  st w w' h hb := ⟨h.max.imp fun m hm => cell_stay hb (by decide) hm⟩
theorem pc_IndexByte (a : List UInt8) (c : Int) : PureCall Tryz.prog J 114 [.one (.d (.str a)), .one (.d (.int .u8 c))] (.one (.d (.int .i64 (Lib.indexByte a c.toNat.toUInt8)))) :=
  PureCall.lib Tryz.func114 (by kernel_rfl) (by kernel_rfl) (xs := [.string ⟨a.toArray⟩, .int .u8 c]) rfl fun w _ =>
    Calls.mono (Tryz.strings_IndexByte ⟨a.toArray⟩ c w) fun e w' ⟨he, hw⟩ => ⟨_, he, hw ▸ Below.refl _ _, RV.of_lit (by simp [D.lit])⟩
theorem pc_HasPrefix (a b : List UInt8) : PureCall Tryz.prog J 32 [.one (.d (.str a)), .one (.d (.str b))] (.one (.d (.bool (Lib.hasPrefix a b)))) :=
  PureCall.lib Tryz.func32 (by kernel_rfl) (by kernel_rfl) (xs := [.string ⟨a.toArray⟩, .string ⟨b.toArray⟩]) rfl fun w _ =>
    Calls.mono (Tryz.strings_HasPrefix ⟨a.toArray⟩ ⟨b.toArray⟩ w) fun e w' ⟨he, hw⟩ => ⟨_, he, hw ▸ Below.refl _ _, RV.of_lit (by simp [D.lit])⟩
theorem pc_Contains (a b : List UInt8) (ha : a.length < 4294967281) : PureCall Tryz.prog J 41 [.one (.d (.str a)), .one (.d (.str b))] (.one (.d (.bool (Lib.contains a b)))) :=
  PureCall.lib Tryz.func41 (by kernel_rfl) (by kernel_rfl) (xs := [.string ⟨a.toArray⟩, .string ⟨b.toArray⟩]) rfl fun w hw =>
    hw.max.elim fun m hm => Calls.mono (Tryz.strings_Contains ⟨a.toArray⟩ ⟨b.toArray⟩ m w (by simpa [ByteArray.size] using ha) hm) fun e w' ⟨he, hw⟩ => ⟨_, he, hw ▸ Below.refl _ _, RV.of_lit (by simp [D.lit])⟩
theorem pc_Cut (a b : List UInt8) (ha : a.length < 4294967281) : PureCall Tryz.prog J 39 [.one (.d (.str a)), .one (.d (.str b))]
    (.tup [.one (.d (.str (Lib.cut a b).1)), .one (.d (.str (Lib.cut a b).2.1)), .one (.d (.bool (Lib.cut a b).2.2))]) :=
  PureCall.lib Tryz.func39 (by kernel_rfl) (by kernel_rfl) (xs := [.string ⟨a.toArray⟩, .string ⟨b.toArray⟩]) rfl fun w hw =>
    hw.max.elim fun m hm => Calls.mono (Tryz.strings_Cut ⟨a.toArray⟩ ⟨b.toArray⟩ m w (by simpa [ByteArray.size] using ha) hm) fun e w' ⟨he, n, hw⟩ => ⟨_, he, hw ▸ Below.drewN' _ _, RV.tup3 (RV.of_lit (by simp [D.lit])) (RV.of_lit (by simp [D.lit])) (RV.of_lit (by simp [D.lit]))⟩
theorem countB_eq (s sep : List UInt8) : Lib.countB ⟨s.toArray⟩ ⟨sep.toArray⟩ = Lib.count s sep := by simp [Lib.countB]
theorem pc_Split (a b : List UInt8) (ha : a.length < 4294967281) (hb : 1 ≤ b.length) : PureCall Tryz.prog J 81 [.one (.d (.str a)), .one (.d (.str b))]
    (.one (.d (.vec 1 ((Lib.split a b).map fun x => [.str x])))) :=
  PureCall.lib Tryz.func81 (by kernel_rfl) (by kernel_rfl) (xs := [.string ⟨a.toArray⟩, .string ⟨b.toArray⟩]) rfl fun w hw =>
    hw.max.elim fun m hm => Calls.mono (Tryz.strings_Split ⟨a.toArray⟩ ⟨b.toArray⟩ m w (by simpa [ByteArray.size] using ha) hm (by simpa [ByteArray.size] using hb)) fun e w' ⟨he, hw⟩ => by
      subst hw
      refine ⟨_, he, Below.alloc' _ _, ?_⟩
      have hl := Lib.splitB_all ⟨b.toArray⟩ (by simpa [ByteArray.size] using hb) 0 (Lib.countB ⟨a.toArray⟩ ⟨b.toArray⟩) ⟨a.toArray⟩ rfl
      have hd := Lib.splitB_data ⟨b.toArray⟩ 0 (Lib.countB ⟨a.toArray⟩ ⟨b.toArray⟩) ⟨a.toArray⟩
      have he : (Lib.split a b).map (fun x => [D.str x]) = (Lib.splitB ⟨b.toArray⟩ 0 (Lib.countB ⟨a.toArray⟩ ⟨b.toArray⟩) ⟨a.toArray⟩).map fun s => [D.str s.data.toList] := by
        have h2 : Lib.split a b = (Lib.splitB ⟨b.toArray⟩ 0 (Lib.countB ⟨a.toArray⟩ ⟨b.toArray⟩) ⟨a.toArray⟩).map (·.data.toList) := by
          rw [hd, countB_eq]; rfl
        rw [h2, List.map_map]; rfl
      rw [he]
      exact RV.texts _ (fun h => by rw [h] at hl; simp at hl) _ hl.symm
theorem pc_Trim (s cs : List UInt8) (hs : s.length ≤ 9223372036854775807) (hcs : cs.length < 4294967281) (ha : cs.all (fun b => decide (b.toNat < 128)) = true) :
    PureCall Tryz.prog J 129 [.one (.d (.str s)), .one (.d (.str cs))] (.one (.d (.str (Lib.trimS s cs)))) :=
  PureCall.lib Tryz.func129 (by kernel_rfl) (by kernel_rfl) (xs := [.string ⟨s.toArray⟩, .string ⟨cs.toArray⟩]) rfl fun w _ =>
    Calls.mono (Any.strings_Trim_laid Tryz.lays160 (by kernel_rfl) ⟨s.toArray⟩ ⟨cs.toArray⟩ w (by simpa [ByteArray.size] using hs) (by simpa [ByteArray.size] using hcs) (ascii_of_all (by simpa using ha))) fun e w' ⟨he, hw⟩ => ⟨_, he, hw, RV.of_lit (by simp [D.lit])⟩
end Go.Proofs.YtgknfikdajoiaaaGreatDoor
namespace Go.Proofs.YtgknfikdajoiaaaGreatDoor
open Go
theorem index_none {c : UInt8} : ∀ {s : List UInt8}, c ∉ s → Lib.index s [c] = -1
  | [], _ => rfl
  | b :: l, h => by
    have h1 : c ≠ b := fun e => h (e ▸ List.mem_cons_self ..)
    have h2 := index_none (s := l) (fun e => h (List.mem_cons_of_mem _ e))
    have hp : List.isPrefixOf [c] (b :: l) = false := by simp [List.isPrefixOf, h1]
    unfold Lib.index
    rw [hp, h2]; rfl
theorem index_at {c : UInt8} {y : List UInt8} : ∀ {x : List UInt8}, c ∉ x → Lib.index (x ++ c :: y) [c] = x.length
  | [], _ => by
    have hp : List.isPrefixOf [c] (c :: y) = true := by simp [List.isPrefixOf]
    show Lib.index (c :: y) [c] = 0
    unfold Lib.index
    rw [hp]; rfl
  | b :: l, h => by
    have h1 : c ≠ b := fun e => h (e ▸ List.mem_cons_self ..)
    have h2 := index_at (x := l) (y := y) (fun e => h (List.mem_cons_of_mem _ e))
    have hp : List.isPrefixOf [c] (b :: (l ++ c :: y)) = false := by simp [List.isPrefixOf, h1]
    show Lib.index (b :: (l ++ c :: y)) [c] = _
    unfold Lib.index
    rw [hp, h2]
    simp only [List.length_cons, Bool.false_eq_true, if_false]
    rw [if_neg (by simp)]
    rfl
theorem countFrom_fuel {sub : List UInt8} (hs : sub ≠ []) : ∀ (f g : Nat) (s : List UInt8), s.length < f → s.length < g → Lib.countFrom sub f s = Lib.countFrom sub g s
  | 0, _, _, h, _ => absurd h (Nat.not_lt_zero _)
  | _ + 1, 0, _, _, h => absurd h (Nat.not_lt_zero _)
  | f + 1, g + 1, s, h1, h2 => by
    unfold Lib.countFrom
    split
    · rfl
    · rename_i hi
      have h0 : 0 ≤ Lib.index s sub := by
        rcases Lib.index_spec s sub with h | ⟨i, h, _⟩
        · simp [h.1] at hi
        · omega
      have hr := Lib.index_room s sub h0
      have hl : 1 ≤ sub.length := by cases sub with | nil => exact absurd rfl hs | cons a l => simp
      rw [countFrom_fuel hs f g _ (by simp; omega) (by simp; omega)]
theorem split_none {c : UInt8} {s : List UInt8} (h : c ∉ s) : Lib.split s [c] = [s] := by
  have : Lib.count s [c] = 0 := by simp [Lib.count, Lib.countFrom, index_none h]
  unfold Lib.split
  rw [this]; rfl
theorem split_cons {c : UInt8} {x y : List UInt8} (h : c ∉ x) : Lib.split (x ++ c :: y) [c] = x :: Lib.split y [c] := by
  have hi := index_at (y := y) h
  have hm : ¬ (Lib.index (x ++ c :: y) [c] == -1) = true := by rw [hi]; simp
  have e1 : ((x.length : Int)).toNat = x.length := by omega
  have hd : (x ++ c :: y).drop (x.length + [c].length) = y := by
    have e2 : x.length + [c].length = (x ++ [c]).length := by simp
    have e3 : x ++ c :: y = (x ++ [c]) ++ y := by simp
    rw [e2, e3, List.drop_left]
  have hc : Lib.count (x ++ c :: y) [c] = Lib.count y [c] + 1 := by
    unfold Lib.count
    rw [Lib.countFrom, if_neg hm, hi, e1, hd, Nat.add_comm 1]
    rw [countFrom_fuel (by simp) _ (y.length + 1) y (by simp; omega) (by omega)]
  unfold Lib.split
  rw [hc, Lib.splitK, if_neg hm, hi, e1, hd]
  simp
end Go.Proofs.YtgknfikdajoiaaaGreatDoor
set_option maxRecDepth 100000
set_option maxHeartbeats 4000000
namespace Go.Proofs.YtgknfikdajoiaaaGreatDoor
open Go
open Go.RowKit
def replD (c : UInt8) : D := if c == 92 then .vec 1 (byteRow [92, 92]) else if c == 34 then .vec 1 (byteRow [92, 34]) else .nilsl
def bsr : List C := List.replicate 34 (C.d .nilsl) ++ (C.d (.vec 1 (byteRow [92, 34])) :: (List.replicate 57 (C.d .nilsl) ++ (C.d (.vec 1 (byteRow [92, 92])) :: (List.replicate 163 (C.d .nilsl) ++ [.row 0 2 0 2]))))
theorem pc_BLoad (y : Int) (c3 c4 : C) :
  HCall Tryz.prog J 179 ([.one (.ptr 0 0)]) ([[.d (.int .u32 0), .d (.int .i32 y), .d (.int .u32 0), c3, c4]]) ([]) ([]) (isH (.one (.d (.bool false))) ([[.d (.int .u32 0), .d (.int .i32 y), .d (.int .u32 0), c3, c4]]) ([]) ([])) := by
 refine HCall.ofN tOk (fn := Tryz.f179) Tryz.func179 (by kernel_rfl) rfl (Nat.le_of_ble_eq_true rfl) (fun E => ?_)
 refine W.seq ?_
 refine W.region ?_
 refine S.pure tOk zOk rfl rfl rfl ?_
 refine thenK_n ?_
 refine W.seq ?_
 refine W.region ?_
 refine S.pure tOk zOk rfl rfl rfl ?_
 refine S.pure tOk zOk rfl rfl rfl ?_
 refine S.pure tOk zOk rfl rfl rfl ?_
 refine S.atLoad (fun a w hc => run_call_load (P := Tryz.prog) Tryz.func212 (by kernel_rfl) (by kernel_rfl) (by kernel_rfl) .u32 (by kernel_rfl) hc) rfl rfl rfl rfl ?_
 refine S.pure tOk zOk rfl rfl rfl ?_
 refine S.pure tOk zOk rfl rfl rfl ?_
 refine thenK_n ?_
 refine W.ret ?_
 exact ⟨_, rfl, LeG.of_force rfl rfl, rfl, rfl, rfl⟩
theorem pc_MLockI (x : Int) (c3 c4 : C) :
  HCall Tryz.prog J 232 ([.one (.ptr 0 1)]) ([[.d (.int .u32 x), .d (.int .i32 0), .d (.int .u32 0), c3, c4]]) ([]) ([]) (isH (.tup []) ([[.d (.int .u32 x), .d (.int .i32 1), .d (.int .u32 0), c3, c4]]) ([]) ([])) := by
 refine HCall.ofN tOk (fn := Tryz.f232) Tryz.func232 (by kernel_rfl) rfl (Nat.le_of_ble_eq_true rfl) (fun E => ?_)
 refine W.seq ?_
 refine W.region ?_
 refine S.mark (run_call_mark0 (P := Tryz.prog) Tryz.func247 (by kernel_rfl) (by kernel_rfl) (by kernel_rfl) .disable (by kernel_rfl)) rfl ?_
 refine thenK_n ?_
 refine W.seq ?_
 refine W.seq ?_
 refine W.region ?_
 refine S.pure tOk zOk rfl rfl rfl ?_
 refine S.pure tOk zOk rfl rfl rfl ?_
 refine S.pure tOk zOk rfl rfl rfl ?_
 refine S.atPut [(.i32, 0), (.i32, 1)] (fun a w hc hz => run_call_cas_hit (P := Tryz.prog) Tryz.func248 (by kernel_rfl) (by kernel_rfl) (by kernel_rfl) .i32 (by kernel_rfl) (y := 1) hc hz) (fun _ _ _ => .one _ _ (.d _ _ (.bool true))) rfl rfl rfl rfl rfl rfl ?_
 refine thenK_n ?_
 refine W.condT rfl rfl ?_
 refine W.seq ?_
 refine W.condT rfl rfl ?_
 refine W.seq ?_
 refine W.region ?_
 refine S.mark (run_call_mark0 (P := Tryz.prog) Tryz.func249 (by kernel_rfl) (by kernel_rfl) (by kernel_rfl) .enable (by kernel_rfl)) rfl ?_
 refine thenK_n ?_
 refine W.region ?_
 refine S.pure tOk zOk rfl rfl rfl ?_
 refine S.convUnsafe Tryz.underlying291 Tryz.underlying222 (by kernel_rfl) rfl rfl rfl ?_
 refine S.mark1 (run_call_marked (P := Tryz.prog) Tryz.func250 (by kernel_rfl) (by kernel_rfl) (by kernel_rfl) .acquire (by kernel_rfl)) rfl rfl ?_
 refine thenK_n ?_
 refine W.ret ?_
 refine thenK_r ?_
 exact ⟨_, rfl, LeG.refl _, rfl, rfl, rfl⟩
theorem pc_MLock (x : Int) (c3 c4 : C) :
  HCall Tryz.prog J 213 ([.one (.ptr 0 1)]) ([[.d (.int .u32 x), .d (.int .i32 0), .d (.int .u32 0), c3, c4]]) ([]) ([]) (isH (.tup []) ([[.d (.int .u32 x), .d (.int .i32 1), .d (.int .u32 0), c3, c4]]) ([]) ([])) := by
 refine HCall.ofN tOk (fn := Tryz.f213) Tryz.func213 (by kernel_rfl) rfl (Nat.le_of_ble_eq_true rfl) (fun E => ?_)
 refine W.region ?_
 refine S.pure tOk zOk rfl rfl rfl ?_
 refine S.pure tOk zOk rfl rfl rfl ?_
 refine S.pure tOk zOk rfl rfl rfl ?_
 refine S.hcallD rfl rfl rfl rfl (pc_MLockI x c3 c4) ?_
 exact ⟨_, rfl, LeG.refl _, rfl, rfl, rfl⟩
theorem pc_MUnlockI (x : Int) (c3 c4 : C) (cs : List C) (q : RowO) :
  HCall Tryz.prog J 233 ([.one (.ptr 0 1)]) ([[.d (.int .u32 x), .d (.int .i32 1), .d (.int .u32 0), c3, c4], cs]) ([some q]) ([]) (isH (.tup []) ([[.d (.int .u32 x), .d (.int .i32 0), .d (.int .u32 0), c3, c4], cs]) ([some q]) ([])) := by
 refine HCall.ofN tOk (fn := Tryz.f233) Tryz.func233 (by kernel_rfl) rfl (Nat.le_of_ble_eq_true rfl) (fun E => ?_)
 refine W.seq ?_
 refine W.condT rfl rfl ?_
 refine W.seq ?_
 refine W.region ?_
 refine S.pure tOk zOk rfl rfl rfl ?_
 refine S.pure tOk zOk rfl rfl rfl ?_
 refine S.pure tOk zOk rfl rfl rfl ?_
 refine S.pure tOk zOk rfl rfl rfl ?_
 refine thenK_n ?_
 refine W.seq ?_
 refine W.region ?_
 refine S.pure tOk zOk rfl rfl rfl ?_
 refine S.convUnsafe Tryz.underlying291 Tryz.underlying222 (by kernel_rfl) rfl rfl rfl ?_
 refine S.mark1 (run_call_marked (P := Tryz.prog) Tryz.func252 (by kernel_rfl) (by kernel_rfl) (by kernel_rfl) .releaseMerge (by kernel_rfl)) rfl rfl ?_
 refine thenK_n ?_
 refine W.region ?_
 refine S.mark (run_call_mark0 (P := Tryz.prog) Tryz.func247 (by kernel_rfl) (by kernel_rfl) (by kernel_rfl) .disable (by kernel_rfl)) rfl ?_
 refine thenK_n ?_
 refine W.seq ?_
 refine W.region ?_
 refine S.pure tOk zOk rfl rfl rfl ?_
 refine S.pure tOk zOk rfl rfl rfl ?_
 refine S.pure tOk zOk rfl rfl rfl ?_
 refine S.atPut [(.i32, -1)] (fun a w hc hz => run_call_add (P := Tryz.prog) Tryz.func253 (by kernel_rfl) (by kernel_rfl) (by kernel_rfl) .i32 (by kernel_rfl) (y := -1) (s := 0) hc hz (by simp [go_sem]; rfl)) (fun _ _ _ => .one _ _ (.d _ _ (.int .i32 0))) rfl rfl rfl rfl rfl rfl ?_
 refine S.pure tOk zOk rfl rfl rfl ?_
 refine thenK_n ?_
 refine W.seq ?_
 refine W.seq ?_
 refine W.region ?_
 refine S.pure tOk zOk rfl rfl rfl ?_
 refine S.pure tOk zOk rfl rfl rfl ?_
 refine thenK_n ?_
 refine W.condF rfl rfl ?_
 refine W.skip ?_
 refine thenK_n ?_
 refine W.region ?_
 refine S.mark (run_call_mark0 (P := Tryz.prog) Tryz.func249 (by kernel_rfl) (by kernel_rfl) (by kernel_rfl) .enable (by kernel_rfl)) rfl ?_
 exact ⟨_, rfl, LeG.refl _, rfl, rfl, rfl⟩
theorem pc_DUnlock (x : Int) (c3 c4 : C) (cs : List C) (q : RowO) :
    DCall Tryz.prog J 214 ([.one (.ptr 0 1)]) ([[.d (.int .u32 x), .d (.int .i32 1), .d (.int .u32 0), c3, c4], cs]) ([some q]) ([]) (isH (.tup []) ([[.d (.int .u32 x), .d (.int .i32 0), .d (.int .u32 0), c3, c4], cs]) ([some q]) ([])) := by
  refine DCall.ofN tOk (fn := Tryz.f214) Tryz.func214 (by kernel_rfl) rfl (Nat.le_of_ble_eq_true rfl) (fun E => ?_)
  refine W.region ?_
  refine S.pure tOk zOk rfl rfl rfl ?_
  refine S.pure tOk zOk rfl rfl rfl ?_
  refine S.pure tOk zOk rfl rfl rfl ?_
  refine S.hcallD rfl rfl rfl rfl (pc_MUnlockI x c3 c4 cs q) ?_
  exact ⟨_, rfl, LeG.refl _, rfl, rfl, rfl⟩
theorem pc_b32  :
  PureCall Tryz.prog J 235 [.one (.d (.bool true))] (.one (.d (.int .u32 1))) := by
 refine PureCall.of_body tOk (fn := Tryz.f235) Tryz.func235 (by kernel_rfl) rfl (Nat.le_of_ble_eq_true rfl) (fun E => ?_)
 refine W.seq ?_
 refine W.region ?_
 refine S.pure tOk zOk rfl rfl rfl ?_
 refine thenK_n ?_
 refine W.seq ?_
 refine W.seq ?_
 refine W.region ?_
 refine S.pure tOk zOk rfl rfl rfl ?_
 refine thenK_n ?_
 refine W.condT rfl rfl ?_
 refine W.seq ?_
 refine W.region ?_
 refine S.pure tOk zOk rfl rfl rfl ?_
 refine thenK_n ?_
 refine W.ret ?_
 refine thenK_r ?_
 exact ⟨_, rfl, rfl, LeV.refl _⟩
theorem pc_DStore (y : Int) (c3 c4 : C) (cs : List C) (q : RowO) :
    DCall Tryz.prog J 215 ([.one (.ptr 0 0), .one (.d (.bool true))]) ([[.d (.int .u32 0), .d (.int .i32 y), .d (.int .u32 0), c3, c4], cs]) ([some q]) ([]) (isH (.tup []) ([[.d (.int .u32 1), .d (.int .i32 y), .d (.int .u32 0), c3, c4], cs]) ([some q]) ([])) := by
  refine DCall.ofN tOk (fn := Tryz.f215) Tryz.func215 (by kernel_rfl) rfl (Nat.le_of_ble_eq_true rfl) (fun E => ?_)
  refine W.regionS 5 mixed rfl (by kernel_rfl) ?_
  refine AnyZ.eager 0 rfl (by kernel_rfl) (Eag.pure tOk zOk rfl (fun _ _ _ => rfl) rfl rfl) ?_
  refine AnyZ.eager 1 rfl (by kernel_rfl) (Eag.pure tOk zOk rfl (fun _ _ _ => rfl) rfl rfl) ?_
  refine AnyZ.eager 2 rfl (by kernel_rfl) (Eag.pure tOk zOk rfl (fun _ _ _ => rfl) rfl rfl) ?_
  refine AnyZ.eager 3 rfl (by kernel_rfl) (Eag.pure tOk zOk rfl (fun _ _ _ => rfl) rfl rfl) ?_
  refine AnyZ.one 4 (by kernel_rfl) rfl ?_
  refine OpZ.d ?_
  refine D.call rfl rfl rfl rfl rfl (pc_b32) ?_
  refine WD.nil ?_
  refine AnyZ.nil (by kernel_rfl) ?_
  refine S.atPut [(.u32, 1)] (fun a w hc hz => run_call_store (P := Tryz.prog) Tryz.func234 (by kernel_rfl) (by kernel_rfl) (by kernel_rfl) (by kernel_rfl) (k := .u32) (y := 1) hc hz) (fun _ _ _ => .tup [] [] rfl (fun i u v h => by simp at h)) rfl rfl rfl rfl rfl rfl ?_
  exact ⟨_, rfl, LeG.refl _, rfl, rfl, rfl⟩
end Go.Proofs.YtgknfikdajoiaaaGreatDoor
namespace Go.Proofs.YtgknfikdajoiaaaGreatDoor
def isDigit (c : Int) : Bool := decide (c ≥ 48) && decide (c ≤ 57)
def isSmall (c : Int) : Bool := decide (c ≥ 97) && decide (c ≤ 122)
def bI (c : UInt8) : Int := (c.toNat : Int)
def partC' (c : Int) : Bool := isSmall c || (decide (c ≥ 65) && decide (c ≤ 90)) || isDigit c || c == 45 || c == 46 || c == 95
def valueC (c : Int) : Bool := decide (c ≥ 32) && decide (c ≤ 126)
def eachB (φ : Int → Bool) (s : List UInt8) (m : Int) : Bool := s.all (fun c => φ (bI c)) && (!(s == []) && decide ((s.length : Int) ≤ m))
def partB (s : List UInt8) : Bool := eachB partC' s 40 && !(s == [46]) && !(s == [46, 46])
def valueB (s : List UInt8) : Bool := s == [] || eachB valueC s 1000
def pathB (s : List UInt8) : Bool := (Go.Lib.split s [47]).all partB && decide ((s.length : Int) ≤ 200)
end Go.Proofs.YtgknfikdajoiaaaGreatDoor
namespace Go.Proofs.YtgknfikdajoiaaaGreatDoor
open Go
theorem cut_le (s sep : List UInt8) : (Lib.cut s sep).1.length ≤ s.length ∧ (Lib.cut s sep).2.1.length ≤ s.length := by
  unfold Lib.cut
  split
  · simp; omega
  · simp
end Go.Proofs.YtgknfikdajoiaaaGreatDoor
namespace Go.Proofs.YtgknfikdajoiaaaGreatDoor
open Go
theorem byte_all {p : UInt8 → Bool} (h : (List.range 256).all (fun n => p (UInt8.ofNat n)) = true) (c : UInt8) : p c = true := by
  have := List.all_eq_true.1 h c.toNat (List.mem_range.2 c.toNat_lt)
  simpa using this
def partS : List UInt8 := [97, 98, 99, 100, 101, 102, 103, 104, 105, 106, 107, 108, 109, 110, 111, 112, 113, 114, 115, 116, 117, 118, 119, 120, 121, 122, 65, 66, 67, 68, 69, 70, 71, 72, 73, 74, 75, 76, 77, 78, 79, 80, 81, 82, 83, 84, 85, 86, 87, 88, 89, 90, 48, 49, 50, 51, 52, 53, 54, 55, 56, 57, 45, 46, 95]
theorem partS_eq (c : UInt8) : partS.contains c = partC' (bI c) := by
  have := byte_all (p := fun c => partS.contains c == partC' (bI c)) (by decide +kernel) c
  simpa using this
def ofB (s cs : List UInt8) : Bool := s.all fun c => cs.contains c
theorem ofB_part (s : List UInt8) : ofB s partS = s.all fun c => partC' (bI c) := by simp only [ofB, partS_eq]
theorem dropWhile_all {α : Type} {p : α → Bool} : ∀ {l : List α}, l.all p = true → l.dropWhile p = []
  | [], _ => rfl
  | a :: l, h => by
    simp only [List.all_cons, Bool.and_eq_true] at h
    simp only [List.dropWhile_cons, h.1, if_true]
    exact dropWhile_all h.2
theorem trim_ofB (s cs : List UInt8) (h : ofB s cs = true) : Lib.trimS s cs = [] := by
  unfold Lib.trimS Lib.trimLeftS Lib.trimRightS
  have h1 : (s.all fun c => cs.contains c) = true := h
  have h2 : (s.reverse.all fun c => cs.contains c) = true := by simpa using h1
  show ((s.reverse.dropWhile (fun c => cs.contains c)).reverse).dropWhile (fun c => cs.contains c) = []
  rw [dropWhile_all h2]; rfl
theorem of_eq (s cs : List UInt8) : (Lib.trimS s cs == [] && ofB s cs) = ofB s cs := by
  cases h : ofB s cs with
  | false => simp
  | true => simp [trim_ofB s cs h]
theorem indexByte_neg (l : List UInt8) (c : UInt8) : decide (Lib.indexByte l c < 0) = !(l.contains c) := by
  induction l with
  | nil => simp [Lib.indexByte]
  | cons a l ih =>
    unfold Lib.indexByte
    by_cases h : a = c
    · subst h; simp
    · have h' : ¬ c = a := fun e => h e.symm
      have hge := Lib.indexByte_ge l c
      simp only [beq_iff_eq, h, if_false, List.contains_cons, h', beq_eq_false_iff_ne.2 h', Bool.false_or]
      rw [← ih]
      split
      · rename_i hm; simp [hm]
      · rename_i hm; simp only [decide_eq_decide]; omega
theorem partR (p : List UInt8) : ((((p == [] || p == [46]) || p == [46, 46]) || decide ((p.length : Int) > 40)) || !ofB p partS) = !partB p := by
  rw [ofB_part, partB, eachB]
  have : decide ((p.length : Int) > 40) = !decide ((p.length : Int) ≤ 40) := by by_cases h : (p.length : Int) ≤ 40 <;> simp [h] <;> omega
  rw [this]
  cases (p == []) <;> cases (p == [46]) <;> cases (p == [46, 46]) <;> cases decide ((p.length : Int) ≤ 40) <;> cases (p.all fun c => partC' (bI c)) <;> rfl
theorem valueR (s : List UInt8) : (s.all (fun c => !(decide (bI c < 32) || decide (bI c > 126))) && decide ((s.length : Int) ≤ 1000)) = valueB s := by
  have : (fun c : UInt8 => !(decide (bI c < 32) || decide (bI c > 126))) = fun c => valueC (bI c) := by
    funext c; unfold valueC
    by_cases h1 : bI c < 32 <;> by_cases h2 : bI c > 126 <;> simp [h1, h2] <;> omega
  rw [this, valueB, eachB]
  cases s <;> simp
theorem in_t {l : List UInt8} {c : UInt8} (h : decide (Lib.indexByte l ((c.toNat : Int).toNat.toUInt8) < 0) = false) : l.contains c = true := by
  have h1 := indexByte_neg l c
  have h2 : (c.toNat : Int).toNat.toUInt8 = c := by simp
  rw [h2, h1] at h
  simpa using h
theorem in_f {l : List UInt8} {c : UInt8} (h : decide (Lib.indexByte l ((c.toNat : Int).toNat.toUInt8) < 0) = true) : l.contains c = false := by
  have h1 := indexByte_neg l c
  have h2 : (c.toNat : Int).toNat.toUInt8 = c := by simp
  rw [h2, h1] at h
  simpa using h
theorem path_t {p : List UInt8} (h : ((((p == [] || p == [46]) || p == [46, 46]) || decide ((p.length : Int) > 40)) || !ofB p partS) = false) : partB p = true := by
  rw [partR] at h; simpa using h
theorem path_f {p : List UInt8} (h : ((((p == [] || p == [46]) || p == [46, 46]) || decide ((p.length : Int) > 40)) || !ofB p partS) = true) : partB p = false := by
  rw [partR] at h; simpa using h
theorem not_le_of {x y : Int} {b : Bool} (h : decide (x > y) = true) : (decide (x ≤ y) && b) = false := by
  have := of_decide_eq_true h
  rw [decide_eq_false (by omega)]; rfl
theorem le_of {x y : Int} (h : decide (x > y) = false) : decide (x ≤ y) = true := by
  have := of_decide_eq_false h
  exact decide_eq_true (by omega)
theorem not_t {a : Bool} (h : a = true) : (!a) = false := by rw [h]; rfl
theorem not_f {a : Bool} (h : a = false) : (!a) = true := by rw [h]; rfl
end Go.Proofs.YtgknfikdajoiaaaGreatDoor
namespace Go.Proofs.YtgknfikdajoiaaaGreatDoor
open Go
theorem any_take {α : Type} {xs : List α} {p : α → Bool} {i : Nat} {d : α} (hi : i < xs.length) (h : (xs.take i).any p = false) (hp : p (xs.getD i d) = false) : (xs.take (i + 1)).any p = false := by
  rw [List.take_add_one, List.any_append, h]
  simp only [List.getD_eq_getElem?_getD, List.getElem?_eq_getElem hi, Option.getD_some] at hp
  simp [List.getElem?_eq_getElem hi, hp]
theorem any_end {α : Type} {xs : List α} {p : α → Bool} {i : Nat} (hi : xs.length ≤ i) (h : (xs.take i).any p = false) : xs.any p = false := by rwa [List.take_of_length_le hi] at h
end Go.Proofs.YtgknfikdajoiaaaGreatDoor
namespace Go.Proofs.YtgknfikdajoiaaaGreatDoor
open Go
theorem first_of {c : UInt8} {s : List UInt8} (h : c ∈ s) : ∃ x y, s = x ++ c :: y ∧ c ∉ x := by
  induction s with
  | nil => cases h
  | cons a s ih =>
    by_cases ha : a = c
    · subst ha; exact ⟨[], s, rfl, by simp⟩
    · have h' : c ∈ s := by rcases List.mem_cons.1 h with h | h; exact absurd h.symm ha; exact h
      obtain ⟨x, y, rfl, hx⟩ := ih h'
      exact ⟨a :: x, y, rfl, by simp [hx, Ne.symm ha]⟩
end Go.Proofs.YtgknfikdajoiaaaGreatDoor
namespace Go.Proofs.YtgknfikdajoiaaaGreatDoor
open Go
theorem split_bytes {c : UInt8} : ∀ (n : Nat) (s : List UInt8), s.length ≤ n → ∀ a ∈ s, a = c ∨ ∃ w ∈ Lib.split s [c], a ∈ w
  | 0, s, h, a, ha => by
    have : s = [] := List.length_eq_zero_iff.1 (by omega)
    subst this; cases ha
  | n + 1, s, h, a, ha => by
    by_cases hc : c ∈ s
    · obtain ⟨x, y, rfl, hx⟩ := first_of hc
      rw [split_cons hx]
      rcases List.mem_append.1 ha with h1 | h1
      · exact .inr ⟨x, List.mem_cons_self .., h1⟩
      · rcases List.mem_cons.1 h1 with h1 | h1
        · exact .inl h1
        · rcases split_bytes n y (by simp at h; omega) a h1 with h2 | ⟨w, h2, h3⟩
          · exact .inl h2
          · exact .inr ⟨w, List.mem_cons_of_mem _ h2, h3⟩
    · rw [split_none hc]; exact .inr ⟨s, List.mem_cons_self .., ha⟩
end Go.Proofs.YtgknfikdajoiaaaGreatDoor
namespace Go.Proofs.YtgknfikdajoiaaaGreatDoor
open Go
def idxOf {α : Type} (φ : α → Bool) : List α → Int
  | [] => -1
  | x :: l => if φ x then 0 else if idxOf φ l == -1 then -1 else idxOf φ l + 1
theorem idxOf_none {α : Type} {φ : α → Bool} : ∀ {l : List α}, l.any φ = false → idxOf φ l = -1
  | [], _ => rfl
  | x :: l, h => by
    simp only [List.any_cons, Bool.or_eq_false_iff] at h
    unfold idxOf
    rw [if_neg (by simp [h.1]), idxOf_none h.2]; rfl
theorem idxOf_at {α : Type} {φ : α → Bool} {d : α} : ∀ {l : List α} {i : Nat}, i < l.length → (l.take i).any φ = false → φ (l.getD i d) = true → idxOf φ l = i
  | [], i, h, _, _ => by simp at h
  | x :: l, 0, _, _, hp => by simp at hp; simp [idxOf, hp]
  | x :: l, i + 1, h, ht, hp => by
    simp only [List.take_succ_cons, List.any_cons, Bool.or_eq_false_iff] at ht
    have ih := idxOf_at (d := d) (l := l) (i := i) (by simpa using h) ht.2 (by simpa using hp)
    unfold idxOf
    rw [if_neg (by simp [ht.1]), ih, if_neg (by rw [beq_iff_eq]; omega)]; omega
end Go.Proofs.YtgknfikdajoiaaaGreatDoor
namespace Go.Proofs.YtgknfikdajoiaaaGreatDoor
open Go
def quoteL : List UInt8 → List UInt8 → Nat → Option (List UInt8 × Nat)
  | [], _, _ => none
  | c :: l, o, i =>
    if c == 34 then some (o, i + 1)
    else if c == 92 then
      match l with
      | [] => none
      | d :: m => if d != 34 && d != 92 then none else quoteL m (o ++ [d]) (i + 2)
    else quoteL l (o ++ [c]) (i + 1)
theorem drop_at {s : List UInt8} {i : Nat} (h : i < s.length) : s.drop i = s.getD i 0 :: s.drop (i + 1) := by
  rw [List.getD_eq_getElem?_getD, List.getElem?_eq_getElem h]; exact List.drop_eq_getElem_cons h
theorem drop_end {s : List UInt8} {i : Nat} (h : s.length ≤ i) : s.drop i = [] := List.drop_of_length_le h
theorem qL_end {s o : List UInt8} {i : Nat} {q : Option (List UInt8 × Nat)} (h : s.length ≤ i) (hq : quoteL (s.drop i) o i = q) : q = none := by
  rw [drop_end h] at hq; exact hq.symm
theorem qL_q {s o : List UInt8} {i : Nat} {q : Option (List UInt8 × Nat)} (h : i < s.length) (hc : (s.getD i 0 == 34) = true) (hq : quoteL (s.drop i) o i = q) : q = some (o, i + 1) := by
  rw [drop_at h] at hq; unfold quoteL at hq; rw [if_pos hc] at hq; exact hq.symm
theorem qL_bad {s o : List UInt8} {i : Nat} {q : Option (List UInt8 × Nat)} (h : i < s.length) (hc : (s.getD i 0 == 34) = false) (hb : (s.getD i 0 == 92) = true)
    (hd : ((i + 1 : Nat) : Int) = (s.length : Int) ∨ ((s.getD (i + 1) 0 != 34) && (s.getD (i + 1) 0 != 92)) = true) (hq : quoteL (s.drop i) o i = q) : q = none := by
  rw [drop_at h] at hq; unfold quoteL at hq; rw [if_neg (by rw [hc]; simp), if_pos hb] at hq
  rcases Nat.lt_or_ge (i + 1) s.length with h1 | h1
  · rw [drop_at h1] at hq
    have h2 : (s.getD (i + 1) 0 != 34 && s.getD (i + 1) 0 != 92) = true := hd.resolve_left (by omega)
    simp only [h2, if_true] at hq
    exact hq.symm
  · rw [drop_end h1] at hq; exact hq.symm
theorem qL_esc {s o : List UInt8} {i : Nat} {q : Option (List UInt8 × Nat)} (h : i + 1 < s.length) (hc : (s.getD i 0 == 34) = false) (hb : (s.getD i 0 == 92) = true)
    (hd : ((s.getD (i + 1) 0 != 34) && (s.getD (i + 1) 0 != 92)) = false) (hq : quoteL (s.drop i) o i = q) : quoteL (s.drop (i + 1 + 1)) (o ++ [s.getD (i + 1) 0]) (i + 1 + 1) = q := by
  rw [drop_at (by omega)] at hq; unfold quoteL at hq; rw [if_neg (by rw [hc]; simp), if_pos hb, drop_at h] at hq
  simp only [hd, if_false, Bool.false_eq_true] at hq
  exact hq
theorem qL_c {s o : List UInt8} {i : Nat} {q : Option (List UInt8 × Nat)} (h : i < s.length) (hc : (s.getD i 0 == 34) = false) (hb : (s.getD i 0 == 92) = false)
    (hq : quoteL (s.drop i) o i = q) : quoteL (s.drop (i + 1)) (o ++ [s.getD i 0]) (i + 1) = q := by
  rw [drop_at h] at hq; unfold quoteL at hq; rw [if_neg (by rw [hc]; simp), if_neg (by rw [hb]; simp)] at hq
  exact hq
def qAt (s : List UInt8) (f : Nat) : Option (List UInt8 × Nat) := quoteL (s.drop (f + 1)) [] (f + 1)
def qT (q : Option (List UInt8 × Nat)) : List UInt8 := (q.map Prod.fst).getD []
def qE (q : Option (List UInt8 × Nat)) : Nat := (q.map Prod.snd).getD 0
theorem qL_le : ∀ (n : Nat) (l o : List UInt8) (i : Nat) (x : List UInt8) (e : Nat), l.length ≤ n → quoteL l o i = some (x, e) → i < e ∧ e ≤ i + l.length ∧ x.length ≤ o.length + l.length
  | 0, l, o, i, x, e, h, hq => by
    obtain rfl : l = [] := List.length_eq_zero_iff.1 (by omega)
    cases hq
  | n + 1, [], o, i, x, e, h, hq => by cases hq
  | n + 1, c :: l, o, i, x, e, h, hq => by
    unfold quoteL at hq
    by_cases h1 : (c == 34) = true
    · rw [if_pos h1] at hq
      simp only [Option.some.injEq, Prod.mk.injEq] at hq
      obtain ⟨rfl, rfl⟩ := hq
      simp
    · rw [if_neg h1] at hq
      by_cases h2 : (c == 92) = true
      · rw [if_pos h2] at hq
        match l, hq with
        | [], hq => cases hq
        | d :: m, hq =>
          by_cases h3 : (d != 34 && d != 92) = true
          · simp only [h3, if_true] at hq; cases hq
          · rw [Bool.not_eq_true] at h3
            simp only [h3, if_false, Bool.false_eq_true] at hq
            have := qL_le n m (o ++ [d]) (i + 2) x e (by simp at h; omega) hq
            simp at this ⊢; omega
      · rw [if_neg h2] at hq
        have := qL_le n l (o ++ [c]) (i + 1) x e (by simp at h; omega) hq
        simp at this ⊢; omega
end Go.Proofs.YtgknfikdajoiaaaGreatDoor
namespace Go.Proofs.YtgknfikdajoiaaaGreatDoor
open Go
theorem u8i {c k : UInt8} {b : Bool} (h : ((c.toNat : Int) == (k.toNat : Int)) = b) : (c == k) = b := by
  rw [← h]
  by_cases h1 : c = k
  · subst h1; simp
  · have h2 : c.toNat ≠ k.toNat := fun h => h1 (UInt8.toNat_inj.1 h)
    have h3 : ((c.toNat : Int) == (k.toNat : Int)) = false := by simp; omega
    rw [h3]; simpa using h1
theorem u8e (c k : UInt8) : ((c.toNat : Int) == (k.toNat : Int)) = (c == k) := (u8i rfl).symm
theorem u8n (c k : UInt8) : ((c.toNat : Int) != (k.toNat : Int)) = (c != k) := by
  show (!((c.toNat : Int) == (k.toNat : Int))) = !(c == k); rw [u8e]
theorem byteRow_add (o : List UInt8) (c : UInt8) : byteRow o ++ [[D.int .u8 (c.toNat : Int)]] = byteRow (o ++ [c]) := by simp [byteRow]
section
variable {s o : List UInt8} {i : Nat}
theorem qm1 (h : i < s.length) : s.length - (i + 1) < s.length - i := by omega
theorem qm2 (h : i < s.length) : s.length - (i + 1 + 1) < s.length - i := by omega
theorem qbad {x y : UInt8} (h : (((i + 1 : Nat) : Int) == (s.length : Int) || (((x.toNat : Int) != 34) && ((y.toNat : Int) != 92))) = true) : ((i + 1 : Nat) : Int) = (s.length : Int) ∨ ((x != 34) && (y != 92)) = true := by
  rcases Bool.or_eq_true_iff.1 h with h | h
  · exact .inl (by simpa using h)
  · right; rw [← u8n x 34, ← u8n y 92]; exact h
theorem qok1 {b : Bool} (hi : i < s.length) (h : (((i + 1 : Nat) : Int) == (s.length : Int) || b) = false) : i + 1 < s.length := by
  have : ¬ ((i + 1 : Nat) : Int) = (s.length : Int) := fun he => by rw [he] at h; simp at h
  omega
theorem qok2 {b : Bool} {x y : UInt8} (h : (b || (((x.toNat : Int) != 34) && ((y.toNat : Int) != 92))) = false) : ((x != 34) && (y != 92)) = false := by
  rw [← u8n x 34, ← u8n y 92]; exact (Bool.or_eq_false_iff.1 h).2
theorem qidx (hi : i < s.length) (h : (!(((i + 1 : Nat) : Int) == (s.length : Int))) = true) : (decide (0 ≤ ((i + 1 : Nat) : Int)) && decide (((i + 1 : Nat) : Int) < (s.length : Int))) = true := by
  have : ¬ ((i + 1 : Nat) : Int) = (s.length : Int) := fun he => by rw [he] at h; simp at h
  exact idx_ok (by omega) (by omega)
theorem qlen {x : List D} (hs : s.length ≤ 4000) (hi : i ≤ s.length) (ho : o.length ≤ i) : (byteRow o).length + [x].length ≤ 34359738368 := by simp [byteRow]; omega
theorem q_start {f : Nat} : quoteL (s.drop (f + 1)) [] (f + 1) = qAt s f := rfl
end
end Go.Proofs.YtgknfikdajoiaaaGreatDoor
namespace Go.Proofs.YtgknfikdajoiaaaGreatDoor
open Go
theorem path_ab : pathB [97, 47, 98] = true := by decide
theorem val_e : valueB [] = true := by decide
end Go.Proofs.YtgknfikdajoiaaaGreatDoor
namespace Go.Proofs.YtgknfikdajoiaaaGreatDoor
open Go
abbrev L8 := List UInt8
theorem hasPrefix_iff {a b : L8} : Lib.hasPrefix a b = true ↔ ∃ s, a = b ++ s := by
  unfold Lib.hasPrefix
  constructor
  · intro h
    have := List.isPrefixOf_iff_prefix.1 h
    obtain ⟨s, hs⟩ := this
    exact ⟨s, hs.symm⟩
  · rintro ⟨s, rfl⟩
    exact List.isPrefixOf_iff_prefix.2 (List.prefix_append _ _)
end Go.Proofs.YtgknfikdajoiaaaGreatDoor
namespace Go.Proofs.YtgknfikdajoiaaaGreatDoor
open Go
def spec (c : UInt8) : Bool := c == 92 || c == 34
def esc1 (c : UInt8) : L8 := if spec c then [92, c] else [c]
def escB (s : L8) : L8 := s.flatMap esc1
theorem esc_nil : escB [] = [] := rfl
theorem esc_cons (c : UInt8) (s : L8) : escB (c :: s) = esc1 c ++ escB s := by simp [escB]
theorem esc_app (a b : L8) : escB (a ++ b) = escB a ++ escB b := by simp [escB, List.flatMap_append]
theorem esc_take {s : L8} {i : Nat} (hi : i < s.length) : escB (s.take (i + 1)) = escB (s.take i) ++ esc1 (s.getD i 0) := by
  rw [List.take_succ_eq_append_getElem hi, esc_app, List.getD_eq_getElem?_getD, List.getElem?_eq_getElem hi]
  simp [escB]
theorem esc1_len (c : UInt8) : (esc1 c).length = if spec c then 2 else 1 := by unfold esc1; split <;> rfl
theorem esc_len (s : L8) : (escB s).length = s.length + Lib.countByte s 34 + Lib.countByte s 92 := by
  induction s with
  | nil => rfl
  | cons c s ih =>
    rw [esc_cons, List.length_append, ih, esc1_len]
    unfold Lib.countByte spec
    rw [List.count_cons, List.count_cons, List.length_cons]
    by_cases h1 : c = 92
    · subst h1; simp; omega
    · by_cases h2 : c = 34
      · subst h2; simp; omega
      · have e1 : (c == 92) = false := by simpa using h1
        have e2 : (c == 34) = false := by simpa using h2
        simp [e1, e2]; omega
theorem esc_le (s : L8) : s.length ≤ (escB s).length ∧ (escB s).length ≤ 2 * s.length := by
  induction s with
  | nil => exact ⟨Nat.le_refl _, Nat.le_refl _⟩
  | cons c s ih =>
    rw [esc_cons, List.length_append, esc1_len, List.length_cons]
    split <;> omega
theorem cnt_le (s : L8) (c : UInt8) : Lib.countByte s c ≤ s.length := List.count_le_length
theorem esc_same {s : L8} (h : s.any spec = false) : escB s = s := by
  induction s with
  | nil => rfl
  | cons c s ih =>
    rw [List.any_cons, Bool.or_eq_false_iff] at h
    rw [esc_cons, ih h.2]
    unfold esc1
    rw [h.1]; rfl
theorem cnt_same {s : L8} (h1 : Lib.countByte s 34 = 0) (h2 : Lib.countByte s 92 = 0) : escB s = s := by
  have hl := esc_len s
  rw [h1, h2] at hl
  refine esc_same ?_
  rw [List.any_eq_false]
  intro c hc
  unfold Lib.countByte at h1 h2
  rw [List.count_eq_zero] at h1 h2
  unfold spec
  have e1 : (c == 92) = false := by
    cases hb : (c == 92) with
    | false => rfl
    | true => exact absurd ((by simpa using hb : c = 92) ▸ hc) h2
  have e2 : (c == 34) = false := by
    cases hb : (c == 34) with
    | false => rfl
    | true => exact absurd ((by simpa using hb : c = 34) ▸ hc) h1
  rw [e1, e2]; simp
theorem any_takeS {s : L8} {i : Nat} (hi : i < s.length) : (s.take (i + 1)).any spec = ((s.take i).any spec || spec (s.getD i 0)) := by
  rw [List.take_succ_eq_append_getElem hi, List.any_append, List.getD_eq_getElem?_getD, List.getElem?_eq_getElem hi]
  simp
theorem escTake_le {s : L8} (i : Nat) : (escB (s.take i)).length ≤ (escB s).length := by
  conv => rhs; rw [← List.take_append_drop i s, esc_app]
  simp
theorem escTake_lt {s : L8} {i : Nat} (hi : i < s.length) : (escB (s.take i)).length + (esc1 (s.getD i 0)).length ≤ (escB s).length := by
  have := escTake_le (s := s) (i + 1)
  rw [esc_take hi, List.length_append] at this
  exact this
def lenTo (s : L8) (i : Nat) : Nat := (escB (s.take i)).length + (s.length - i)
theorem lenTo_0 (s : L8) : lenTo s 0 = s.length := by simp [lenTo, escB]
theorem lenTo_end (s : L8) : lenTo s s.length = (escB s).length := by simp [lenTo]
theorem lenTo_s {s : L8} {i : Nat} (hi : i < s.length) (h : spec (s.getD i 0) = true) : lenTo s (i + 1) = lenTo s i + 1 := by
  unfold lenTo
  rw [esc_take hi, List.length_append, esc1_len, if_pos h]; omega
theorem lenTo_n {s : L8} {i : Nat} (hi : i < s.length) (h : spec (s.getD i 0) = false) : lenTo s (i + 1) = lenTo s i := by
  unfold lenTo
  rw [esc_take hi, List.length_append, esc1_len, if_neg (by rw [h]; simp)]; omega
theorem lenTo_le (s : L8) {i : Nat} (hi : i ≤ s.length) : lenTo s i ≤ 2 * s.length := by
  have := (esc_le (s.take i)).2
  unfold lenTo
  simp at this
  omega
def fillTo (s : L8) (i : Nat) : List (List D) := byteRow (escB (s.take i)) ++ List.replicate ((escB s).length - (escB (s.take i)).length) [.int .u8 0]
theorem byteRow_app (a b : L8) : byteRow (a ++ b) = byteRow a ++ byteRow b := by simp [byteRow]
theorem byteRow_len (a : L8) : (byteRow a).length = a.length := by simp [byteRow]
theorem fill_0 (s : L8) : List.replicate (escB s).length [D.int .u8 0] = fillTo s 0 := by simp [fillTo, escB, byteRow]
theorem fill_end (s : L8) : fillTo s s.length = byteRow (escB s) := by simp [fillTo]
theorem fill_s {s : L8} {i : Nat} (hi : i < s.length) (h : spec (s.getD i 0) = true) :
    (fillTo s i).take (escB (s.take i)).length ++ byteRow [92, s.getD i 0] ++ (fillTo s i).drop ((escB (s.take i)).length + 2) = fillTo s (i + 1) := by
  have h1 := escTake_lt hi
  have e1 : esc1 (s.getD i 0) = [92, s.getD i 0] := by unfold esc1; rw [if_pos h]
  rw [e1] at h1
  unfold fillTo
  rw [esc_take hi, e1, byteRow_app]
  have hl := byteRow_len (escB (s.take i))
  rw [List.take_append_of_le_length (by omega), List.take_of_length_le (by omega), List.drop_append, List.drop_of_length_le (by omega), hl, List.nil_append, List.drop_replicate, List.length_append]
  congr 2
  simp only [List.length_cons, List.length_nil]
  omega
theorem fill_n {s : L8} {i : Nat} (hi : i < s.length) (h : spec (s.getD i 0) = false) : (fillTo s i).set (escB (s.take i)).length [.int .u8 ((s.getD i 0).toNat : Int)] = fillTo s (i + 1) := by
  have h1 := escTake_lt hi
  have e1 : esc1 (s.getD i 0) = [s.getD i 0] := by unfold esc1; rw [if_neg (by rw [h]; simp)]
  rw [e1] at h1
  simp only [List.length_cons, List.length_nil] at h1
  unfold fillTo
  rw [esc_take hi, e1, byteRow_app]
  have hl := byteRow_len (escB (s.take i))
  obtain ⟨k, hk⟩ : ∃ k, (escB s).length - (escB (s.take i)).length = k + 1 := ⟨(escB s).length - (escB (s.take i)).length - 1, by omega⟩
  rw [List.set_append_right _ _ (by omega), hl, Nat.sub_self, hk, List.replicate_succ, List.set_cons_zero, List.length_append, List.append_assoc]
  congr 1
  show _ = [[D.int .u8 ((s.getD i 0).toNat : Int)]] ++ _
  simp only [List.length_cons, List.length_nil, List.cons_append, List.nil_append]
  congr 2
  omega
theorem fill_at {s : L8} {i : Nat} (hi : i < s.length) : ∃ x, (fillTo s i)[(escB (s.take i)).length]? = some x ∧ x = [D.int .u8 0] := by
  have h1 := escTake_lt hi
  have h2 : 0 < (esc1 (s.getD i 0)).length := by rw [esc1_len]; split <;> omega
  refine ⟨_, ?_, rfl⟩
  unfold fillTo
  rw [List.getElem?_append_right (by rw [byteRow_len]; exact Nat.le_refl _), byteRow_len, Nat.sub_self, List.getElem?_replicate, if_pos (by omega)]
end Go.Proofs.YtgknfikdajoiaaaGreatDoor
namespace Go.Proofs.YtgknfikdajoiaaaGreatDoor
open Go
open Go.RowKit
theorem pc_build  :
  HCall Tryz.prog J 181 ([.one (.ptr 0 0)]) ([[.d (.int .u32 0), .d (.int .i32 1), .d (.int .u32 0), .d (.err true), .d (.vec 1 [[.str [92]], [.str [92, 92]], [.str [34]], [.str [92, 34]]])]]) ([]) ([]) (isH (.one (.wr (.ifc 249) 1 0)) ([[.d (.int .u32 0), .d (.int .i32 1), .d (.int .u32 0), .d (.err true), .d (.vec 1 [[.str [92]], [.str [92, 92]], [.str [34]], [.str [92, 34]]])], bsr]) ([some ⟨true, 2, 1, 9, [[.str [34]], [.str [92]]]⟩]) ([])) := by
 refine HCall.ofD tOk ⟨2, 1, 0⟩ (fn := Tryz.f181) Tryz.func181 (by kernel_rfl) rfl (Nat.le_of_ble_eq_true rfl) (fun E => ?_)
 refine W.seq ?_
 refine W.region ?_
 refine S.pure tOk zOk rfl rfl rfl ?_
 refine thenK_n ?_
 refine W.seq ?_
 refine W.region ?_
 refine S.pure tOk zOk rfl rfl rfl ?_
 refine S.pure tOk zOk rfl rfl rfl ?_
 refine S.pure tOk zOk rfl rfl rfl ?_
 refine S.pure tOk zOk rfl rfl rfl ?_
 refine S.pure tOk zOk rfl rfl rfl ?_
 refine thenK_n ?_
 refine W.seq ?_
 refine W.seq ?_
 refine W.region ?_
 refine S.pure tOk zOk rfl rfl rfl ?_
 refine S.pure tOk zOk rfl rfl rfl ?_
 refine S.pure tOk zOk rfl rfl rfl ?_
 refine S.pure tOk zOk rfl rfl rfl ?_
 refine S.pureG tOk zOk rfl rfl tg (fun _ => rfl) rfl ?_
 refine S.pureG tOk zOk rfl rfl tg (fun _ => by first | rfl | exact idx_ok (by omega) (by omega)) rfl ?_
 refine S.pureG tOk zOk rfl rfl tg (fun _ => rfl) rfl ?_
 refine S.pureG tOk zOk rfl rfl tg (fun _ => rfl) rfl ?_
 refine S.pureG tOk zOk rfl rfl tg (fun _ => rfl) rfl ?_
 refine S.pickAnd tOk zOk rfl rfl tg ?_
 refine thenK_n ?_
 refine W.condF rfl rfl ?_
 refine W.skip ?_
 refine thenK_n ?_
 refine W.seq ?_
 refine W.region ?_
 refine S.pure tOk zOk rfl rfl rfl ?_
 refine thenK_n ?_
 refine W.seq ?_
 refine W.seq ?_
 refine W.region ?_
 refine S.pure tOk zOk rfl rfl rfl ?_
 refine thenK_n ?_
 refine W.block ?_
 refine W.rounds 3 ?_
 refine WR.succ ?_
 refine W.seq ?_
 refine W.seq ?_
 refine W.region ?_
 refine S.pure tOk zOk rfl rfl rfl ?_
 refine S.pure tOk zOk rfl rfl rfl ?_
 refine S.pure tOk zOk rfl rfl rfl ?_
 refine S.pure tOk zOk rfl rfl rfl ?_
 refine thenK_n ?_
 refine W.condT rfl rfl ?_
 refine W.skip ?_
 refine thenK_n ?_
 refine W.seq ?_
 refine W.block ?_
 refine W.seq ?_
 refine W.seq ?_
 refine W.region ?_
 refine S.pure tOk zOk rfl rfl rfl ?_
 refine S.pure tOk zOk rfl rfl rfl ?_
 refine S.pure tOk zOk rfl (by first | rfl | exact idx_ok (by omega) (by omega)) rfl ?_
 refine S.pure tOk zOk rfl rfl rfl ?_
 refine S.pure tOk zOk rfl rfl rfl ?_
 refine S.pure tOk zOk rfl rfl rfl ?_
 refine thenK_n ?_
 refine W.condF rfl rfl ?_
 refine W.skip ?_
 refine thenK_n ?_
 refine W.seq ?_
 refine W.region ?_
 refine S.pure tOk zOk rfl rfl rfl ?_
 refine S.pure tOk zOk rfl rfl rfl ?_
 refine S.pure tOk zOk rfl rfl rfl ?_
 refine S.pure tOk zOk rfl (by first | rfl | exact idx_ok (by omega) (by omega)) rfl ?_
 refine S.pure tOk zOk rfl rfl rfl ?_
 refine S.pure tOk zOk rfl rfl rfl ?_
 refine S.pure tOk zOk rfl rfl rfl ?_
 refine thenK_n ?_
 refine W.condT rfl rfl ?_
 refine W.region ?_
 refine S.pure tOk zOk rfl rfl rfl ?_
 refine blockK_n ?_
 refine thenK_n ?_
 refine W.region ?_
 refine S.pure tOk zOk rfl rfl rfl ?_
 refine S.pure tOk zOk rfl rfl rfl ?_
 refine S.pure tOk zOk rfl rfl rfl ?_
 refine thenK_n ?_
 refine WR.succ ?_
 refine W.seq ?_
 refine W.seq ?_
 refine W.region ?_
 refine S.pure tOk zOk rfl rfl rfl ?_
 refine S.pure tOk zOk rfl rfl rfl ?_
 refine S.pure tOk zOk rfl rfl rfl ?_
 refine S.pure tOk zOk rfl rfl rfl ?_
 refine thenK_n ?_
 refine W.condT rfl rfl ?_
 refine W.skip ?_
 refine thenK_n ?_
 refine W.seq ?_
 refine W.block ?_
 refine W.seq ?_
 refine W.seq ?_
 refine W.region ?_
 refine S.pure tOk zOk rfl rfl rfl ?_
 refine S.pure tOk zOk rfl rfl rfl ?_
 refine S.pure tOk zOk rfl (by first | rfl | exact idx_ok (by omega) (by omega)) rfl ?_
 refine S.pure tOk zOk rfl rfl rfl ?_
 refine S.pure tOk zOk rfl rfl rfl ?_
 refine S.pure tOk zOk rfl rfl rfl ?_
 refine thenK_n ?_
 refine W.condF rfl rfl ?_
 refine W.skip ?_
 refine thenK_n ?_
 refine W.seq ?_
 refine W.region ?_
 refine S.pure tOk zOk rfl rfl rfl ?_
 refine S.pure tOk zOk rfl rfl rfl ?_
 refine S.pure tOk zOk rfl rfl rfl ?_
 refine S.pure tOk zOk rfl (by first | rfl | exact idx_ok (by omega) (by omega)) rfl ?_
 refine S.pure tOk zOk rfl rfl rfl ?_
 refine S.pure tOk zOk rfl rfl rfl ?_
 refine S.pure tOk zOk rfl rfl rfl ?_
 refine thenK_n ?_
 refine W.condT rfl rfl ?_
 refine W.region ?_
 refine S.pure tOk zOk rfl rfl rfl ?_
 refine blockK_n ?_
 refine thenK_n ?_
 refine W.region ?_
 refine S.pure tOk zOk rfl rfl rfl ?_
 refine S.pure tOk zOk rfl rfl rfl ?_
 refine S.pure tOk zOk rfl rfl rfl ?_
 refine thenK_n ?_
 refine WR.succ ?_
 refine W.seq ?_
 refine W.seq ?_
 refine W.region ?_
 refine S.pure tOk zOk rfl rfl rfl ?_
 refine S.pure tOk zOk rfl rfl rfl ?_
 refine S.pure tOk zOk rfl rfl rfl ?_
 refine S.pure tOk zOk rfl rfl rfl ?_
 refine thenK_n ?_
 refine W.condF rfl rfl ?_
 refine W.exit ?_
 refine thenK_e ?_
 refine thenK_e ?_
 refine blockK_x ?_
 refine thenK_n ?_
 refine W.seq ?_
 refine W.seq ?_
 refine W.region ?_
 refine S.pure tOk zOk rfl rfl rfl ?_
 refine thenK_n ?_
 refine W.condF rfl rfl ?_
 refine W.skip ?_
 refine thenK_n ?_
 refine W.seq ?_
 refine W.region ?_
 refine S.pure tOk zOk rfl rfl rfl ?_
 refine S.pure tOk zOk rfl rfl rfl ?_
 refine S.pure tOk zOk rfl rfl rfl ?_
 refine S.makeEmpty tOk (zd := [.str []]) 2 rfl rfl rfl rfl rfl rfl rfl (by decide) rfl rfl ?_
 refine S.pure tOk zOk rfl rfl rfl ?_
 refine S.alloc tOk rfl rfl rfl rfl ?_
 refine S.store tOk rfl rfl rfl rfl rfl rfl rfl rfl ?_
 refine thenK_n ?_
 refine W.seq ?_
 refine W.seq ?_
 refine W.region ?_
 refine S.pure tOk zOk rfl rfl rfl ?_
 refine S.pure tOk zOk rfl rfl rfl ?_
 refine S.pure tOk zOk rfl rfl rfl ?_
 refine S.pure tOk zOk rfl rfl rfl ?_
 refine thenK_n ?_
 refine W.block ?_
 refine W.rounds 3 ?_
 refine WR.succ ?_
 refine W.seq ?_
 refine W.seq ?_
 refine W.region ?_
 refine S.pure tOk zOk rfl rfl rfl ?_
 refine S.pure tOk zOk rfl rfl rfl ?_
 refine thenK_n ?_
 refine W.condT rfl rfl ?_
 refine W.skip ?_
 refine thenK_n ?_
 refine W.seq ?_
 refine W.block ?_
 refine W.seq ?_
 refine W.region ?_
 refine S.pure tOk zOk rfl rfl rfl ?_
 refine S.pure tOk zOk rfl rfl rfl ?_
 refine S.pure tOk zOk rfl (by first | rfl | exact idx_ok (by omega) (by omega)) rfl ?_
 refine S.pure tOk zOk rfl rfl rfl ?_
 refine S.pure tOk zOk rfl (by first | rfl | exact idx_ok (by omega) (by omega)) rfl ?_
 refine S.pure tOk zOk rfl rfl rfl ?_
 refine thenK_n ?_
 refine W.seq ?_
 refine W.region ?_
 refine S.pure tOk zOk rfl rfl rfl ?_
 refine S.pure tOk zOk rfl rfl rfl ?_
 refine S.pure tOk zOk rfl rfl rfl ?_
 refine S.pure tOk zOk rfl (by first | rfl | exact idx_ok (by omega) (by omega)) rfl ?_
 refine S.pure tOk zOk rfl rfl rfl ?_
 refine S.pure tOk zOk rfl rfl rfl ?_
 refine thenK_n ?_
 refine W.seq ?_
 refine W.seq ?_
 refine W.region ?_
 refine S.pure tOk zOk rfl rfl rfl ?_
 refine S.pure tOk zOk rfl rfl rfl ?_
 refine S.pure tOk zOk rfl (by first | rfl | exact idx_ok (by omega) (by omega)) rfl ?_
 refine S.pure tOk zOk rfl rfl rfl ?_
 refine S.isNilD tOk true (.inl ⟨rfl, rfl⟩) rfl rfl rfl ?_
 refine thenK_n ?_
 refine W.condT rfl rfl ?_
 refine W.region ?_
 refine S.pure tOk zOk rfl rfl rfl ?_
 refine S.pure tOk zOk rfl rfl rfl ?_
 refine S.pure tOk zOk rfl rfl rfl ?_
 refine S.slice tOk rfl rfl ?_
 refine S.convVec tOk [34] rfl rfl rfl rfl rfl rfl rfl (by decide) ?_
 refine S.slice tOk rfl rfl ?_
 refine S.append tOk rfl rfl rfl rfl rfl rfl rfl rfl rfl rfl rfl rfl (by decide) rfl (rfl) rfl ?_
 refine S.pure tOk zOk rfl rfl rfl ?_
 refine S.store tOk rfl rfl rfl rfl rfl rfl rfl rfl ?_
 refine thenK_n ?_
 refine W.region ?_
 refine S.pure tOk zOk rfl rfl rfl ?_
 refine S.pure tOk zOk rfl rfl rfl ?_
 refine S.convBytes tOk [92, 34] rfl rfl rfl rfl rfl rfl rfl ?_
 refine S.pure tOk zOk rfl rfl rfl ?_
 refine S.pure tOk zOk rfl (by first | rfl | exact idx_ok (by omega) (by omega)) rfl ?_
 refine S.store tOk rfl rfl rfl rfl rfl rfl rfl rfl ?_
 refine blockK_n ?_
 refine thenK_n ?_
 refine W.region ?_
 refine S.pure tOk zOk rfl rfl rfl ?_
 refine S.pure tOk zOk rfl rfl rfl ?_
 refine S.pure tOk zOk rfl rfl rfl ?_
 refine thenK_n ?_
 refine WR.succ ?_
 refine W.seq ?_
 refine W.seq ?_
 refine W.region ?_
 refine S.pure tOk zOk rfl rfl rfl ?_
 refine S.pure tOk zOk rfl rfl rfl ?_
 refine thenK_n ?_
 refine W.condT rfl rfl ?_
 refine W.skip ?_
 refine thenK_n ?_
 refine W.seq ?_
 refine W.block ?_
 refine W.seq ?_
 refine W.region ?_
 refine S.pure tOk zOk rfl rfl rfl ?_
 refine S.pure tOk zOk rfl rfl rfl ?_
 refine S.pure tOk zOk rfl (by first | rfl | exact idx_ok (by omega) (by omega)) rfl ?_
 refine S.pure tOk zOk rfl rfl rfl ?_
 refine S.pure tOk zOk rfl (by first | rfl | exact idx_ok (by omega) (by omega)) rfl ?_
 refine S.pure tOk zOk rfl rfl rfl ?_
 refine thenK_n ?_
 refine W.seq ?_
 refine W.region ?_
 refine S.pure tOk zOk rfl rfl rfl ?_
 refine S.pure tOk zOk rfl rfl rfl ?_
 refine S.pure tOk zOk rfl rfl rfl ?_
 refine S.pure tOk zOk rfl (by first | rfl | exact idx_ok (by omega) (by omega)) rfl ?_
 refine S.pure tOk zOk rfl rfl rfl ?_
 refine S.pure tOk zOk rfl rfl rfl ?_
 refine thenK_n ?_
 refine W.seq ?_
 refine W.seq ?_
 refine W.region ?_
 refine S.pure tOk zOk rfl rfl rfl ?_
 refine S.pure tOk zOk rfl rfl rfl ?_
 refine S.pure tOk zOk rfl (by first | rfl | exact idx_ok (by omega) (by omega)) rfl ?_
 refine S.pure tOk zOk rfl rfl rfl ?_
 refine S.isNilD tOk true (.inl ⟨rfl, rfl⟩) rfl rfl rfl ?_
 refine thenK_n ?_
 refine W.condT rfl rfl ?_
 refine W.region ?_
 refine S.pure tOk zOk rfl rfl rfl ?_
 refine S.pure tOk zOk rfl rfl rfl ?_
 refine S.pure tOk zOk rfl rfl rfl ?_
 refine S.slice tOk rfl rfl ?_
 refine S.convVec tOk [92] rfl rfl rfl rfl rfl rfl rfl (by decide) ?_
 refine S.slice tOk rfl rfl ?_
 refine S.append tOk rfl rfl rfl rfl rfl rfl rfl rfl rfl rfl rfl rfl (by decide) rfl (rfl) rfl ?_
 refine S.pure tOk zOk rfl rfl rfl ?_
 refine S.store tOk rfl rfl rfl rfl rfl rfl rfl rfl ?_
 refine thenK_n ?_
 refine W.region ?_
 refine S.pure tOk zOk rfl rfl rfl ?_
 refine S.pure tOk zOk rfl rfl rfl ?_
 refine S.convBytes tOk [92, 92] rfl rfl rfl rfl rfl rfl rfl ?_
 refine S.pure tOk zOk rfl rfl rfl ?_
 refine S.pure tOk zOk rfl (by first | rfl | exact idx_ok (by omega) (by omega)) rfl ?_
 refine S.store tOk rfl rfl rfl rfl rfl rfl rfl rfl ?_
 refine blockK_n ?_
 refine thenK_n ?_
 refine W.region ?_
 refine S.pure tOk zOk rfl rfl rfl ?_
 refine S.pure tOk zOk rfl rfl rfl ?_
 refine S.pure tOk zOk rfl rfl rfl ?_
 refine thenK_n ?_
 refine WR.succ ?_
 refine W.seq ?_
 refine W.seq ?_
 refine W.region ?_
 refine S.pure tOk zOk rfl rfl rfl ?_
 refine S.pure tOk zOk rfl rfl rfl ?_
 refine thenK_n ?_
 refine W.condF rfl rfl ?_
 refine W.exit ?_
 refine thenK_e ?_
 refine thenK_e ?_
 refine blockK_x ?_
 refine thenK_n ?_
 refine W.seq ?_
 refine W.region ?_
 refine S.makeIfc Tryz.underlying249 rfl rfl ?_
 refine S.pure tOk zOk rfl rfl rfl ?_
 refine thenK_n ?_
 refine W.ret ?_
 exact ⟨_, rfl, rfl, LeG.refl _, rfl, rfl, rfl⟩
theorem pc_buildOnce  :
  HCall Tryz.prog J 132 ([.one (.ptr 0 0)]) ([[.d (.int .u32 0), .d (.int .i32 1), .d (.int .u32 0), .d (.err true), .d (.vec 1 [[.str [92]], [.str [92, 92]], [.str [34]], [.str [92, 34]]])]]) ([]) ([]) (isH (.tup []) ([[.d (.int .u32 0), .d (.int .i32 1), .d (.int .u32 0), .wr (.ifc 249) 1 0, .d .nilsl], bsr]) ([some ⟨true, 2, 1, 9, [[.str [34]], [.str [92]]]⟩]) ([])) := by
 refine HCall.ofD tOk ⟨2, 1, 0⟩ (fn := Tryz.f132) Tryz.func132 (by kernel_rfl) rfl (Nat.le_of_ble_eq_true rfl) (fun E => ?_)
 refine W.seq ?_
 refine W.region ?_
 refine S.pure tOk zOk rfl rfl rfl ?_
 refine S.pure tOk zOk rfl rfl rfl ?_
 refine S.hcallD rfl rfl rfl rfl (pc_build) ?_
 refine S.pure tOk zOk rfl rfl rfl ?_
 refine S.pure tOk zOk rfl rfl rfl ?_
 refine S.store tOk rfl rfl rfl rfl rfl rfl rfl rfl ?_
 refine thenK_n ?_
 refine W.region ?_
 refine S.pure tOk zOk rfl rfl rfl ?_
 refine S.pure tOk zOk rfl rfl rfl ?_
 refine S.pure tOk zOk rfl rfl rfl ?_
 refine S.store tOk rfl rfl rfl rfl rfl rfl rfl rfl ?_
 exact ⟨_, rfl, rfl, LeG.refl _, rfl, rfl, rfl⟩
theorem pc_doSlow : HCall Tryz.prog J 180 [.one (.ptr 0 0), .one (.wr (.bnd 132) 0 0)] [[.d (.int .u32 0), .d (.int .i32 0), .d (.int .u32 0), .d (.err true), .d (.vec 1 [[.str [92]], [.str [92, 92]], [.str [34]], [.str [92, 34]]])]] [] [] (isH (.tup []) [[.d (.int .u32 1), .d (.int .i32 0), .d (.int .u32 0), .wr (.ifc 249) 1 0, .d .nilsl], bsr] [some ⟨true, 2, 1, 9, [[.str [34]], [.str [92]]]⟩] []) := by
  refine HCall.once (b1 := [[.d (.int .u32 0), .d (.int .i32 1), .d (.int .u32 0), .wr (.ifc 249) 1 0, .d .nilsl], bsr]) (b2 := [[.d (.int .u32 1), .d (.int .i32 1), .d (.int .u32 0), .wr (.ifc 249) 1 0, .d .nilsl], bsr]) (m1 := []) [_, _, _, _] [_, _, _] [_, _, _, _, _] [_, _, _] [_, _] Tryz.func180 (by kernel_rfl) rfl (Nat.le_of_ble_eq_true rfl) rfl (Nat.zero_lt_succ _) (Nat.zero_lt_succ _) (Nat.zero_lt_succ _) (fun E => ?_) (pc_DStore 1 _ _ bsr _) (pc_DUnlock 1 _ _ bsr _)
  refine S.pure tOk zOk rfl rfl rfl ?_
  refine S.pure tOk zOk rfl rfl rfl ?_
  refine S.pure tOk zOk rfl rfl rfl ?_
  refine S.hcallD rfl rfl rfl rfl (pc_MLock 0 _ _) ?_
  refine S.pure tOk zOk rfl rfl rfl ?_
  refine S.pure tOk zOk rfl rfl rfl ?_
  refine S.pure tOk zOk rfl rfl rfl ?_
  refine ⟨rfl, ?_⟩
  refine S.pure tOk zOk rfl rfl rfl ?_
  refine S.pure tOk zOk rfl rfl rfl ?_
  refine S.pure tOk zOk rfl rfl rfl ?_
  refine S.hcallD rfl rfl rfl rfl (pc_BLoad 1 _ _) ?_
  refine S.pure tOk zOk rfl rfl rfl ?_
  refine ⟨rfl, ?_⟩
  refine S.pure tOk zOk rfl rfl rfl ?_
  refine S.pure tOk zOk rfl rfl rfl ?_
  refine S.pure tOk zOk rfl rfl rfl ?_
  refine ⟨rfl, ?_⟩
  refine S.pure tOk zOk rfl rfl rfl ?_
  refine S.callBnd rfl pc_buildOnce ?_
  exact ⟨rfl, rfl, rfl⟩
theorem pc_Do  :
  HCall Tryz.prog J 131 ([.one (.ptr 0 0), .one (.wr (.bnd 132) 0 0)]) ([[.d (.int .u32 0), .d (.int .i32 0), .d (.int .u32 0), .d (.err true), .d (.vec 1 [[.str [92]], [.str [92, 92]], [.str [34]], [.str [92, 34]]])]]) ([]) ([]) (isH (.tup []) ([[.d (.int .u32 1), .d (.int .i32 0), .d (.int .u32 0), .wr (.ifc 249) 1 0, .d .nilsl], bsr]) ([some ⟨true, 2, 1, 9, [[.str [34]], [.str [92]]]⟩]) ([])) := by
 refine HCall.ofD tOk ⟨2, 1, 0⟩ (fn := Tryz.f131) Tryz.func131 (by kernel_rfl) rfl (Nat.le_of_ble_eq_true rfl) (fun E => ?_)
 refine W.seq ?_
 refine W.region ?_
 refine S.pure tOk zOk rfl rfl rfl ?_
 refine S.pure tOk zOk rfl rfl rfl ?_
 refine S.pure tOk zOk rfl rfl rfl ?_
 refine S.hcallD rfl rfl rfl rfl (pc_BLoad 0 _ _) ?_
 refine S.pure tOk zOk rfl rfl rfl ?_
 refine thenK_n ?_
 refine W.condT rfl rfl ?_
 refine W.region ?_
 refine S.pure tOk zOk rfl rfl rfl ?_
 refine S.pure tOk zOk rfl rfl rfl ?_
 refine S.hcallD rfl rfl rfl rfl (pc_doSlow) ?_
 exact ⟨_, rfl, rfl, LeG.refl _, rfl, rfl, rfl⟩
theorem pc_NewReplacer  :
  HCall Tryz.prog J 84 ([.one (.d (.vec 1 [[.str [92]], [.str [92, 92]], [.str [34]], [.str [92, 34]]]))]) ([]) ([]) ([]) (isH (.one (.ptr 0 0)) ([[.d (.int .u32 0), .d (.int .i32 0), .d (.int .u32 0), .d (.err true), .d (.vec 1 [[.str [92]], [.str [92, 92]], [.str [34]], [.str [92, 34]]])]]) ([]) ([])) := by
 refine HCall.ofD tOk ⟨1, 0, 0⟩ (fn := Tryz.f84) Tryz.func84 (by kernel_rfl) rfl (Nat.le_of_ble_eq_true rfl) (fun E => ?_)
 refine W.seq ?_
 refine W.region ?_
 refine S.pure tOk zOk rfl rfl rfl ?_
 refine thenK_n ?_
 refine W.seq ?_
 refine W.seq ?_
 refine W.region ?_
 refine S.pure tOk zOk rfl rfl rfl ?_
 refine S.pure tOk zOk rfl rfl rfl ?_
 refine S.pure tOk zOk rfl rfl rfl ?_
 refine S.pure tOk zOk rfl rfl rfl ?_
 refine thenK_n ?_
 refine W.condF rfl rfl ?_
 refine W.skip ?_
 refine thenK_n ?_
 refine W.seq ?_
 refine W.region ?_
 refine S.pure tOk zOk rfl rfl rfl ?_
 refine S.appendNil tOk (news := [.str [92], .str [92, 92], .str [34], .str [92, 34]]) rfl rfl rfl rfl rfl rfl (by decide) (by decide) ?_
 refine S.pure tOk zOk rfl rfl rfl ?_
 refine S.box rfl rfl rfl rfl ?_
 refine S.pure tOk zOk rfl rfl rfl ?_
 refine thenK_n ?_
 refine W.ret ?_
 exact ⟨_, rfl, rfl, LeG.refl _, rfl, rfl, rfl⟩
theorem bsr_row {off : Nat} (h : off = 256) : bsr[off]? = some (.row 0 2 0 2) := by subst h; rfl
theorem bsr_34 {off : Nat} (h : off = 34) : bsr[off]? = some (.d (.vec 1 (byteRow [92, 34]))) := by subst h; rfl
theorem bsr_92 {off : Nat} (h : off = 92) : bsr[off]? = some (.d (.vec 1 (byteRow [92, 92]))) := by subst h; rfl
theorem replD_s {c : UInt8} (h : spec c = true) : replD c = .vec 1 (byteRow [92, c]) := by
  unfold spec at h
  unfold replD
  by_cases h1 : c = 92
  · subst h1; rfl
  · have e1 : (c == 92) = false := by simpa using h1
    rw [e1] at h ⊢
    have e2 : (c == 34) = true := by simpa using h
    rw [e2]
    have : c = 34 := by simpa using e2
    subst this; rfl
theorem replD_n {c : UInt8} (h : spec c = false) : replD c = .nilsl := by
  unfold spec at h
  rw [Bool.or_eq_false_iff] at h
  unfold replD
  rw [h.1, h.2]; rfl
theorem replD_nil (c : UInt8) : isNil (replD c) (!spec c) := by
  cases h : spec c with
  | true => exact .inr ⟨1, _, _, replD_s h, rfl⟩
  | false => exact .inl ⟨replD_n h, rfl⟩
theorem bsr_at (c : UInt8) {off : Nat} (h : off = c.toNat) : bsr[off]? = some (.d (replD c)) := by
  subst h
  have hc : c.toNat < 256 := c.toNat_lt
  by_cases h1 : c = 92
  · subst h1; rfl
  · by_cases h2 : c = 34
    · subst h2; rfl
    · have n1 : c.toNat ≠ 92 := fun h => h1 (UInt8.toNat_inj.1 h)
      have n2 : c.toNat ≠ 34 := fun h => h2 (UInt8.toNat_inj.1 h)
      rw [replD_n (by unfold spec; rw [show (c == 92) = false by simpa using h1, show (c == 34) = false by simpa using h2]; rfl)]
      generalize c.toNat = n at *
      unfold bsr
      by_cases a1 : n < 34
      · rw [List.getElem?_append_left (by simpa using a1), List.getElem?_replicate, if_pos a1]
      · rw [List.getElem?_append_right (by simp; omega)]
        obtain ⟨k, hk⟩ : ∃ k, n - (List.replicate 34 (C.d D.nilsl)).length = k + 1 := ⟨n - 35, by simp; omega⟩
        rw [hk, List.getElem?_cons_succ]
        have hk' : n = k + 35 := by simp at hk; omega
        by_cases a2 : k < 57
        · rw [List.getElem?_append_left (by simpa using a2), List.getElem?_replicate, if_pos a2]
        · rw [List.getElem?_append_right (by simp; omega)]
          obtain ⟨j, hj⟩ : ∃ j, k - (List.replicate 57 (C.d D.nilsl)).length = j + 1 := ⟨k - 58, by simp; omega⟩
          rw [hj, List.getElem?_cons_succ]
          have hj' : k = j + 58 := by simp at hj; omega
          rw [List.getElem?_append_left (by simp; omega), List.getElem?_replicate, if_pos (by omega)]
theorem bsr_sp {c : UInt8} (hs : spec c = true) {off : Nat} (h : off = c.toNat) : bsr[off]? = some (.d (.vec 1 (byteRow [92, c]))) := by rw [bsr_at c h, replD_s hs]
theorem arr_ok (c : UInt8) : (decide (0 ≤ (c.toNat : Int)) && decide ((c.toNat : Int) < ((256 : Nat) : Int))) = true := by
  have : c.toNat < 256 := c.toNat_lt
  simp; omega
theorem len_m1 (c : UInt8) : V.one (.d (.int .i64 (IntKind.i64.wrap (((byteRow [92, c]).length : Int) - 1)))) = V.one (.d (.int .i64 1)) := rfl
theorem mul_1 {x : Int} (h0 : 0 ≤ x) (h1 : x ≤ 4611686018427387904) : V.one (.d (.int .i64 (IntKind.i64.wrap (x * 1)))) = V.one (.d (.int .i64 x)) := by rw [Int.mul_one, wrap_i64 (by omega) (by omega)]
theorem add_i {x y : Int} (h0 : 0 ≤ x + y) (h1 : x + y ≤ 4611686018427387904) : V.one (.d (.int .i64 (IntKind.i64.wrap (x + y)))) = V.one (.d (.int .i64 (x + y))) := by rw [wrap_i64 (by omega) (by omega)]
theorem len_is {z : Int} {k : Nat} (h : z = (k : Int)) : V.one (.d (.int .i64 z)) = V.one (.d (.int .i64 (k : Int))) := by rw [h]
theorem len_eq {j k : Nat} (h : j = k) : V.one (.d (.int .i64 (j : Int))) = V.one (.d (.int .i64 (k : Int))) := by rw [h]
theorem bool_eq {j k : Bool} (h : j = k) : V.one (.d (.bool j)) = V.one (.d (.bool k)) := by rw [h]
theorem nn {b : Bool} (h : (!!b) = true) : b = true := by simpa using h
theorem nf {b : Bool} (h : (!!b) = false) : b = false := by simpa using h
theorem esc_2 {s : L8} {i : Nat} (hi : i < s.length) (h : spec (s.getD i 0) = true) : (escB (s.take (i + 1))).length = (escB (s.take i)).length + 2 := by rw [esc_take hi, List.length_append, esc1_len, if_pos h]
theorem esc_1 {s : L8} {i : Nat} (hi : i < s.length) (h : spec (s.getD i 0) = false) : (escB (s.take (i + 1))).length = (escB (s.take i)).length + 1 := by rw [esc_take hi, List.length_append, esc1_len, if_neg (by rw [h]; simp)]
theorem esc_add {s : L8} {i : Nat} (hi : i < s.length) (h : spec (s.getD i 0) = true) (hs : s.length ≤ 4000000) : V.one (.d (.int .i64 (IntKind.i64.wrap (((escB (s.take i)).length : Int) + ((2 : Nat) : Int))))) = V.one (.d (.int .i64 ((escB (s.take (i + 1))).length : Int))) := by
  have h1 := escTake_le (s := s) i
  have h2 := esc_le s
  rw [esc_2 hi h, wrap_i64 (by omega) (by omega)]; rfl
theorem esc_inc {s : L8} {i : Nat} (hi : i < s.length) (h : spec (s.getD i 0) = false) (hs : s.length ≤ 4000000) : V.one (.d (.int .i64 (IntKind.i64.wrap (((escB (s.take i)).length : Int) + 1)))) = V.one (.d (.int .i64 ((escB (s.take (i + 1))).length : Int))) := by
  have h1 := escTake_le (s := s) i
  have h2 := esc_le s
  rw [esc_1 hi h]; exact inc_i64 (by omega)
theorem fill_set {s : L8} {i k : Nat} (hk : k = (escB (s.take i)).length) (hi : i < s.length) (h : spec (s.getD i 0) = false) : (fillTo s i).set k (putD ((fillTo s i).getD k []) 0 [.int .u8 ((s.getD i 0).toNat : Int)]) = fillTo s (i + 1) := by
  subst hk
  obtain ⟨x, hx, rfl⟩ := fill_at hi
  rw [List.getD_eq_getElem?_getD, hx]
  exact fill_n hi h
end Go.Proofs.YtgknfikdajoiaaaGreatDoor
namespace Go.Proofs.YtgknfikdajoiaaaGreatDoor
open Go Go.RowKit
section
variable {J : Inv} {k0 : Lens} {E : Env J k0} {P : Program} {T : TypeId → Option TI} {n : Nat} {t : Nat → V} {b : List (List C)} {r : List (Option RowO)} {m : List (List (DV × DV))} {ops : Array Oper} {l : List Oper}
  {K : St → Prop} {i : Nat} {ty : TypeId} {pos : String} {after : Array Edge}
def flat1 : TypeDesc → Bool
  | .slice _ | .int _ | .bool | .string => true
  | _ => false
theorem S.loadC (hT : TabOk P T) {te : TypeId} {ti : TI} {x : Operand} {lo off : Nat} {cs : List C} {c : C} (hti : T te = some ti) (hd : flat1 ti.desc = true) (hsz : ti.size = 1)
    (hx : opd n ⟨t, b, r, m⟩ x = (true, .one (.ptr lo off))) (hb : b[lo]? = some cs) (hc : cs[off]? = some c)
    (k : WL E P n ops l K ⟨upd t i (.one c), b, r, m⟩) : WL E P n ops (⟨some i, .load te x, ty, pos, after, none⟩ :: l) K ⟨t, b, r, m⟩ := by
  intro g a w rel next Q hn
  have hw : Region.wanted (⟨some i, .load te x, ty, pos, after, none⟩ : Oper) (yielded ops a.tmps) = true := by simp [Region.wanted]
  rw [if_pos hw]
  have hag : isAggD ti.desc = false := by cases hq : ti.desc <;> rw [hq] at hd <;> first | rfl | (cases hd; done)
  obtain ⟨z, h1, h2⟩ := evLoad_ok (P := P) (t := te) (u := .one (.ptr lo off)) (r := .one c) hT rel.heap (by
    unfold evLoad
    simp only [hti, hb]
    unfold partC
    rw [hag, if_neg (by simp), hc]; rfl) (opd_ok rel hx rfl)
  have hrun : (execOp a.eval (⟨some i, .load te x, ty, pos, after, none⟩ : Oper)).run P w = .ok (.value z) w := by
    simp only [execOp, Sem.run_bind, h1, Result.andThen_ok, Sem.run_pure]
  unfold Oper.wp
  rw [hrun]
  exact hn _ g _ _ k (rel.put_same (some i) h2)
theorem OpZ.loadC (hT : TabOk P T) {te : TypeId} {ti : TI} {x : Operand} {lo off : Nat} {cs : List C} {c : C} (hti : T te = some ti) (hd : flat1 ti.desc = true) (hsz : ti.size = 1)
    (hx : opd n ⟨t, b, r, m⟩ x = (true, .one (.ptr lo off))) (hb : b[lo]? = some cs) (hc : cs[off]? = some c)
    (k : K ⟨upd t i (.one c), b, r, m⟩) : OpZ E P n ops (⟨some i, .load te x, ty, pos, after, none⟩ : Oper) K ⟨t, b, r, m⟩ := by
  have hm : (⟨some i, .load te x, ty, pos, after, none⟩ : Oper).op.operands.toList = [x] := by simp [Op.operands]
  refine ⟨fun v1 b1 r1 m1 => v1 = .one c ∧ b1 = b ∧ r1 = r ∧ m1 = m, fun t' ht => ?_, fun v1 b1 r1 m1 ⟨e0, e1, e2, e3⟩ => by subst e0; subst e1; subst e2; subst e3; exact k⟩
  have h1 := looks_opd (r := r) (m := m) (b := b) (b1 := b) (n := n) (x := x) (o := ⟨some i, .load te x, ty, pos, after, none⟩) (by rw [hm]; simp) ht
  exact S.loadC (t := t') (l := []) (K := fun s1 => ∃ v b2 r2 m2, s1 = ⟨updO t' (some i) v, b2, r2, m2⟩ ∧ (v = .one c ∧ b2 = b ∧ r2 = r ∧ m2 = m)) hT hti hd hsz (h1.trans hx) hb hc ⟨_, b, r, m, rfl, rfl, rfl, rfl, rfl⟩
theorem S.countB {f : FuncId} {fn : Func} {fo x y : Operand} {ats : Array TypeId} {s : List UInt8} {c : UInt8} (hf : P.funcs[f]? = some fn) (hname : (fn.name == "runtime.NumGoroutine") = false) (hbn : fn.body.isNone = true) (hn0 : Extern.findNext fn = none)
    (he : Extern.find fn = some Extern.BytealgCount.count) (hu : opd n ⟨t, b, r, m⟩ fo = (true, .one (.d (.fn f)))) (hx : opd n ⟨t, b, r, m⟩ x = (true, .one (.d (.str s)))) (hy : opd n ⟨t, b, r, m⟩ y = (true, .one (.d (.int .u8 (c.toNat : Int)))))
    (k : WL E P n ops l K ⟨upd t i (.one (.d (.int .i64 (Lib.countByte s c : Int)))), b, r, m⟩) : WL E P n ops (⟨some i, .call ⟨.value fo, #[x, y], ats⟩, ty, pos, after, none⟩ :: l) K ⟨t, b, r, m⟩ := by
  intro g a w rel next Q hn
  have hw : Region.wanted (⟨some i, .call ⟨.value fo, #[x, y], ats⟩, ty, pos, after, none⟩ : Oper) (yielded ops a.tmps) = true := by simp [Region.wanted]
  rw [if_pos hw]
  have h1 := opd_ok rel hx rfl
  have h2 := opd_ok rel hy rfl
  generalize hz1 : a.eval x = z1 at h1
  generalize hz2 : a.eval y = z2 at h2
  cases h1 with | one _ _ h1 => cases h1 with | d _ _ h1 => cases h1 with | str =>
  cases h2 with | one _ _ h2 => cases h2 with | d _ _ h2 => cases h2 with | int =>
  have hrun := ext_run (o := ⟨some i, .call ⟨.value fo, #[x, y], ats⟩, ty, pos, after, none⟩) rel rfl hu (xs := #[.string ⟨s.toArray⟩, .int .u8 (c.toNat : Int)]) (by simp [hz1, hz2]) (v := .int .i64 (Lib.countByte s c : Int)) (w' := w) (by
    rw [run_callFunc_extern hf hname hbn hn0 he, Lib.run_countString]
    simp [Result.andThen])
  unfold Oper.wp
  rw [hrun]
  exact hn _ g _ _ k (rel.put_same (some i) (.one _ _ (.d _ _ (.int _ _))))
end
end Go.Proofs.YtgknfikdajoiaaaGreatDoor
namespace Go.Proofs.YtgknfikdajoiaaaGreatDoor
open Go
open Go.RowKit
attribute [local irreducible] escB fillTo lenTo replD spec
theorem s_lt {s : List UInt8} {i : Nat} (h : decide ((i : Int) < (s.length : Int)) = true) : i < s.length := by simpa using h
theorem off_is (c : UInt8) : 0 + ((c.toNat : Nat) : Int).toNat * 1 = c.toNat := by rw [Int.toNat_natCast, Nat.mul_one, Nat.zero_add]
theorem len_t0 (s : List UInt8) : V.one (.d (.int .i64 0)) = V.one (.d (.int .i64 ((escB (s.take 0)).length : Int))) := by rw [List.take_zero, esc_nil]; rfl
theorem cz {x : Nat} (h : ((x : Int) != 0) = false) : x = 0 := by simpa using h
theorem an {s : List UInt8} (h : (!(s.take s.length).any spec) = true) : s.any spec = false := by rw [List.take_length] at h; simpa using h
theorem s_ge {s : List UInt8} {i : Nat} (h : decide ((i : Int) < (s.length : Int)) = false) : s.length ≤ i := by simpa using h
theorem pc_Count1 (s : List UInt8) (c : UInt8) :
  PureCall Tryz.prog J 171 [.one (.d (.str s)), .one (.d (.str [c]))] (.one (.d (.int .i64 (Lib.countByte s c : Int)))) := by
 refine PureCall.of_body tOk (fn := Tryz.f171) Tryz.func171 (by kernel_rfl) rfl (Nat.le_of_ble_eq_true rfl) (fun E => ?_)
 refine W.seq ?_
 refine W.region ?_
 refine S.pure tOk zOk rfl rfl rfl ?_
 refine thenK_n ?_
 refine W.seq ?_
 refine W.seq ?_
 refine W.region ?_
 refine S.pure tOk zOk rfl rfl rfl ?_
 refine S.pure tOk zOk rfl rfl rfl ?_
 refine S.pure tOk zOk rfl rfl rfl ?_
 refine thenK_n ?_
 refine W.condF rfl rfl ?_
 refine W.skip ?_
 refine thenK_n ?_
 refine W.seq ?_
 refine W.seq ?_
 refine W.region ?_
 refine S.pure tOk zOk rfl rfl rfl ?_
 refine S.pure tOk zOk rfl rfl rfl ?_
 refine S.pure tOk zOk rfl rfl rfl ?_
 refine thenK_n ?_
 refine W.condT rfl rfl ?_
 refine W.seq ?_
 refine W.region ?_
 refine S.pure tOk zOk rfl rfl rfl ?_
 refine S.pure tOk zOk rfl rfl rfl ?_
 refine S.pure tOk zOk rfl (by first | rfl | exact idx_ok (by omega) (by omega)) rfl ?_
 refine S.countB (s := s) (c := c) Tryz.func208 (by kernel_rfl) (by kernel_rfl) (by kernel_rfl) (by kernel_rfl) rfl rfl rfl ?_
 refine S.pure tOk zOk rfl rfl rfl ?_
 refine thenK_n ?_
 refine W.ret ?_
 refine thenK_r ?_
 exact ⟨_, rfl, rfl, LeV.refl _⟩
theorem pc_BSReplace (s : List UInt8) (hs : s.length ≤ 4000000) :
  HCall Tryz.prog J 296 ([.one (.ptr 0 0), .one (.d (.str s))]) ([bsr]) ([some ⟨true, 2, 1, 9, [[.str [34]], [.str [92]]]⟩]) ([]) (isH (.one (.d (.str (escB s)))) ([bsr]) ([some ⟨true, 2, 1, 9, [[.str [34]], [.str [92]]]⟩]) ([])) := by
 have hc34 := cnt_le s 34
 have hc92 := cnt_le s 92
 have hel := esc_len s
 have hle := esc_le s
 refine HCall.ofD tOk ⟨1, 1, 0⟩ (fn := Tryz.f296) Tryz.func296 (by kernel_rfl) rfl (Nat.le_of_ble_eq_true rfl) (fun E => ?_)
 refine W.seq ?_
 refine W.region ?_
 refine S.pure tOk zOk rfl rfl rfl ?_
 refine thenK_n ?_
 refine W.seq ?_
 refine W.region ?_
 refine S.pure tOk zOk rfl rfl rfl ?_
 refine S.pure tOk zOk rfl rfl rfl ?_
 refine S.pure tOk zOk rfl rfl rfl ?_
 refine thenK_n ?_
 refine W.seq ?_
 refine W.region ?_
 refine S.pure tOk zOk rfl rfl rfl ?_
 refine thenK_n ?_
 refine W.seq ?_
 refine W.seq ?_
 refine W.region ?_
 refine S.pure tOk zOk rfl rfl rfl ?_
 refine S.pure tOk zOk rfl rfl rfl ?_
 refine S.pure tOk zOk rfl rfl rfl ?_
 refine S.loadC tOk rfl rfl rfl rfl rfl (bsr_row rfl) ?_
 refine S.pure tOk zOk rfl rfl rfl ?_
 refine S.pure tOk zOk rfl rfl rfl ?_
 refine S.pure tOk zOk rfl rfl rfl ?_
 refine S.pure tOk zOk rfl rfl rfl ?_
 refine S.pure tOk zOk rfl rfl rfl ?_
 refine thenK_n ?_
 refine W.cond rfl (fun c1 => ?_) (fun c1 => ?_)
 ·skip
  refine W.seq ?_
  refine W.region ?_
  refine S.pure tOk zOk rfl rfl rfl ?_
  refine S.pure tOk zOk rfl rfl rfl ?_
  refine S.pure tOk zOk rfl rfl rfl ?_
  refine S.loadC tOk rfl rfl rfl rfl rfl (bsr_row rfl) ?_
  refine S.pure tOk zOk rfl rfl rfl ?_
  refine S.pure tOk zOk rfl rfl rfl ?_
  refine thenK_n ?_
  refine W.block ?_
  refine W.rounds 3 ?_
  refine WR.succ ?_
  refine W.seq ?_
  refine W.region ?_
  refine S.pure tOk zOk rfl rfl rfl ?_
  refine thenK_n ?_
  refine W.seq ?_
  refine W.condT rfl rfl ?_
  refine W.skip ?_
  refine thenK_n ?_
  refine W.seq ?_
  refine W.block ?_
  refine W.seq ?_
  refine W.region ?_
  refine S.pure tOk zOk rfl (by first | rfl | exact idx_ok (by omega) (by omega)) rfl ?_
  refine S.rload tOk rfl rfl rfl rfl rfl rfl ?_
  refine S.pure tOk zOk rfl rfl rfl ?_
  refine thenK_n ?_
  refine W.seq ?_
  refine W.region ?_
  refine S.pure tOk zOk rfl rfl rfl ?_
  refine S.pure tOk zOk rfl rfl rfl ?_
  refine S.call rfl rfl rfl rfl rfl (pc_Count1 s 34) ?_
  refine S.pure tOk zOk rfl rfl rfl ?_
  refine thenK_n ?_
  refine W.seq ?_
  refine W.region ?_
  refine S.pure tOk zOk rfl rfl rfl ?_
  refine S.pure tOk zOk rfl rfl rfl ?_
  refine thenK_n ?_
  refine W.cond rfl (fun c3 => ?_) (fun c3 => ?_)
  ·skip
   refine W.seq ?_
   refine W.regionS 13 mixed rfl (by kernel_rfl) ?_
   refine AnyZ.eager 0 rfl (by kernel_rfl) (Eag.pure tOk zOk rfl (fun _ _ _ => rfl) rfl rfl) ?_
   refine AnyZ.eager 1 rfl (by kernel_rfl) (Eag.pure tOk zOk rfl (fun _ _ _ => rfl) rfl rfl) ?_
   refine AnyZ.eager 2 rfl (by kernel_rfl) (Eag.pure tOk zOk rfl (fun _ _ _ => rfl) rfl rfl) ?_
   refine AnyZ.eager 3 rfl (by kernel_rfl) (Eag.pure tOk zOk rfl (fun _ _ _ => rfl) rfl rfl) ?_
   refine AnyZ.eager 4 rfl (by kernel_rfl) (Eag.pure tOk zOk rfl (fun _ _ _ => rfl) rfl rfl) ?_
   refine AnyZ.eager 5 rfl (by kernel_rfl) (Eag.pure tOk zOk rfl (fun _ _ _ => rfl) rfl rfl) ?_
   refine AnyZ.eager 6 rfl (by kernel_rfl) (Eag.pure tOk zOk rfl (fun _ _ _ => rfl) rfl rfl) ?_
   refine AnyZ.eager 7 rfl (by kernel_rfl) (Eag.pure tOk zOk rfl (fun _ _ _ => rfl) rfl rfl) ?_
   refine AnyZ.one 8 (by kernel_rfl) rfl ?_
   refine OpZ.loadC tOk rfl rfl rfl rfl rfl (by first | exact bsr_34 rfl | exact bsr_92 rfl) ?_
   refine AnyZ.eager 9 rfl (by kernel_rfl) (Eag.pure tOk zOk rfl (fun _ _ _ => rfl) rfl rfl) ?_
   refine AnyZ.eager 10 rfl (by kernel_rfl) (Eag.pure tOk zOk rfl (fun _ _ _ => congrArg (fun x => some (_, x)) (len_m1 _)) rfl rfl) ?_
   refine AnyZ.eager 11 rfl (by kernel_rfl) (Eag.pure tOk zOk rfl (fun _ _ _ => congrArg (fun x => some (_, x)) (mul_1 (by omega) (by omega))) rfl rfl) ?_
   refine AnyZ.eager 12 rfl (by kernel_rfl) (Eag.pure tOk zOk rfl (fun _ _ _ => congrArg (fun x => some (_, x)) (add_i (by omega) (by omega))) rfl rfl) ?_
   refine AnyZ.nil (by kernel_rfl) ?_
   refine S.pure tOk zOk rfl rfl rfl ?_
   refine thenK_n ?_
   refine W.region ?_
   refine S.pure tOk zOk rfl rfl rfl ?_
   refine blockK_n ?_
   refine thenK_n ?_
   refine W.region ?_
   refine S.pure tOk zOk rfl rfl rfl ?_
   refine S.pure tOk zOk rfl rfl rfl ?_
   refine thenK_n ?_
   refine WR.succ ?_
   refine W.seq ?_
   refine W.region ?_
   refine S.pure tOk zOk rfl rfl rfl ?_
   refine thenK_n ?_
   refine W.seq ?_
   refine W.condT rfl rfl ?_
   refine W.skip ?_
   refine thenK_n ?_
   refine W.seq ?_
   refine W.block ?_
   refine W.seq ?_
   refine W.region ?_
   refine S.pure tOk zOk rfl (by first | rfl | exact idx_ok (by omega) (by omega)) rfl ?_
   refine S.rload tOk rfl rfl rfl rfl rfl rfl ?_
   refine S.pure tOk zOk rfl rfl rfl ?_
   refine thenK_n ?_
   refine W.seq ?_
   refine W.region ?_
   refine S.pure tOk zOk rfl rfl rfl ?_
   refine S.pure tOk zOk rfl rfl rfl ?_
   refine S.call rfl rfl rfl rfl rfl (pc_Count1 s 92) ?_
   refine S.pure tOk zOk rfl rfl rfl ?_
   refine thenK_n ?_
   refine W.seq ?_
   refine W.region ?_
   refine S.pure tOk zOk rfl rfl rfl ?_
   refine S.pure tOk zOk rfl rfl rfl ?_
   refine thenK_n ?_
   refine W.cond rfl (fun c5 => ?_) (fun c5 => ?_)
   ·skip
    refine W.seq ?_
    refine W.regionS 13 mixed rfl (by kernel_rfl) ?_
    refine AnyZ.eager 0 rfl (by kernel_rfl) (Eag.pure tOk zOk rfl (fun _ _ _ => rfl) rfl rfl) ?_
    refine AnyZ.eager 1 rfl (by kernel_rfl) (Eag.pure tOk zOk rfl (fun _ _ _ => rfl) rfl rfl) ?_
    refine AnyZ.eager 2 rfl (by kernel_rfl) (Eag.pure tOk zOk rfl (fun _ _ _ => rfl) rfl rfl) ?_
    refine AnyZ.eager 3 rfl (by kernel_rfl) (Eag.pure tOk zOk rfl (fun _ _ _ => rfl) rfl rfl) ?_
    refine AnyZ.eager 4 rfl (by kernel_rfl) (Eag.pure tOk zOk rfl (fun _ _ _ => rfl) rfl rfl) ?_
    refine AnyZ.eager 5 rfl (by kernel_rfl) (Eag.pure tOk zOk rfl (fun _ _ _ => rfl) rfl rfl) ?_
    refine AnyZ.eager 6 rfl (by kernel_rfl) (Eag.pure tOk zOk rfl (fun _ _ _ => rfl) rfl rfl) ?_
    refine AnyZ.eager 7 rfl (by kernel_rfl) (Eag.pure tOk zOk rfl (fun _ _ _ => rfl) rfl rfl) ?_
    refine AnyZ.one 8 (by kernel_rfl) rfl ?_
    refine OpZ.loadC tOk rfl rfl rfl rfl rfl (by first | exact bsr_34 rfl | exact bsr_92 rfl) ?_
    refine AnyZ.eager 9 rfl (by kernel_rfl) (Eag.pure tOk zOk rfl (fun _ _ _ => rfl) rfl rfl) ?_
    refine AnyZ.eager 10 rfl (by kernel_rfl) (Eag.pure tOk zOk rfl (fun _ _ _ => congrArg (fun x => some (_, x)) (len_m1 _)) rfl rfl) ?_
    refine AnyZ.eager 11 rfl (by kernel_rfl) (Eag.pure tOk zOk rfl (fun _ _ _ => congrArg (fun x => some (_, x)) (mul_1 (by omega) (by omega))) rfl rfl) ?_
    refine AnyZ.eager 12 rfl (by kernel_rfl) (Eag.pure tOk zOk rfl (fun _ _ _ => congrArg (fun x => some (_, x)) (add_i (by omega) (by omega))) rfl rfl) ?_
    refine AnyZ.nil (by kernel_rfl) ?_
    refine S.pure tOk zOk rfl rfl rfl ?_
    refine thenK_n ?_
    refine W.region ?_
    refine S.pure tOk zOk rfl rfl rfl ?_
    refine blockK_n ?_
    refine thenK_n ?_
    refine W.region ?_
    refine S.pure tOk zOk rfl rfl rfl ?_
    refine S.pure tOk zOk rfl rfl rfl ?_
    refine thenK_n ?_
    refine WR.succ ?_
    refine W.seq ?_
    refine W.region ?_
    refine S.pure tOk zOk rfl rfl rfl ?_
    refine thenK_n ?_
    refine W.seq ?_
    refine W.condF rfl rfl ?_
    refine W.exit ?_
    refine thenK_e ?_
    refine thenK_e ?_
    refine blockK_x ?_
    refine thenK_n ?_
    refine W.seq ?_
    refine W.seq ?_
    refine W.region ?_
    refine S.pure tOk zOk rfl rfl rfl ?_
    refine S.pure tOk zOk rfl rfl rfl ?_
    refine thenK_n ?_
    refine W.cond rfl (fun c7 => ?_) (fun c7 => ?_)
    ·skip
     refine W.seq ?_
     refine W.region ?_
     refine S.pure tOk zOk rfl rfl rfl ?_
     refine S.pure tOk zOk rfl rfl rfl ?_
     refine thenK_n ?_
     refine W.ret ?_
     refine thenK_r ?_
     exact ⟨_, rfl, rfl, LeG.of_force rfl (by first | rfl | exact absurd (show (!true) = true by assumption) (by decide) | (rw [cnt_same (by omega) (by omega)]) | (rw [esc_same (an (by assumption))])), rfl, rfl, rfl⟩
    ·skip
     refine W.skip ?_
     refine thenK_n ?_
     refine W.seq ?_
     refine W.region ?_
     refine S.pureE tOk zOk rfl rfl (len_is (k := (escB s).length) (by first | omega | (rw [lenTo_end]))) rfl ?_
     refine S.makeSlice tOk (zd := [.int .u8 0]) (r' := [some ⟨true, 2, 1, 9, [[.str [34]], [.str [92]]]⟩, some ⟨true, 0, 1, 5, fillTo s 0⟩]) (escB s).length rfl rfl rfl rfl rfl rfl rfl (by omega) rfl (congrArg (fun z => [some (RowO.mk true 2 1 9 [[D.str [34]], [D.str [92]]]), some (RowO.mk true 0 1 5 z)]) (fill_0 s)) ?_
     refine S.pure tOk zOk rfl rfl rfl ?_
     refine thenK_n ?_
     refine W.seq ?_
     refine W.region ?_
     refine S.pure tOk zOk rfl rfl rfl ?_
     refine thenK_n ?_
     refine W.seq ?_
     refine W.seq ?_
     refine W.region ?_
     refine S.pure tOk zOk rfl rfl rfl ?_
     refine thenK_n ?_
     refine W.block ?_
     refine W.loop (fun k st => ∃ i : Nat, i ≤ s.length ∧ k = s.length - i ∧ ∃ t b2 r2 m2, st = ⟨t, [bsr] ++ b2, [some ⟨true, 2, 1, 9, [[.str [34]], [.str [92]]]⟩, some ⟨true, 0, 1, 5, fillTo s i⟩] ++ r2, [] ++ m2⟩ ∧ holdsL t [(0, .one (.ptr 0 0)), (1, .one (.d (.str s))), (12, .one (.row 1 0 0 (escB s).length)), (13, .one (.d (.int .i64 ((escB (s.take i)).length : Int)))), (14, .one (.d (.int .i64 (i : Int))))]) (s.length) ⟨0, Nat.zero_le _, rfl, _, _, _, _, rfl, rfl, rfl, rfl, (len_t0 s), rfl, trivial⟩ ?_
     rintro k4 _ ⟨i, f4_0, rfl, t4, bb4, rr4, mm4, rfl, hh4⟩
     refine W.keepR _ _ _ _ _ _ _ hh4 rfl ?_
     refine W.seq ?_
     refine W.seq ?_
     refine W.region ?_
     refine S.pure tOk zOk rfl rfl rfl ?_
     refine S.pure tOk zOk rfl rfl rfl ?_
     refine S.pure tOk zOk rfl rfl rfl ?_
     refine S.pure tOk zOk rfl rfl rfl ?_
     refine thenK_n ?_
     refine W.cond rfl (fun c8 => ?_) (fun c8 => ?_)
     ·skip
      have hi := s_lt (by assumption)
      have hlt := escTake_lt hi
      rw [esc1_len] at hlt
      refine W.skip ?_
      refine thenK_n ?_
      refine W.seq ?_
      refine W.block ?_
      refine W.seq ?_
      refine W.region ?_
      refine S.pure tOk zOk rfl rfl rfl ?_
      refine S.pure tOk zOk rfl rfl rfl ?_
      refine S.pure tOk zOk rfl (str_ok hi) rfl ?_
      refine S.pure tOk zOk rfl rfl rfl ?_
      refine thenK_n ?_
      refine W.seq ?_
      refine W.region ?_
      refine S.pure tOk zOk rfl rfl rfl ?_
      refine S.pure tOk zOk rfl rfl rfl ?_
      refine S.pure tOk zOk rfl rfl rfl ?_
      refine S.pure tOk zOk rfl rfl rfl ?_
      refine S.pure tOk zOk rfl (arr_ok _) rfl ?_
      refine S.loadC tOk rfl rfl rfl rfl rfl (bsr_at (s.getD i 0) (off_is (s.getD i 0))) ?_
      refine S.notNilD tOk (!spec (s.getD i 0)) (replD_nil _) rfl rfl rfl ?_
      refine thenK_n ?_
      refine W.cond rfl (fun c9 => ?_) (fun c9 => ?_)
      ·skip
       have hsp : spec (s.getD i 0) = true := nn (by assumption)
       rw [if_pos hsp] at hlt
       refine W.regionS 12 mixed rfl (by kernel_rfl) ?_
       refine AnyZ.eager 0 rfl (by kernel_rfl) (Eag.pure tOk zOk rfl (fun _ _ _ => rfl) rfl rfl) ?_
       refine AnyZ.eager 1 rfl (by kernel_rfl) (Eag.pure tOk zOk rfl (fun _ _ _ => rfl) rfl rfl) ?_
       refine AnyZ.eager 2 rfl (by kernel_rfl) (Eag.pure tOk zOk rfl (fun _ _ _ => rfl) rfl rfl) ?_
       refine AnyZ.eager 4 rfl (by kernel_rfl) (Eag.pure tOk zOk rfl (fun _ _ _ => rfl) rfl rfl) ?_
       refine AnyZ.eager 5 rfl (by kernel_rfl) (Eag.pure tOk zOk rfl (fun _ _ _ => rfl) rfl rfl) ?_
       refine AnyZ.eager 6 rfl (by kernel_rfl) (Eag.pure tOk zOk rfl (fun _ _ _ => rfl) rfl rfl) ?_
       refine AnyZ.eager 7 rfl (by kernel_rfl) (Eag.pure tOk zOk rfl (fun _ _ _ => rfl) rfl rfl) ?_
       refine AnyZ.eager 8 rfl (by kernel_rfl) (Eag.pure tOk zOk rfl (fun _ _ _ => rfl) (arr_ok _) rfl) ?_
       refine AnyZ.two 3 9 (by kernel_rfl) rfl rfl ?_ ?_
       ·skip
        refine OpZ.sliceRow tOk (escB (s.take i)).length rfl rfl rfl rfl rfl rfl rfl (by omega) (Nat.zero_add _) rfl ?_
        refine AnyZ.one 9 (by kernel_rfl) rfl ?_
        refine OpZ.loadC tOk rfl rfl rfl rfl rfl (bsr_sp hsp (off_is (s.getD i 0))) ?_
        refine AnyZ.one 10 (by kernel_rfl) rfl ?_
        refine OpZ.copyRow tOk (news := [.int .u8 ((92 : UInt8).toNat : Int), .int .u8 ((s.getD i 0).toNat : Int)]) rfl rfl rfl rfl rfl rfl rfl rfl (by simp) (show 2 ≤ _ by omega) (fill_s hi hsp) rfl ?_
        refine AnyZ.eager 11 rfl (by kernel_rfl) (Eag.pure tOk zOk rfl (fun _ _ _ => congrArg (fun x => some (_, x)) (esc_add hi hsp hs)) rfl rfl) ?_
        refine AnyZ.nil (by kernel_rfl) ?_
        refine S.pure tOk zOk rfl rfl rfl ?_
        refine blockK_n ?_
        refine thenK_n ?_
        refine W.region ?_
        refine S.pure tOk zOk rfl rfl rfl ?_
        refine S.pure tOk zOk rfl rfl rfl ?_
        refine S.pure tOk zOk rfl rfl rfl ?_
        refine loop_n (s.length - (i + 1)) (by omega) ⟨i + 1, hi, rfl, _, _, _, _, rfl, rfl, rfl, rfl, rfl, inc_i64 (by omega), trivial⟩
       ·skip
        refine OpZ.loadC tOk rfl rfl rfl rfl rfl (bsr_sp hsp (off_is (s.getD i 0))) ?_
        refine AnyZ.one 3 (by kernel_rfl) rfl ?_
        refine OpZ.sliceRow tOk (escB (s.take i)).length rfl rfl rfl rfl rfl rfl rfl (by omega) (Nat.zero_add _) rfl ?_
        refine AnyZ.one 10 (by kernel_rfl) rfl ?_
        refine OpZ.copyRow tOk (news := [.int .u8 ((92 : UInt8).toNat : Int), .int .u8 ((s.getD i 0).toNat : Int)]) rfl rfl rfl rfl rfl rfl rfl rfl (by simp) (show 2 ≤ _ by omega) (fill_s hi hsp) rfl ?_
        refine AnyZ.eager 11 rfl (by kernel_rfl) (Eag.pure tOk zOk rfl (fun _ _ _ => congrArg (fun x => some (_, x)) (esc_add hi hsp hs)) rfl rfl) ?_
        refine AnyZ.nil (by kernel_rfl) ?_
        refine S.pure tOk zOk rfl rfl rfl ?_
        refine blockK_n ?_
        refine thenK_n ?_
        refine W.region ?_
        refine S.pure tOk zOk rfl rfl rfl ?_
        refine S.pure tOk zOk rfl rfl rfl ?_
        refine S.pure tOk zOk rfl rfl rfl ?_
        refine loop_n (s.length - (i + 1)) (by omega) ⟨i + 1, hi, rfl, _, _, _, _, rfl, rfl, rfl, rfl, rfl, inc_i64 (by omega), trivial⟩
      ·skip
       have hsp : spec (s.getD i 0) = false := nf (by assumption)
       rw [if_neg (by rw [hsp]; simp)] at hlt
       refine W.seq ?_
       refine W.region ?_
       refine S.pure tOk zOk rfl rfl rfl ?_
       refine S.pure tOk zOk rfl rfl rfl ?_
       refine S.pure tOk zOk rfl rfl rfl ?_
       refine S.pure tOk zOk rfl (idx_ok (Int.natCast_nonneg _) (by omega)) rfl ?_
       refine S.rstore tOk rfl rfl rfl rfl rfl rfl rfl (fill_set (by simp) hi hsp) rfl ?_
       refine thenK_n ?_
       refine W.region ?_
       refine S.pure tOk zOk rfl rfl rfl ?_
       refine S.pureE tOk zOk rfl rfl (esc_inc hi hsp hs) rfl ?_
       refine S.pure tOk zOk rfl rfl rfl ?_
       refine blockK_n ?_
       refine thenK_n ?_
       refine W.region ?_
       refine S.pure tOk zOk rfl rfl rfl ?_
       refine S.pure tOk zOk rfl rfl rfl ?_
       refine S.pure tOk zOk rfl rfl rfl ?_
       refine loop_n (s.length - (i + 1)) (by omega) ⟨i + 1, hi, rfl, _, _, _, _, rfl, rfl, rfl, rfl, rfl, inc_i64 (by omega), trivial⟩
     ·skip
      have hi := s_ge (by assumption)
      obtain rfl : i = s.length := by omega
      refine W.exit ?_
      refine thenK_e ?_
      refine thenK_e ?_
      refine blockK_x ?_
      refine thenK_n ?_
      refine W.seq ?_
      refine W.region ?_
      refine S.pure tOk zOk rfl rfl rfl ?_
      refine S.convRow (sz := 1) tOk (escB s) rfl rfl rfl rfl rfl rfl rfl (congrArg (fun z => some (some (RowO.mk true 0 1 5 z))) (fill_end s)) rfl ?_
      refine S.pure tOk zOk rfl rfl rfl ?_
      refine thenK_n ?_
      refine W.ret ?_
      exact ⟨_, rfl, rfl, LeG.of_force rfl (by first | rfl | exact absurd (show (!true) = true by assumption) (by decide) | (rw [cnt_same (by omega) (by omega)]) | (rw [esc_same (an (by assumption))])), rfl, rfl, rfl⟩
   ·skip
    have hz := cz (by assumption)
    refine W.skip ?_
    refine blockK_n ?_
    refine thenK_n ?_
    refine W.region ?_
    refine S.pure tOk zOk rfl rfl rfl ?_
    refine S.pure tOk zOk rfl rfl rfl ?_
    refine thenK_n ?_
    refine WR.succ ?_
    refine W.seq ?_
    refine W.region ?_
    refine S.pure tOk zOk rfl rfl rfl ?_
    refine thenK_n ?_
    refine W.seq ?_
    refine W.condF rfl rfl ?_
    refine W.exit ?_
    refine thenK_e ?_
    refine thenK_e ?_
    refine blockK_x ?_
    refine thenK_n ?_
    refine W.seq ?_
    refine W.seq ?_
    refine W.region ?_
    refine S.pure tOk zOk rfl rfl rfl ?_
    refine S.pure tOk zOk rfl rfl rfl ?_
    refine thenK_n ?_
    refine W.cond rfl (fun c11 => ?_) (fun c11 => ?_)
    ·skip
     refine W.seq ?_
     refine W.region ?_
     refine S.pure tOk zOk rfl rfl rfl ?_
     refine S.pure tOk zOk rfl rfl rfl ?_
     refine thenK_n ?_
     refine W.ret ?_
     refine thenK_r ?_
     exact ⟨_, rfl, rfl, LeG.of_force rfl (by first | rfl | exact absurd (show (!true) = true by assumption) (by decide) | (rw [cnt_same (by omega) (by omega)]) | (rw [esc_same (an (by assumption))])), rfl, rfl, rfl⟩
    ·skip
     refine W.skip ?_
     refine thenK_n ?_
     refine W.seq ?_
     refine W.region ?_
     refine S.pureE tOk zOk rfl rfl (len_is (k := (escB s).length) (by first | omega | (rw [lenTo_end]))) rfl ?_
     refine S.makeSlice tOk (zd := [.int .u8 0]) (r' := [some ⟨true, 2, 1, 9, [[.str [34]], [.str [92]]]⟩, some ⟨true, 0, 1, 5, fillTo s 0⟩]) (escB s).length rfl rfl rfl rfl rfl rfl rfl (by omega) rfl (congrArg (fun z => [some (RowO.mk true 2 1 9 [[D.str [34]], [D.str [92]]]), some (RowO.mk true 0 1 5 z)]) (fill_0 s)) ?_
     refine S.pure tOk zOk rfl rfl rfl ?_
     refine thenK_n ?_
     refine W.seq ?_
     refine W.region ?_
     refine S.pure tOk zOk rfl rfl rfl ?_
     refine thenK_n ?_
     refine W.seq ?_
     refine W.seq ?_
     refine W.region ?_
     refine S.pure tOk zOk rfl rfl rfl ?_
     refine thenK_n ?_
     refine W.block ?_
     refine W.loop (fun k st => ∃ i : Nat, i ≤ s.length ∧ k = s.length - i ∧ ∃ t b2 r2 m2, st = ⟨t, [bsr] ++ b2, [some ⟨true, 2, 1, 9, [[.str [34]], [.str [92]]]⟩, some ⟨true, 0, 1, 5, fillTo s i⟩] ++ r2, [] ++ m2⟩ ∧ holdsL t [(0, .one (.ptr 0 0)), (1, .one (.d (.str s))), (12, .one (.row 1 0 0 (escB s).length)), (13, .one (.d (.int .i64 ((escB (s.take i)).length : Int)))), (14, .one (.d (.int .i64 (i : Int))))]) (s.length) ⟨0, Nat.zero_le _, rfl, _, _, _, _, rfl, rfl, rfl, rfl, (len_t0 s), rfl, trivial⟩ ?_
     rintro k4 _ ⟨i, f4_0, rfl, t4, bb4, rr4, mm4, rfl, hh4⟩
     refine W.keepR _ _ _ _ _ _ _ hh4 rfl ?_
     refine W.seq ?_
     refine W.seq ?_
     refine W.region ?_
     refine S.pure tOk zOk rfl rfl rfl ?_
     refine S.pure tOk zOk rfl rfl rfl ?_
     refine S.pure tOk zOk rfl rfl rfl ?_
     refine S.pure tOk zOk rfl rfl rfl ?_
     refine thenK_n ?_
     refine W.cond rfl (fun c12 => ?_) (fun c12 => ?_)
     ·skip
      have hi := s_lt (by assumption)
      have hlt := escTake_lt hi
      rw [esc1_len] at hlt
      refine W.skip ?_
      refine thenK_n ?_
      refine W.seq ?_
      refine W.block ?_
      refine W.seq ?_
      refine W.region ?_
      refine S.pure tOk zOk rfl rfl rfl ?_
      refine S.pure tOk zOk rfl rfl rfl ?_
      refine S.pure tOk zOk rfl (str_ok hi) rfl ?_
      refine S.pure tOk zOk rfl rfl rfl ?_
      refine thenK_n ?_
      refine W.seq ?_
      refine W.region ?_
      refine S.pure tOk zOk rfl rfl rfl ?_
      refine S.pure tOk zOk rfl rfl rfl ?_
      refine S.pure tOk zOk rfl rfl rfl ?_
      refine S.pure tOk zOk rfl rfl rfl ?_
      refine S.pure tOk zOk rfl (arr_ok _) rfl ?_
      refine S.loadC tOk rfl rfl rfl rfl rfl (bsr_at (s.getD i 0) (off_is (s.getD i 0))) ?_
      refine S.notNilD tOk (!spec (s.getD i 0)) (replD_nil _) rfl rfl rfl ?_
      refine thenK_n ?_
      refine W.cond rfl (fun c13 => ?_) (fun c13 => ?_)
      ·skip
       have hsp : spec (s.getD i 0) = true := nn (by assumption)
       rw [if_pos hsp] at hlt
       refine W.regionS 12 mixed rfl (by kernel_rfl) ?_
       refine AnyZ.eager 0 rfl (by kernel_rfl) (Eag.pure tOk zOk rfl (fun _ _ _ => rfl) rfl rfl) ?_
       refine AnyZ.eager 1 rfl (by kernel_rfl) (Eag.pure tOk zOk rfl (fun _ _ _ => rfl) rfl rfl) ?_
       refine AnyZ.eager 2 rfl (by kernel_rfl) (Eag.pure tOk zOk rfl (fun _ _ _ => rfl) rfl rfl) ?_
       refine AnyZ.eager 4 rfl (by kernel_rfl) (Eag.pure tOk zOk rfl (fun _ _ _ => rfl) rfl rfl) ?_
       refine AnyZ.eager 5 rfl (by kernel_rfl) (Eag.pure tOk zOk rfl (fun _ _ _ => rfl) rfl rfl) ?_
       refine AnyZ.eager 6 rfl (by kernel_rfl) (Eag.pure tOk zOk rfl (fun _ _ _ => rfl) rfl rfl) ?_
       refine AnyZ.eager 7 rfl (by kernel_rfl) (Eag.pure tOk zOk rfl (fun _ _ _ => rfl) rfl rfl) ?_
       refine AnyZ.eager 8 rfl (by kernel_rfl) (Eag.pure tOk zOk rfl (fun _ _ _ => rfl) (arr_ok _) rfl) ?_
       refine AnyZ.two 3 9 (by kernel_rfl) rfl rfl ?_ ?_
       ·skip
        refine OpZ.sliceRow tOk (escB (s.take i)).length rfl rfl rfl rfl rfl rfl rfl (by omega) (Nat.zero_add _) rfl ?_
        refine AnyZ.one 9 (by kernel_rfl) rfl ?_
        refine OpZ.loadC tOk rfl rfl rfl rfl rfl (bsr_sp hsp (off_is (s.getD i 0))) ?_
        refine AnyZ.one 10 (by kernel_rfl) rfl ?_
        refine OpZ.copyRow tOk (news := [.int .u8 ((92 : UInt8).toNat : Int), .int .u8 ((s.getD i 0).toNat : Int)]) rfl rfl rfl rfl rfl rfl rfl rfl (by simp) (show 2 ≤ _ by omega) (fill_s hi hsp) rfl ?_
        refine AnyZ.eager 11 rfl (by kernel_rfl) (Eag.pure tOk zOk rfl (fun _ _ _ => congrArg (fun x => some (_, x)) (esc_add hi hsp hs)) rfl rfl) ?_
        refine AnyZ.nil (by kernel_rfl) ?_
        refine S.pure tOk zOk rfl rfl rfl ?_
        refine blockK_n ?_
        refine thenK_n ?_
        refine W.region ?_
        refine S.pure tOk zOk rfl rfl rfl ?_
        refine S.pure tOk zOk rfl rfl rfl ?_
        refine S.pure tOk zOk rfl rfl rfl ?_
        refine loop_n (s.length - (i + 1)) (by omega) ⟨i + 1, hi, rfl, _, _, _, _, rfl, rfl, rfl, rfl, rfl, inc_i64 (by omega), trivial⟩
       ·skip
        refine OpZ.loadC tOk rfl rfl rfl rfl rfl (bsr_sp hsp (off_is (s.getD i 0))) ?_
        refine AnyZ.one 3 (by kernel_rfl) rfl ?_
        refine OpZ.sliceRow tOk (escB (s.take i)).length rfl rfl rfl rfl rfl rfl rfl (by omega) (Nat.zero_add _) rfl ?_
        refine AnyZ.one 10 (by kernel_rfl) rfl ?_
        refine OpZ.copyRow tOk (news := [.int .u8 ((92 : UInt8).toNat : Int), .int .u8 ((s.getD i 0).toNat : Int)]) rfl rfl rfl rfl rfl rfl rfl rfl (by simp) (show 2 ≤ _ by omega) (fill_s hi hsp) rfl ?_
        refine AnyZ.eager 11 rfl (by kernel_rfl) (Eag.pure tOk zOk rfl (fun _ _ _ => congrArg (fun x => some (_, x)) (esc_add hi hsp hs)) rfl rfl) ?_
        refine AnyZ.nil (by kernel_rfl) ?_
        refine S.pure tOk zOk rfl rfl rfl ?_
        refine blockK_n ?_
        refine thenK_n ?_
        refine W.region ?_
        refine S.pure tOk zOk rfl rfl rfl ?_
        refine S.pure tOk zOk rfl rfl rfl ?_
        refine S.pure tOk zOk rfl rfl rfl ?_
        refine loop_n (s.length - (i + 1)) (by omega) ⟨i + 1, hi, rfl, _, _, _, _, rfl, rfl, rfl, rfl, rfl, inc_i64 (by omega), trivial⟩
      ·skip
       have hsp : spec (s.getD i 0) = false := nf (by assumption)
       rw [if_neg (by rw [hsp]; simp)] at hlt
       refine W.seq ?_
       refine W.region ?_
       refine S.pure tOk zOk rfl rfl rfl ?_
       refine S.pure tOk zOk rfl rfl rfl ?_
       refine S.pure tOk zOk rfl rfl rfl ?_
       refine S.pure tOk zOk rfl (idx_ok (Int.natCast_nonneg _) (by omega)) rfl ?_
       refine S.rstore tOk rfl rfl rfl rfl rfl rfl rfl (fill_set (by simp) hi hsp) rfl ?_
       refine thenK_n ?_
       refine W.region ?_
       refine S.pure tOk zOk rfl rfl rfl ?_
       refine S.pureE tOk zOk rfl rfl (esc_inc hi hsp hs) rfl ?_
       refine S.pure tOk zOk rfl rfl rfl ?_
       refine blockK_n ?_
       refine thenK_n ?_
       refine W.region ?_
       refine S.pure tOk zOk rfl rfl rfl ?_
       refine S.pure tOk zOk rfl rfl rfl ?_
       refine S.pure tOk zOk rfl rfl rfl ?_
       refine loop_n (s.length - (i + 1)) (by omega) ⟨i + 1, hi, rfl, _, _, _, _, rfl, rfl, rfl, rfl, rfl, inc_i64 (by omega), trivial⟩
     ·skip
      have hi := s_ge (by assumption)
      obtain rfl : i = s.length := by omega
      refine W.exit ?_
      refine thenK_e ?_
      refine thenK_e ?_
      refine blockK_x ?_
      refine thenK_n ?_
      refine W.seq ?_
      refine W.region ?_
      refine S.pure tOk zOk rfl rfl rfl ?_
      refine S.convRow (sz := 1) tOk (escB s) rfl rfl rfl rfl rfl rfl rfl (congrArg (fun z => some (some (RowO.mk true 0 1 5 z))) (fill_end s)) rfl ?_
      refine S.pure tOk zOk rfl rfl rfl ?_
      refine thenK_n ?_
      refine W.ret ?_
      exact ⟨_, rfl, rfl, LeG.of_force rfl (by first | rfl | exact absurd (show (!true) = true by assumption) (by decide) | (rw [cnt_same (by omega) (by omega)]) | (rw [esc_same (an (by assumption))])), rfl, rfl, rfl⟩
  ·skip
   have hz := cz (by assumption)
   refine W.skip ?_
   refine blockK_n ?_
   refine thenK_n ?_
   refine W.region ?_
   refine S.pure tOk zOk rfl rfl rfl ?_
   refine S.pure tOk zOk rfl rfl rfl ?_
   refine thenK_n ?_
   refine WR.succ ?_
   refine W.seq ?_
   refine W.region ?_
   refine S.pure tOk zOk rfl rfl rfl ?_
   refine thenK_n ?_
   refine W.seq ?_
   refine W.condT rfl rfl ?_
   refine W.skip ?_
   refine thenK_n ?_
   refine W.seq ?_
   refine W.block ?_
   refine W.seq ?_
   refine W.region ?_
   refine S.pure tOk zOk rfl (by first | rfl | exact idx_ok (by omega) (by omega)) rfl ?_
   refine S.rload tOk rfl rfl rfl rfl rfl rfl ?_
   refine S.pure tOk zOk rfl rfl rfl ?_
   refine thenK_n ?_
   refine W.seq ?_
   refine W.region ?_
   refine S.pure tOk zOk rfl rfl rfl ?_
   refine S.pure tOk zOk rfl rfl rfl ?_
   refine S.call rfl rfl rfl rfl rfl (pc_Count1 s 92) ?_
   refine S.pure tOk zOk rfl rfl rfl ?_
   refine thenK_n ?_
   refine W.seq ?_
   refine W.region ?_
   refine S.pure tOk zOk rfl rfl rfl ?_
   refine S.pure tOk zOk rfl rfl rfl ?_
   refine thenK_n ?_
   refine W.cond rfl (fun c15 => ?_) (fun c15 => ?_)
   ·skip
    refine W.seq ?_
    refine W.regionS 13 mixed rfl (by kernel_rfl) ?_
    refine AnyZ.eager 0 rfl (by kernel_rfl) (Eag.pure tOk zOk rfl (fun _ _ _ => rfl) rfl rfl) ?_
    refine AnyZ.eager 1 rfl (by kernel_rfl) (Eag.pure tOk zOk rfl (fun _ _ _ => rfl) rfl rfl) ?_
    refine AnyZ.eager 2 rfl (by kernel_rfl) (Eag.pure tOk zOk rfl (fun _ _ _ => rfl) rfl rfl) ?_
    refine AnyZ.eager 3 rfl (by kernel_rfl) (Eag.pure tOk zOk rfl (fun _ _ _ => rfl) rfl rfl) ?_
    refine AnyZ.eager 4 rfl (by kernel_rfl) (Eag.pure tOk zOk rfl (fun _ _ _ => rfl) rfl rfl) ?_
    refine AnyZ.eager 5 rfl (by kernel_rfl) (Eag.pure tOk zOk rfl (fun _ _ _ => rfl) rfl rfl) ?_
    refine AnyZ.eager 6 rfl (by kernel_rfl) (Eag.pure tOk zOk rfl (fun _ _ _ => rfl) rfl rfl) ?_
    refine AnyZ.eager 7 rfl (by kernel_rfl) (Eag.pure tOk zOk rfl (fun _ _ _ => rfl) rfl rfl) ?_
    refine AnyZ.one 8 (by kernel_rfl) rfl ?_
    refine OpZ.loadC tOk rfl rfl rfl rfl rfl (by first | exact bsr_34 rfl | exact bsr_92 rfl) ?_
    refine AnyZ.eager 9 rfl (by kernel_rfl) (Eag.pure tOk zOk rfl (fun _ _ _ => rfl) rfl rfl) ?_
    refine AnyZ.eager 10 rfl (by kernel_rfl) (Eag.pure tOk zOk rfl (fun _ _ _ => congrArg (fun x => some (_, x)) (len_m1 _)) rfl rfl) ?_
    refine AnyZ.eager 11 rfl (by kernel_rfl) (Eag.pure tOk zOk rfl (fun _ _ _ => congrArg (fun x => some (_, x)) (mul_1 (by omega) (by omega))) rfl rfl) ?_
    refine AnyZ.eager 12 rfl (by kernel_rfl) (Eag.pure tOk zOk rfl (fun _ _ _ => congrArg (fun x => some (_, x)) (add_i (by omega) (by omega))) rfl rfl) ?_
    refine AnyZ.nil (by kernel_rfl) ?_
    refine S.pure tOk zOk rfl rfl rfl ?_
    refine thenK_n ?_
    refine W.region ?_
    refine S.pure tOk zOk rfl rfl rfl ?_
    refine blockK_n ?_
    refine thenK_n ?_
    refine W.region ?_
    refine S.pure tOk zOk rfl rfl rfl ?_
    refine S.pure tOk zOk rfl rfl rfl ?_
    refine thenK_n ?_
    refine WR.succ ?_
    refine W.seq ?_
    refine W.region ?_
    refine S.pure tOk zOk rfl rfl rfl ?_
    refine thenK_n ?_
    refine W.seq ?_
    refine W.condF rfl rfl ?_
    refine W.exit ?_
    refine thenK_e ?_
    refine thenK_e ?_
    refine blockK_x ?_
    refine thenK_n ?_
    refine W.seq ?_
    refine W.seq ?_
    refine W.region ?_
    refine S.pure tOk zOk rfl rfl rfl ?_
    refine S.pure tOk zOk rfl rfl rfl ?_
    refine thenK_n ?_
    refine W.cond rfl (fun c17 => ?_) (fun c17 => ?_)
    ·skip
     refine W.seq ?_
     refine W.region ?_
     refine S.pure tOk zOk rfl rfl rfl ?_
     refine S.pure tOk zOk rfl rfl rfl ?_
     refine thenK_n ?_
     refine W.ret ?_
     refine thenK_r ?_
     exact ⟨_, rfl, rfl, LeG.of_force rfl (by first | rfl | exact absurd (show (!true) = true by assumption) (by decide) | (rw [cnt_same (by omega) (by omega)]) | (rw [esc_same (an (by assumption))])), rfl, rfl, rfl⟩
    ·skip
     refine W.skip ?_
     refine thenK_n ?_
     refine W.seq ?_
     refine W.region ?_
     refine S.pureE tOk zOk rfl rfl (len_is (k := (escB s).length) (by first | omega | (rw [lenTo_end]))) rfl ?_
     refine S.makeSlice tOk (zd := [.int .u8 0]) (r' := [some ⟨true, 2, 1, 9, [[.str [34]], [.str [92]]]⟩, some ⟨true, 0, 1, 5, fillTo s 0⟩]) (escB s).length rfl rfl rfl rfl rfl rfl rfl (by omega) rfl (congrArg (fun z => [some (RowO.mk true 2 1 9 [[D.str [34]], [D.str [92]]]), some (RowO.mk true 0 1 5 z)]) (fill_0 s)) ?_
     refine S.pure tOk zOk rfl rfl rfl ?_
     refine thenK_n ?_
     refine W.seq ?_
     refine W.region ?_
     refine S.pure tOk zOk rfl rfl rfl ?_
     refine thenK_n ?_
     refine W.seq ?_
     refine W.seq ?_
     refine W.region ?_
     refine S.pure tOk zOk rfl rfl rfl ?_
     refine thenK_n ?_
     refine W.block ?_
     refine W.loop (fun k st => ∃ i : Nat, i ≤ s.length ∧ k = s.length - i ∧ ∃ t b2 r2 m2, st = ⟨t, [bsr] ++ b2, [some ⟨true, 2, 1, 9, [[.str [34]], [.str [92]]]⟩, some ⟨true, 0, 1, 5, fillTo s i⟩] ++ r2, [] ++ m2⟩ ∧ holdsL t [(0, .one (.ptr 0 0)), (1, .one (.d (.str s))), (12, .one (.row 1 0 0 (escB s).length)), (13, .one (.d (.int .i64 ((escB (s.take i)).length : Int)))), (14, .one (.d (.int .i64 (i : Int))))]) (s.length) ⟨0, Nat.zero_le _, rfl, _, _, _, _, rfl, rfl, rfl, rfl, (len_t0 s), rfl, trivial⟩ ?_
     rintro k4 _ ⟨i, f4_0, rfl, t4, bb4, rr4, mm4, rfl, hh4⟩
     refine W.keepR _ _ _ _ _ _ _ hh4 rfl ?_
     refine W.seq ?_
     refine W.seq ?_
     refine W.region ?_
     refine S.pure tOk zOk rfl rfl rfl ?_
     refine S.pure tOk zOk rfl rfl rfl ?_
     refine S.pure tOk zOk rfl rfl rfl ?_
     refine S.pure tOk zOk rfl rfl rfl ?_
     refine thenK_n ?_
     refine W.cond rfl (fun c18 => ?_) (fun c18 => ?_)
     ·skip
      have hi := s_lt (by assumption)
      have hlt := escTake_lt hi
      rw [esc1_len] at hlt
      refine W.skip ?_
      refine thenK_n ?_
      refine W.seq ?_
      refine W.block ?_
      refine W.seq ?_
      refine W.region ?_
      refine S.pure tOk zOk rfl rfl rfl ?_
      refine S.pure tOk zOk rfl rfl rfl ?_
      refine S.pure tOk zOk rfl (str_ok hi) rfl ?_
      refine S.pure tOk zOk rfl rfl rfl ?_
      refine thenK_n ?_
      refine W.seq ?_
      refine W.region ?_
      refine S.pure tOk zOk rfl rfl rfl ?_
      refine S.pure tOk zOk rfl rfl rfl ?_
      refine S.pure tOk zOk rfl rfl rfl ?_
      refine S.pure tOk zOk rfl rfl rfl ?_
      refine S.pure tOk zOk rfl (arr_ok _) rfl ?_
      refine S.loadC tOk rfl rfl rfl rfl rfl (bsr_at (s.getD i 0) (off_is (s.getD i 0))) ?_
      refine S.notNilD tOk (!spec (s.getD i 0)) (replD_nil _) rfl rfl rfl ?_
      refine thenK_n ?_
      refine W.cond rfl (fun c19 => ?_) (fun c19 => ?_)
      ·skip
       have hsp : spec (s.getD i 0) = true := nn (by assumption)
       rw [if_pos hsp] at hlt
       refine W.regionS 12 mixed rfl (by kernel_rfl) ?_
       refine AnyZ.eager 0 rfl (by kernel_rfl) (Eag.pure tOk zOk rfl (fun _ _ _ => rfl) rfl rfl) ?_
       refine AnyZ.eager 1 rfl (by kernel_rfl) (Eag.pure tOk zOk rfl (fun _ _ _ => rfl) rfl rfl) ?_
       refine AnyZ.eager 2 rfl (by kernel_rfl) (Eag.pure tOk zOk rfl (fun _ _ _ => rfl) rfl rfl) ?_
       refine AnyZ.eager 4 rfl (by kernel_rfl) (Eag.pure tOk zOk rfl (fun _ _ _ => rfl) rfl rfl) ?_
       refine AnyZ.eager 5 rfl (by kernel_rfl) (Eag.pure tOk zOk rfl (fun _ _ _ => rfl) rfl rfl) ?_
       refine AnyZ.eager 6 rfl (by kernel_rfl) (Eag.pure tOk zOk rfl (fun _ _ _ => rfl) rfl rfl) ?_
       refine AnyZ.eager 7 rfl (by kernel_rfl) (Eag.pure tOk zOk rfl (fun _ _ _ => rfl) rfl rfl) ?_
       refine AnyZ.eager 8 rfl (by kernel_rfl) (Eag.pure tOk zOk rfl (fun _ _ _ => rfl) (arr_ok _) rfl) ?_
       refine AnyZ.two 3 9 (by kernel_rfl) rfl rfl ?_ ?_
       ·skip
        refine OpZ.sliceRow tOk (escB (s.take i)).length rfl rfl rfl rfl rfl rfl rfl (by omega) (Nat.zero_add _) rfl ?_
        refine AnyZ.one 9 (by kernel_rfl) rfl ?_
        refine OpZ.loadC tOk rfl rfl rfl rfl rfl (bsr_sp hsp (off_is (s.getD i 0))) ?_
        refine AnyZ.one 10 (by kernel_rfl) rfl ?_
        refine OpZ.copyRow tOk (news := [.int .u8 ((92 : UInt8).toNat : Int), .int .u8 ((s.getD i 0).toNat : Int)]) rfl rfl rfl rfl rfl rfl rfl rfl (by simp) (show 2 ≤ _ by omega) (fill_s hi hsp) rfl ?_
        refine AnyZ.eager 11 rfl (by kernel_rfl) (Eag.pure tOk zOk rfl (fun _ _ _ => congrArg (fun x => some (_, x)) (esc_add hi hsp hs)) rfl rfl) ?_
        refine AnyZ.nil (by kernel_rfl) ?_
        refine S.pure tOk zOk rfl rfl rfl ?_
        refine blockK_n ?_
        refine thenK_n ?_
        refine W.region ?_
        refine S.pure tOk zOk rfl rfl rfl ?_
        refine S.pure tOk zOk rfl rfl rfl ?_
        refine S.pure tOk zOk rfl rfl rfl ?_
        refine loop_n (s.length - (i + 1)) (by omega) ⟨i + 1, hi, rfl, _, _, _, _, rfl, rfl, rfl, rfl, rfl, inc_i64 (by omega), trivial⟩
       ·skip
        refine OpZ.loadC tOk rfl rfl rfl rfl rfl (bsr_sp hsp (off_is (s.getD i 0))) ?_
        refine AnyZ.one 3 (by kernel_rfl) rfl ?_
        refine OpZ.sliceRow tOk (escB (s.take i)).length rfl rfl rfl rfl rfl rfl rfl (by omega) (Nat.zero_add _) rfl ?_
        refine AnyZ.one 10 (by kernel_rfl) rfl ?_
        refine OpZ.copyRow tOk (news := [.int .u8 ((92 : UInt8).toNat : Int), .int .u8 ((s.getD i 0).toNat : Int)]) rfl rfl rfl rfl rfl rfl rfl rfl (by simp) (show 2 ≤ _ by omega) (fill_s hi hsp) rfl ?_
        refine AnyZ.eager 11 rfl (by kernel_rfl) (Eag.pure tOk zOk rfl (fun _ _ _ => congrArg (fun x => some (_, x)) (esc_add hi hsp hs)) rfl rfl) ?_
        refine AnyZ.nil (by kernel_rfl) ?_
        refine S.pure tOk zOk rfl rfl rfl ?_
        refine blockK_n ?_
        refine thenK_n ?_
        refine W.region ?_
        refine S.pure tOk zOk rfl rfl rfl ?_
        refine S.pure tOk zOk rfl rfl rfl ?_
        refine S.pure tOk zOk rfl rfl rfl ?_
        refine loop_n (s.length - (i + 1)) (by omega) ⟨i + 1, hi, rfl, _, _, _, _, rfl, rfl, rfl, rfl, rfl, inc_i64 (by omega), trivial⟩
      ·skip
       have hsp : spec (s.getD i 0) = false := nf (by assumption)
       rw [if_neg (by rw [hsp]; simp)] at hlt
       refine W.seq ?_
       refine W.region ?_
       refine S.pure tOk zOk rfl rfl rfl ?_
       refine S.pure tOk zOk rfl rfl rfl ?_
       refine S.pure tOk zOk rfl rfl rfl ?_
       refine S.pure tOk zOk rfl (idx_ok (Int.natCast_nonneg _) (by omega)) rfl ?_
       refine S.rstore tOk rfl rfl rfl rfl rfl rfl rfl (fill_set (by simp) hi hsp) rfl ?_
       refine thenK_n ?_
       refine W.region ?_
       refine S.pure tOk zOk rfl rfl rfl ?_
       refine S.pureE tOk zOk rfl rfl (esc_inc hi hsp hs) rfl ?_
       refine S.pure tOk zOk rfl rfl rfl ?_
       refine blockK_n ?_
       refine thenK_n ?_
       refine W.region ?_
       refine S.pure tOk zOk rfl rfl rfl ?_
       refine S.pure tOk zOk rfl rfl rfl ?_
       refine S.pure tOk zOk rfl rfl rfl ?_
       refine loop_n (s.length - (i + 1)) (by omega) ⟨i + 1, hi, rfl, _, _, _, _, rfl, rfl, rfl, rfl, rfl, inc_i64 (by omega), trivial⟩
     ·skip
      have hi := s_ge (by assumption)
      obtain rfl : i = s.length := by omega
      refine W.exit ?_
      refine thenK_e ?_
      refine thenK_e ?_
      refine blockK_x ?_
      refine thenK_n ?_
      refine W.seq ?_
      refine W.region ?_
      refine S.pure tOk zOk rfl rfl rfl ?_
      refine S.convRow (sz := 1) tOk (escB s) rfl rfl rfl rfl rfl rfl rfl (congrArg (fun z => some (some (RowO.mk true 0 1 5 z))) (fill_end s)) rfl ?_
      refine S.pure tOk zOk rfl rfl rfl ?_
      refine thenK_n ?_
      refine W.ret ?_
      exact ⟨_, rfl, rfl, LeG.of_force rfl (by first | rfl | exact absurd (show (!true) = true by assumption) (by decide) | (rw [cnt_same (by omega) (by omega)]) | (rw [esc_same (an (by assumption))])), rfl, rfl, rfl⟩
   ·skip
    have hz := cz (by assumption)
    refine W.skip ?_
    refine blockK_n ?_
    refine thenK_n ?_
    refine W.region ?_
    refine S.pure tOk zOk rfl rfl rfl ?_
    refine S.pure tOk zOk rfl rfl rfl ?_
    refine thenK_n ?_
    refine WR.succ ?_
    refine W.seq ?_
    refine W.region ?_
    refine S.pure tOk zOk rfl rfl rfl ?_
    refine thenK_n ?_
    refine W.seq ?_
    refine W.condF rfl rfl ?_
    refine W.exit ?_
    refine thenK_e ?_
    refine thenK_e ?_
    refine blockK_x ?_
    refine thenK_n ?_
    refine W.seq ?_
    refine W.seq ?_
    refine W.region ?_
    refine S.pure tOk zOk rfl rfl rfl ?_
    refine S.pure tOk zOk rfl rfl rfl ?_
    refine thenK_n ?_
    refine W.cond rfl (fun c21 => ?_) (fun c21 => ?_)
    ·skip
     refine W.seq ?_
     refine W.region ?_
     refine S.pure tOk zOk rfl rfl rfl ?_
     refine S.pure tOk zOk rfl rfl rfl ?_
     refine thenK_n ?_
     refine W.ret ?_
     refine thenK_r ?_
     exact ⟨_, rfl, rfl, LeG.of_force rfl (by first | rfl | exact absurd (show (!true) = true by assumption) (by decide) | (rw [cnt_same (by omega) (by omega)]) | (rw [esc_same (an (by assumption))])), rfl, rfl, rfl⟩
    ·skip
     refine W.skip ?_
     refine thenK_n ?_
     refine W.seq ?_
     refine W.region ?_
     refine S.pureE tOk zOk rfl rfl (len_is (k := (escB s).length) (by first | omega | (rw [lenTo_end]))) rfl ?_
     refine S.makeSlice tOk (zd := [.int .u8 0]) (r' := [some ⟨true, 2, 1, 9, [[.str [34]], [.str [92]]]⟩, some ⟨true, 0, 1, 5, fillTo s 0⟩]) (escB s).length rfl rfl rfl rfl rfl rfl rfl (by omega) rfl (congrArg (fun z => [some (RowO.mk true 2 1 9 [[D.str [34]], [D.str [92]]]), some (RowO.mk true 0 1 5 z)]) (fill_0 s)) ?_
     refine S.pure tOk zOk rfl rfl rfl ?_
     refine thenK_n ?_
     refine W.seq ?_
     refine W.region ?_
     refine S.pure tOk zOk rfl rfl rfl ?_
     refine thenK_n ?_
     refine W.seq ?_
     refine W.seq ?_
     refine W.region ?_
     refine S.pure tOk zOk rfl rfl rfl ?_
     refine thenK_n ?_
     refine W.block ?_
     refine W.loop (fun k st => ∃ i : Nat, i ≤ s.length ∧ k = s.length - i ∧ ∃ t b2 r2 m2, st = ⟨t, [bsr] ++ b2, [some ⟨true, 2, 1, 9, [[.str [34]], [.str [92]]]⟩, some ⟨true, 0, 1, 5, fillTo s i⟩] ++ r2, [] ++ m2⟩ ∧ holdsL t [(0, .one (.ptr 0 0)), (1, .one (.d (.str s))), (12, .one (.row 1 0 0 (escB s).length)), (13, .one (.d (.int .i64 ((escB (s.take i)).length : Int)))), (14, .one (.d (.int .i64 (i : Int))))]) (s.length) ⟨0, Nat.zero_le _, rfl, _, _, _, _, rfl, rfl, rfl, rfl, (len_t0 s), rfl, trivial⟩ ?_
     rintro k4 _ ⟨i, f4_0, rfl, t4, bb4, rr4, mm4, rfl, hh4⟩
     refine W.keepR _ _ _ _ _ _ _ hh4 rfl ?_
     refine W.seq ?_
     refine W.seq ?_
     refine W.region ?_
     refine S.pure tOk zOk rfl rfl rfl ?_
     refine S.pure tOk zOk rfl rfl rfl ?_
     refine S.pure tOk zOk rfl rfl rfl ?_
     refine S.pure tOk zOk rfl rfl rfl ?_
     refine thenK_n ?_
     refine W.cond rfl (fun c22 => ?_) (fun c22 => ?_)
     ·skip
      have hi := s_lt (by assumption)
      have hlt := escTake_lt hi
      rw [esc1_len] at hlt
      refine W.skip ?_
      refine thenK_n ?_
      refine W.seq ?_
      refine W.block ?_
      refine W.seq ?_
      refine W.region ?_
      refine S.pure tOk zOk rfl rfl rfl ?_
      refine S.pure tOk zOk rfl rfl rfl ?_
      refine S.pure tOk zOk rfl (str_ok hi) rfl ?_
      refine S.pure tOk zOk rfl rfl rfl ?_
      refine thenK_n ?_
      refine W.seq ?_
      refine W.region ?_
      refine S.pure tOk zOk rfl rfl rfl ?_
      refine S.pure tOk zOk rfl rfl rfl ?_
      refine S.pure tOk zOk rfl rfl rfl ?_
      refine S.pure tOk zOk rfl rfl rfl ?_
      refine S.pure tOk zOk rfl (arr_ok _) rfl ?_
      refine S.loadC tOk rfl rfl rfl rfl rfl (bsr_at (s.getD i 0) (off_is (s.getD i 0))) ?_
      refine S.notNilD tOk (!spec (s.getD i 0)) (replD_nil _) rfl rfl rfl ?_
      refine thenK_n ?_
      refine W.cond rfl (fun c23 => ?_) (fun c23 => ?_)
      ·skip
       have hsp : spec (s.getD i 0) = true := nn (by assumption)
       rw [if_pos hsp] at hlt
       refine W.regionS 12 mixed rfl (by kernel_rfl) ?_
       refine AnyZ.eager 0 rfl (by kernel_rfl) (Eag.pure tOk zOk rfl (fun _ _ _ => rfl) rfl rfl) ?_
       refine AnyZ.eager 1 rfl (by kernel_rfl) (Eag.pure tOk zOk rfl (fun _ _ _ => rfl) rfl rfl) ?_
       refine AnyZ.eager 2 rfl (by kernel_rfl) (Eag.pure tOk zOk rfl (fun _ _ _ => rfl) rfl rfl) ?_
       refine AnyZ.eager 4 rfl (by kernel_rfl) (Eag.pure tOk zOk rfl (fun _ _ _ => rfl) rfl rfl) ?_
       refine AnyZ.eager 5 rfl (by kernel_rfl) (Eag.pure tOk zOk rfl (fun _ _ _ => rfl) rfl rfl) ?_
       refine AnyZ.eager 6 rfl (by kernel_rfl) (Eag.pure tOk zOk rfl (fun _ _ _ => rfl) rfl rfl) ?_
       refine AnyZ.eager 7 rfl (by kernel_rfl) (Eag.pure tOk zOk rfl (fun _ _ _ => rfl) rfl rfl) ?_
       refine AnyZ.eager 8 rfl (by kernel_rfl) (Eag.pure tOk zOk rfl (fun _ _ _ => rfl) (arr_ok _) rfl) ?_
       refine AnyZ.two 3 9 (by kernel_rfl) rfl rfl ?_ ?_
       ·skip
        refine OpZ.sliceRow tOk (escB (s.take i)).length rfl rfl rfl rfl rfl rfl rfl (by omega) (Nat.zero_add _) rfl ?_
        refine AnyZ.one 9 (by kernel_rfl) rfl ?_
        refine OpZ.loadC tOk rfl rfl rfl rfl rfl (bsr_sp hsp (off_is (s.getD i 0))) ?_
        refine AnyZ.one 10 (by kernel_rfl) rfl ?_
        refine OpZ.copyRow tOk (news := [.int .u8 ((92 : UInt8).toNat : Int), .int .u8 ((s.getD i 0).toNat : Int)]) rfl rfl rfl rfl rfl rfl rfl rfl (by simp) (show 2 ≤ _ by omega) (fill_s hi hsp) rfl ?_
        refine AnyZ.eager 11 rfl (by kernel_rfl) (Eag.pure tOk zOk rfl (fun _ _ _ => congrArg (fun x => some (_, x)) (esc_add hi hsp hs)) rfl rfl) ?_
        refine AnyZ.nil (by kernel_rfl) ?_
        refine S.pure tOk zOk rfl rfl rfl ?_
        refine blockK_n ?_
        refine thenK_n ?_
        refine W.region ?_
        refine S.pure tOk zOk rfl rfl rfl ?_
        refine S.pure tOk zOk rfl rfl rfl ?_
        refine S.pure tOk zOk rfl rfl rfl ?_
        refine loop_n (s.length - (i + 1)) (by omega) ⟨i + 1, hi, rfl, _, _, _, _, rfl, rfl, rfl, rfl, rfl, inc_i64 (by omega), trivial⟩
       ·skip
        refine OpZ.loadC tOk rfl rfl rfl rfl rfl (bsr_sp hsp (off_is (s.getD i 0))) ?_
        refine AnyZ.one 3 (by kernel_rfl) rfl ?_
        refine OpZ.sliceRow tOk (escB (s.take i)).length rfl rfl rfl rfl rfl rfl rfl (by omega) (Nat.zero_add _) rfl ?_
        refine AnyZ.one 10 (by kernel_rfl) rfl ?_
        refine OpZ.copyRow tOk (news := [.int .u8 ((92 : UInt8).toNat : Int), .int .u8 ((s.getD i 0).toNat : Int)]) rfl rfl rfl rfl rfl rfl rfl rfl (by simp) (show 2 ≤ _ by omega) (fill_s hi hsp) rfl ?_
        refine AnyZ.eager 11 rfl (by kernel_rfl) (Eag.pure tOk zOk rfl (fun _ _ _ => congrArg (fun x => some (_, x)) (esc_add hi hsp hs)) rfl rfl) ?_
        refine AnyZ.nil (by kernel_rfl) ?_
        refine S.pure tOk zOk rfl rfl rfl ?_
        refine blockK_n ?_
        refine thenK_n ?_
        refine W.region ?_
        refine S.pure tOk zOk rfl rfl rfl ?_
        refine S.pure tOk zOk rfl rfl rfl ?_
        refine S.pure tOk zOk rfl rfl rfl ?_
        refine loop_n (s.length - (i + 1)) (by omega) ⟨i + 1, hi, rfl, _, _, _, _, rfl, rfl, rfl, rfl, rfl, inc_i64 (by omega), trivial⟩
      ·skip
       have hsp : spec (s.getD i 0) = false := nf (by assumption)
       rw [if_neg (by rw [hsp]; simp)] at hlt
       refine W.seq ?_
       refine W.region ?_
       refine S.pure tOk zOk rfl rfl rfl ?_
       refine S.pure tOk zOk rfl rfl rfl ?_
       refine S.pure tOk zOk rfl rfl rfl ?_
       refine S.pure tOk zOk rfl (idx_ok (Int.natCast_nonneg _) (by omega)) rfl ?_
       refine S.rstore tOk rfl rfl rfl rfl rfl rfl rfl (fill_set (by simp) hi hsp) rfl ?_
       refine thenK_n ?_
       refine W.region ?_
       refine S.pure tOk zOk rfl rfl rfl ?_
       refine S.pureE tOk zOk rfl rfl (esc_inc hi hsp hs) rfl ?_
       refine S.pure tOk zOk rfl rfl rfl ?_
       refine blockK_n ?_
       refine thenK_n ?_
       refine W.region ?_
       refine S.pure tOk zOk rfl rfl rfl ?_
       refine S.pure tOk zOk rfl rfl rfl ?_
       refine S.pure tOk zOk rfl rfl rfl ?_
       refine loop_n (s.length - (i + 1)) (by omega) ⟨i + 1, hi, rfl, _, _, _, _, rfl, rfl, rfl, rfl, rfl, inc_i64 (by omega), trivial⟩
     ·skip
      have hi := s_ge (by assumption)
      obtain rfl : i = s.length := by omega
      refine W.exit ?_
      refine thenK_e ?_
      refine thenK_e ?_
      refine blockK_x ?_
      refine thenK_n ?_
      refine W.seq ?_
      refine W.region ?_
      refine S.pure tOk zOk rfl rfl rfl ?_
      refine S.convRow (sz := 1) tOk (escB s) rfl rfl rfl rfl rfl rfl rfl (congrArg (fun z => some (some (RowO.mk true 0 1 5 z))) (fill_end s)) rfl ?_
      refine S.pure tOk zOk rfl rfl rfl ?_
      refine thenK_n ?_
      refine W.ret ?_
      exact ⟨_, rfl, rfl, LeG.of_force rfl (by first | rfl | exact absurd (show (!true) = true by assumption) (by decide) | (rw [cnt_same (by omega) (by omega)]) | (rw [esc_same (an (by assumption))])), rfl, rfl, rfl⟩
 ·skip
  refine W.seq ?_
  refine W.region ?_
  refine S.pure tOk zOk rfl rfl rfl ?_
  refine thenK_n ?_
  refine W.block ?_
  refine W.loop (fun k st => ∃ i : Nat, i ≤ s.length ∧ k = s.length - i ∧ ∃ t b2 r2 m2, st = ⟨t, [bsr] ++ b2, [some ⟨true, 2, 1, 9, [[.str [34]], [.str [92]]]⟩] ++ r2, [] ++ m2⟩ ∧ holdsL t [(0, .one (.ptr 0 0)), (1, .one (.d (.str s))), (5, .one (.d (.int .i64 (lenTo s i : Int)))), (6, .one (.d (.bool ((s.take i).any spec)))), (10, .one (.d (.int .i64 (i : Int))))]) (s.length) ⟨0, Nat.zero_le _, rfl, _, _, _, _, rfl, rfl, rfl, (len_eq (lenTo_0 s).symm), rfl, rfl, trivial⟩ ?_
  rintro k2 _ ⟨i, f2_0, rfl, t2, bb2, rr2, mm2, rfl, hh2⟩
  refine W.keepR _ _ _ _ _ _ _ hh2 rfl ?_
  refine W.seq ?_
  refine W.seq ?_
  refine W.region ?_
  refine S.pure tOk zOk rfl rfl rfl ?_
  refine S.pure tOk zOk rfl rfl rfl ?_
  refine S.pure tOk zOk rfl rfl rfl ?_
  refine S.pure tOk zOk rfl rfl rfl ?_
  refine thenK_n ?_
  refine W.cond rfl (fun c24 => ?_) (fun c24 => ?_)
  ·skip
   have hi := s_lt (by assumption)
   have hlt := lenTo_le s (show i ≤ s.length by omega)
   refine W.skip ?_
   refine thenK_n ?_
   refine W.seq ?_
   refine W.block ?_
   refine W.seq ?_
   refine W.region ?_
   refine S.pure tOk zOk rfl rfl rfl ?_
   refine S.pure tOk zOk rfl rfl rfl ?_
   refine S.pure tOk zOk rfl (str_ok hi) rfl ?_
   refine S.pure tOk zOk rfl rfl rfl ?_
   refine thenK_n ?_
   refine W.seq ?_
   refine W.region ?_
   refine S.pure tOk zOk rfl rfl rfl ?_
   refine S.pure tOk zOk rfl rfl rfl ?_
   refine S.pure tOk zOk rfl rfl rfl ?_
   refine S.pure tOk zOk rfl rfl rfl ?_
   refine S.pure tOk zOk rfl (arr_ok _) rfl ?_
   refine S.loadC tOk rfl rfl rfl rfl rfl (bsr_at (s.getD i 0) (off_is (s.getD i 0))) ?_
   refine S.notNilD tOk (!spec (s.getD i 0)) (replD_nil _) rfl rfl rfl ?_
   refine thenK_n ?_
   refine W.cond rfl (fun c25 => ?_) (fun c25 => ?_)
   ·skip
    have hsp : spec (s.getD i 0) = true := nn (by assumption)
    refine W.seq ?_
    refine W.region ?_
    refine S.pure tOk zOk rfl rfl rfl ?_
    refine S.pure tOk zOk rfl rfl rfl ?_
    refine S.pure tOk zOk rfl rfl rfl ?_
    refine S.pure tOk zOk rfl rfl rfl ?_
    refine S.pure tOk zOk rfl rfl rfl ?_
    refine S.pure tOk zOk rfl (arr_ok _) rfl ?_
    refine S.loadC tOk rfl rfl rfl rfl rfl (bsr_sp hsp (off_is (s.getD i 0))) ?_
    refine S.pure tOk zOk rfl rfl rfl ?_
    refine S.pureE tOk zOk rfl rfl (len_m1 _) rfl ?_
    refine S.pureE tOk zOk rfl rfl (inc_i64 (by omega)) rfl ?_
    refine S.pure tOk zOk rfl rfl rfl ?_
    refine thenK_n ?_
    refine W.region ?_
    refine S.pure tOk zOk rfl rfl rfl ?_
    refine blockK_n ?_
    refine thenK_n ?_
    refine W.region ?_
    refine S.pure tOk zOk rfl rfl rfl ?_
    refine S.pure tOk zOk rfl rfl rfl ?_
    refine S.pure tOk zOk rfl rfl rfl ?_
    refine loop_n (s.length - (i + 1)) (by omega) ⟨i + 1, hi, rfl, _, _, _, _, rfl, rfl, rfl, (len_eq (lenTo_s hi hsp).symm), (bool_eq (by rw [any_takeS hi, hsp, Bool.or_true])), inc_i64 (by omega), trivial⟩
   ·skip
    have hsp : spec (s.getD i 0) = false := nf (by assumption)
    refine W.skip ?_
    refine blockK_n ?_
    refine thenK_n ?_
    refine W.region ?_
    refine S.pure tOk zOk rfl rfl rfl ?_
    refine S.pure tOk zOk rfl rfl rfl ?_
    refine S.pure tOk zOk rfl rfl rfl ?_
    refine loop_n (s.length - (i + 1)) (by omega) ⟨i + 1, hi, rfl, _, _, _, _, rfl, rfl, rfl, (len_eq (lenTo_n hi hsp).symm), (bool_eq (by rw [any_takeS hi, hsp, Bool.or_false])), inc_i64 (by omega), trivial⟩
  ·skip
   have hi := s_ge (by assumption)
   obtain rfl : i = s.length := by omega
   refine W.exit ?_
   refine thenK_e ?_
   refine thenK_e ?_
   refine blockK_x ?_
   refine thenK_n ?_
   refine W.seq ?_
   refine W.seq ?_
   refine W.region ?_
   refine S.pure tOk zOk rfl rfl rfl ?_
   refine S.pure tOk zOk rfl rfl rfl ?_
   refine thenK_n ?_
   refine W.cond rfl (fun c26 => ?_) (fun c26 => ?_)
   ·skip
    refine W.seq ?_
    refine W.region ?_
    refine S.pure tOk zOk rfl rfl rfl ?_
    refine S.pure tOk zOk rfl rfl rfl ?_
    refine thenK_n ?_
    refine W.ret ?_
    refine thenK_r ?_
    exact ⟨_, rfl, rfl, LeG.of_force rfl (by first | rfl | exact absurd (show (!true) = true by assumption) (by decide) | (rw [cnt_same (by omega) (by omega)]) | (rw [esc_same (an (by assumption))])), rfl, rfl, rfl⟩
   ·skip
    refine W.skip ?_
    refine thenK_n ?_
    refine W.seq ?_
    refine W.region ?_
    refine S.pureE tOk zOk rfl rfl (len_is (k := (escB s).length) (by first | omega | (rw [lenTo_end]))) rfl ?_
    refine S.makeSlice tOk (zd := [.int .u8 0]) (r' := [some ⟨true, 2, 1, 9, [[.str [34]], [.str [92]]]⟩, some ⟨true, 0, 1, 5, fillTo s 0⟩]) (escB s).length rfl rfl rfl rfl rfl rfl rfl (by omega) rfl (congrArg (fun z => [some (RowO.mk true 2 1 9 [[D.str [34]], [D.str [92]]]), some (RowO.mk true 0 1 5 z)]) (fill_0 s)) ?_
    refine S.pure tOk zOk rfl rfl rfl ?_
    refine thenK_n ?_
    refine W.seq ?_
    refine W.region ?_
    refine S.pure tOk zOk rfl rfl rfl ?_
    refine thenK_n ?_
    refine W.seq ?_
    refine W.seq ?_
    refine W.region ?_
    refine S.pure tOk zOk rfl rfl rfl ?_
    refine thenK_n ?_
    refine W.block ?_
    refine W.loop (fun k st => ∃ i : Nat, i ≤ s.length ∧ k = s.length - i ∧ ∃ t b2 r2 m2, st = ⟨t, [bsr] ++ b2, [some ⟨true, 2, 1, 9, [[.str [34]], [.str [92]]]⟩, some ⟨true, 0, 1, 5, fillTo s i⟩] ++ r2, [] ++ m2⟩ ∧ holdsL t [(0, .one (.ptr 0 0)), (1, .one (.d (.str s))), (12, .one (.row 1 0 0 (escB s).length)), (13, .one (.d (.int .i64 ((escB (s.take i)).length : Int)))), (14, .one (.d (.int .i64 (i : Int))))]) (s.length) ⟨0, Nat.zero_le _, rfl, _, _, _, _, rfl, rfl, rfl, rfl, (len_t0 s), rfl, trivial⟩ ?_
    rintro k4 _ ⟨i, f4_0, rfl, t4, bb4, rr4, mm4, rfl, hh4⟩
    refine W.keepR _ _ _ _ _ _ _ hh4 rfl ?_
    refine W.seq ?_
    refine W.seq ?_
    refine W.region ?_
    refine S.pure tOk zOk rfl rfl rfl ?_
    refine S.pure tOk zOk rfl rfl rfl ?_
    refine S.pure tOk zOk rfl rfl rfl ?_
    refine S.pure tOk zOk rfl rfl rfl ?_
    refine thenK_n ?_
    refine W.cond rfl (fun c27 => ?_) (fun c27 => ?_)
    ·skip
     have hi := s_lt (by assumption)
     have hlt := escTake_lt hi
     rw [esc1_len] at hlt
     refine W.skip ?_
     refine thenK_n ?_
     refine W.seq ?_
     refine W.block ?_
     refine W.seq ?_
     refine W.region ?_
     refine S.pure tOk zOk rfl rfl rfl ?_
     refine S.pure tOk zOk rfl rfl rfl ?_
     refine S.pure tOk zOk rfl (str_ok hi) rfl ?_
     refine S.pure tOk zOk rfl rfl rfl ?_
     refine thenK_n ?_
     refine W.seq ?_
     refine W.region ?_
     refine S.pure tOk zOk rfl rfl rfl ?_
     refine S.pure tOk zOk rfl rfl rfl ?_
     refine S.pure tOk zOk rfl rfl rfl ?_
     refine S.pure tOk zOk rfl rfl rfl ?_
     refine S.pure tOk zOk rfl (arr_ok _) rfl ?_
     refine S.loadC tOk rfl rfl rfl rfl rfl (bsr_at (s.getD i 0) (off_is (s.getD i 0))) ?_
     refine S.notNilD tOk (!spec (s.getD i 0)) (replD_nil _) rfl rfl rfl ?_
     refine thenK_n ?_
     refine W.cond rfl (fun c28 => ?_) (fun c28 => ?_)
     ·skip
      have hsp : spec (s.getD i 0) = true := nn (by assumption)
      rw [if_pos hsp] at hlt
      refine W.regionS 12 mixed rfl (by kernel_rfl) ?_
      refine AnyZ.eager 0 rfl (by kernel_rfl) (Eag.pure tOk zOk rfl (fun _ _ _ => rfl) rfl rfl) ?_
      refine AnyZ.eager 1 rfl (by kernel_rfl) (Eag.pure tOk zOk rfl (fun _ _ _ => rfl) rfl rfl) ?_
      refine AnyZ.eager 2 rfl (by kernel_rfl) (Eag.pure tOk zOk rfl (fun _ _ _ => rfl) rfl rfl) ?_
      refine AnyZ.eager 4 rfl (by kernel_rfl) (Eag.pure tOk zOk rfl (fun _ _ _ => rfl) rfl rfl) ?_
      refine AnyZ.eager 5 rfl (by kernel_rfl) (Eag.pure tOk zOk rfl (fun _ _ _ => rfl) rfl rfl) ?_
      refine AnyZ.eager 6 rfl (by kernel_rfl) (Eag.pure tOk zOk rfl (fun _ _ _ => rfl) rfl rfl) ?_
      refine AnyZ.eager 7 rfl (by kernel_rfl) (Eag.pure tOk zOk rfl (fun _ _ _ => rfl) rfl rfl) ?_
      refine AnyZ.eager 8 rfl (by kernel_rfl) (Eag.pure tOk zOk rfl (fun _ _ _ => rfl) (arr_ok _) rfl) ?_
      refine AnyZ.two 3 9 (by kernel_rfl) rfl rfl ?_ ?_
      ·skip
       refine OpZ.sliceRow tOk (escB (s.take i)).length rfl rfl rfl rfl rfl rfl rfl (by omega) (Nat.zero_add _) rfl ?_
       refine AnyZ.one 9 (by kernel_rfl) rfl ?_
       refine OpZ.loadC tOk rfl rfl rfl rfl rfl (bsr_sp hsp (off_is (s.getD i 0))) ?_
       refine AnyZ.one 10 (by kernel_rfl) rfl ?_
       refine OpZ.copyRow tOk (news := [.int .u8 ((92 : UInt8).toNat : Int), .int .u8 ((s.getD i 0).toNat : Int)]) rfl rfl rfl rfl rfl rfl rfl rfl (by simp) (show 2 ≤ _ by omega) (fill_s hi hsp) rfl ?_
       refine AnyZ.eager 11 rfl (by kernel_rfl) (Eag.pure tOk zOk rfl (fun _ _ _ => congrArg (fun x => some (_, x)) (esc_add hi hsp hs)) rfl rfl) ?_
       refine AnyZ.nil (by kernel_rfl) ?_
       refine S.pure tOk zOk rfl rfl rfl ?_
       refine blockK_n ?_
       refine thenK_n ?_
       refine W.region ?_
       refine S.pure tOk zOk rfl rfl rfl ?_
       refine S.pure tOk zOk rfl rfl rfl ?_
       refine S.pure tOk zOk rfl rfl rfl ?_
       refine loop_n (s.length - (i + 1)) (by omega) ⟨i + 1, hi, rfl, _, _, _, _, rfl, rfl, rfl, rfl, rfl, inc_i64 (by omega), trivial⟩
      ·skip
       refine OpZ.loadC tOk rfl rfl rfl rfl rfl (bsr_sp hsp (off_is (s.getD i 0))) ?_
       refine AnyZ.one 3 (by kernel_rfl) rfl ?_
       refine OpZ.sliceRow tOk (escB (s.take i)).length rfl rfl rfl rfl rfl rfl rfl (by omega) (Nat.zero_add _) rfl ?_
       refine AnyZ.one 10 (by kernel_rfl) rfl ?_
       refine OpZ.copyRow tOk (news := [.int .u8 ((92 : UInt8).toNat : Int), .int .u8 ((s.getD i 0).toNat : Int)]) rfl rfl rfl rfl rfl rfl rfl rfl (by simp) (show 2 ≤ _ by omega) (fill_s hi hsp) rfl ?_
       refine AnyZ.eager 11 rfl (by kernel_rfl) (Eag.pure tOk zOk rfl (fun _ _ _ => congrArg (fun x => some (_, x)) (esc_add hi hsp hs)) rfl rfl) ?_
       refine AnyZ.nil (by kernel_rfl) ?_
       refine S.pure tOk zOk rfl rfl rfl ?_
       refine blockK_n ?_
       refine thenK_n ?_
       refine W.region ?_
       refine S.pure tOk zOk rfl rfl rfl ?_
       refine S.pure tOk zOk rfl rfl rfl ?_
       refine S.pure tOk zOk rfl rfl rfl ?_
       refine loop_n (s.length - (i + 1)) (by omega) ⟨i + 1, hi, rfl, _, _, _, _, rfl, rfl, rfl, rfl, rfl, inc_i64 (by omega), trivial⟩
     ·skip
      have hsp : spec (s.getD i 0) = false := nf (by assumption)
      rw [if_neg (by rw [hsp]; simp)] at hlt
      refine W.seq ?_
      refine W.region ?_
      refine S.pure tOk zOk rfl rfl rfl ?_
      refine S.pure tOk zOk rfl rfl rfl ?_
      refine S.pure tOk zOk rfl rfl rfl ?_
      refine S.pure tOk zOk rfl (idx_ok (Int.natCast_nonneg _) (by omega)) rfl ?_
      refine S.rstore tOk rfl rfl rfl rfl rfl rfl rfl (fill_set (by simp) hi hsp) rfl ?_
      refine thenK_n ?_
      refine W.region ?_
      refine S.pure tOk zOk rfl rfl rfl ?_
      refine S.pureE tOk zOk rfl rfl (esc_inc hi hsp hs) rfl ?_
      refine S.pure tOk zOk rfl rfl rfl ?_
      refine blockK_n ?_
      refine thenK_n ?_
      refine W.region ?_
      refine S.pure tOk zOk rfl rfl rfl ?_
      refine S.pure tOk zOk rfl rfl rfl ?_
      refine S.pure tOk zOk rfl rfl rfl ?_
      refine loop_n (s.length - (i + 1)) (by omega) ⟨i + 1, hi, rfl, _, _, _, _, rfl, rfl, rfl, rfl, rfl, inc_i64 (by omega), trivial⟩
    ·skip
     have hi := s_ge (by assumption)
     obtain rfl : i = s.length := by omega
     refine W.exit ?_
     refine thenK_e ?_
     refine thenK_e ?_
     refine blockK_x ?_
     refine thenK_n ?_
     refine W.seq ?_
     refine W.region ?_
     refine S.pure tOk zOk rfl rfl rfl ?_
     refine S.convRow (sz := 1) tOk (escB s) rfl rfl rfl rfl rfl rfl rfl (congrArg (fun z => some (some (RowO.mk true 0 1 5 z))) (fill_end s)) rfl ?_
     refine S.pure tOk zOk rfl rfl rfl ?_
     refine thenK_n ?_
     refine W.ret ?_
     exact ⟨_, rfl, rfl, LeG.of_force rfl (by first | rfl | exact absurd (show (!true) = true by assumption) (by decide) | (rw [cnt_same (by omega) (by omega)]) | (rw [esc_same (an (by assumption))])), rfl, rfl, rfl⟩
theorem pc_RReplace (s : List UInt8) (hs : s.length ≤ 4000000) :
  HCall Tryz.prog J 85 ([.one (.ptr 0 0), .one (.d (.str s))]) ([[.d (.int .u32 0), .d (.int .i32 0), .d (.int .u32 0), .d (.err true), .d (.vec 1 [[.str [92]], [.str [92, 92]], [.str [34]], [.str [92, 34]]])]]) ([]) ([]) (isH (.one (.d (.str (escB s)))) ([[.d (.int .u32 1), .d (.int .i32 0), .d (.int .u32 0), .wr (.ifc 249) 1 0, .d .nilsl], bsr]) ([some ⟨true, 2, 1, 9, [[.str [34]], [.str [92]]]⟩]) ([])) := by
 refine HCall.ofD tOk ⟨2, 1, 0⟩ (fn := Tryz.f85) Tryz.func85 (by kernel_rfl) rfl (Nat.le_of_ble_eq_true rfl) (fun E => ?_)
 refine W.seq ?_
 refine W.region ?_
 refine S.pure tOk zOk rfl rfl rfl ?_
 refine thenK_n ?_
 refine W.seq ?_
 refine W.region ?_
 refine S.pure tOk zOk rfl rfl rfl ?_
 refine S.pure tOk zOk rfl rfl rfl ?_
 refine S.pure tOk zOk rfl rfl rfl ?_
 refine S.pure tOk zOk rfl rfl rfl ?_
 refine S.makeBnd rfl ?_
 refine S.hcallD rfl rfl rfl rfl (pc_Do) ?_
 refine thenK_n ?_
 refine W.seq ?_
 refine W.region ?_
 refine S.pure tOk zOk rfl rfl rfl ?_
 refine S.pure tOk zOk rfl rfl rfl ?_
 refine S.pure tOk zOk rfl rfl rfl ?_
 refine S.pure tOk zOk rfl rfl rfl ?_
 refine S.pure tOk zOk rfl rfl rfl ?_
 refine S.invoke rfl rfl rfl (fun a w => rfl) ((pc_BSReplace s hs).frameD [1] [0] [] rfl rfl rfl rfl rfl rfl rfl rfl rfl) ?_
 refine S.pure tOk zOk rfl rfl rfl ?_
 refine thenK_n ?_
 refine W.ret ?_
 exact ⟨_, rfl, rfl, LeG.refl _, rfl, rfl, rfl⟩
def quoB (s : List UInt8) : List UInt8 := [34] ++ escB s ++ [34]
theorem pc_ver_Quoted (s : List UInt8) (hs : s.length ≤ 4000000) :
  PureCall Tryz.prog J 35 [.one (.d (.str s))] (.one (.d (.str (quoB s)))) := by
 have hle := esc_le s
 refine PureCall.of_body tOk (fn := Tryz.f35) Tryz.func35 (by kernel_rfl) rfl (Nat.le_of_ble_eq_true rfl) (fun E => ?_)
 refine W.seq ?_
 refine W.region ?_
 refine S.pure tOk zOk rfl rfl rfl ?_
 refine thenK_n ?_
 refine W.seq ?_
 refine W.region ?_
 refine S.slice tOk rfl rfl ?_
 refine S.hcallD rfl rfl rfl rfl (pc_NewReplacer) ?_
 refine S.pure tOk zOk rfl rfl rfl ?_
 refine S.hcallD rfl rfl rfl rfl (pc_RReplace s hs) ?_
 refine S.pure tOk zOk rfl (cat_ok (by simp [-List.getD_eq_getElem?_getD]; omega)) rfl ?_
 refine S.pure tOk zOk rfl (cat_ok (by simp [-List.getD_eq_getElem?_getD]; omega)) rfl ?_
 refine S.pure tOk zOk rfl rfl rfl ?_
 refine thenK_n ?_
 refine W.ret ?_
 exact ⟨_, rfl, rfl, LeV.refl _⟩
end Go.Proofs.YtgknfikdajoiaaaGreatDoor
namespace Go.Proofs.YtgknfikdajoiaaaGreatDoor
open Go
open Go.RowKit
theorem pc_ver_isDigit (c : Int) :
  PureCall Tryz.prog J 96 [.one (.d (.int .u8 c))] (.one (.d (.bool (isDigit c)))) := by
 refine PureCall.of_body tOk (fn := Tryz.f96) Tryz.func96 (by kernel_rfl) rfl (Nat.le_of_ble_eq_true rfl) (fun E => ?_)
 refine W.seq ?_
 refine W.region ?_
 refine S.pure tOk zOk rfl rfl rfl ?_
 refine thenK_n ?_
 refine W.seq ?_
 refine W.region ?_
 refine S.pure tOk zOk rfl rfl rfl ?_
 refine S.pure tOk zOk rfl rfl rfl ?_
 refine S.pure tOk zOk rfl rfl rfl ?_
 refine S.pureG tOk zOk rfl rfl tg (fun _ => rfl) rfl ?_
 refine S.pureG tOk zOk rfl rfl tg (fun _ => rfl) rfl ?_
 refine S.pickAnd tOk zOk rfl rfl tg ?_
 refine S.pure tOk zOk rfl rfl rfl ?_
 refine thenK_n ?_
 refine W.ret ?_
 exact ⟨_, rfl, rfl, LeV.refl _⟩
theorem pc_ver_isSmall (c : Int) :
  PureCall Tryz.prog J 95 [.one (.d (.int .u8 c))] (.one (.d (.bool (isSmall c)))) := by
 refine PureCall.of_body tOk (fn := Tryz.f95) Tryz.func95 (by kernel_rfl) rfl (Nat.le_of_ble_eq_true rfl) (fun E => ?_)
 refine W.seq ?_
 refine W.region ?_
 refine S.pure tOk zOk rfl rfl rfl ?_
 refine thenK_n ?_
 refine W.seq ?_
 refine W.region ?_
 refine S.pure tOk zOk rfl rfl rfl ?_
 refine S.pure tOk zOk rfl rfl rfl ?_
 refine S.pure tOk zOk rfl rfl rfl ?_
 refine S.pureG tOk zOk rfl rfl tg (fun _ => rfl) rfl ?_
 refine S.pureG tOk zOk rfl rfl tg (fun _ => rfl) rfl ?_
 refine S.pickAnd tOk zOk rfl rfl tg ?_
 refine S.pure tOk zOk rfl rfl rfl ?_
 refine thenK_n ?_
 refine W.ret ?_
 exact ⟨_, rfl, rfl, LeV.refl _⟩
theorem pc_ver_each (φ : Int → Bool) (s : List UInt8) (m : Int) (f : FuncId) (hs : s.length ≤ 4611686018427387904) (hφ : ∀ c, PureCall Tryz.prog J f [.one (.d (.int .u8 c))] (.one (.d (.bool (φ c))))) :
  PureCall Tryz.prog J 87 [.one (.d (.str s)), .one (.d (.int .i64 m)), .one (.d (.fn f))] (.one (.d (.bool (eachB φ s m)))) := by
 refine PureCall.of_body tOk (fn := Tryz.f87) Tryz.func87 (by kernel_rfl) rfl (Nat.le_of_ble_eq_true rfl) (fun E => ?_)
 refine W.seq ?_
 refine W.region ?_
 refine S.pure tOk zOk rfl rfl rfl ?_
 refine thenK_n ?_
 refine W.seq ?_
 refine W.seq ?_
 refine W.region ?_
 refine S.pure tOk zOk rfl rfl rfl ?_
 refine thenK_n ?_
 refine W.block ?_
 refine W.loop (fun k st => ∃ i : Nat, i ≤ s.length ∧ (s.take i).all (fun c => φ (bI c)) = true ∧ k = s.length - i ∧ ∃ t b2 r2 m2, st = ⟨t, [] ++ b2, [] ++ r2, [] ++ m2⟩ ∧ holdsL t [(0, .one (.d (.str s))), (1, .one (.d (.int .i64 m))), (2, .one (.d (.fn f))), (7, .one (.d (.int .i64 (i : Int))))]) (s.length) ⟨0, Nat.zero_le _, by simp, rfl, _, _, _, _, rfl, rfl, rfl, rfl, rfl, trivial⟩ ?_
 rintro k0 _ ⟨i, f0_0, f0_1, rfl, t0, bb0, rr0, mm0, rfl, hh0⟩
 refine W.keepR _ _ _ _ _ _ _ hh0 rfl ?_
 refine W.seq ?_
 refine W.seq ?_
 refine W.region ?_
 refine S.pure tOk zOk rfl rfl rfl ?_
 refine S.pure tOk zOk rfl rfl rfl ?_
 refine S.pure tOk zOk rfl rfl rfl ?_
 refine S.pure tOk zOk rfl rfl rfl ?_
 refine thenK_n ?_
 refine W.cond rfl (fun c1 => ?_) (fun c1 => ?_)
 ·skip
  have hi : i < s.length := by simpa using c1
  refine W.skip ?_
  refine thenK_n ?_
  refine W.seq ?_
  refine W.block ?_
  refine W.seq ?_
  refine W.region ?_
  refine S.pure tOk zOk rfl rfl rfl ?_
  refine S.pure tOk zOk rfl rfl rfl ?_
  refine S.pure tOk zOk rfl rfl rfl ?_
  refine S.pure tOk zOk rfl (str_ok hi) rfl ?_
  refine S.call rfl rfl rfl rfl rfl (hφ _) ?_
  refine S.pure tOk zOk rfl rfl rfl ?_
  refine thenK_n ?_
  refine W.cond rfl (fun c2 => ?_) (fun c2 => ?_)
  ·skip
   refine W.seq ?_
   refine W.region ?_
   refine S.pure tOk zOk rfl rfl rfl ?_
   refine thenK_n ?_
   refine W.ret ?_
   refine blockK_r ?_
   refine thenK_r ?_
   refine thenK_r ?_
   refine blockK_r ?_
   refine thenK_r ?_
   exact ⟨_, rfl, rfl, LeV.of_eq (by rw [eachB, all_false_of (d := 0) (φ := fun c => φ (bI c)) hi (by simpa [bI] using c2)]; rfl)⟩
  ·skip
   refine W.skip ?_
   refine blockK_n ?_
   refine thenK_n ?_
   refine W.region ?_
   refine S.pure tOk zOk rfl rfl rfl ?_
   refine S.pure tOk zOk rfl rfl rfl ?_
   refine S.pure tOk zOk rfl rfl rfl ?_
   refine loop_n (s.length - (i + 1)) (by omega) ⟨i + 1, by omega, all_take_succ (d := 0) (φ := fun c => φ (bI c)) hi f0_1 (by simpa [bI] using c2), rfl, _, _, _, _, rfl, rfl, rfl, rfl, inc_i64 (by omega), trivial⟩
 ·skip
  have hi : s.length ≤ i := by simpa using c1
  refine W.exit ?_
  refine thenK_e ?_
  refine thenK_e ?_
  refine blockK_x ?_
  refine thenK_n ?_
  refine W.seq ?_
  refine W.region ?_
  refine S.pure tOk zOk rfl rfl rfl ?_
  refine S.pure tOk zOk rfl rfl rfl ?_
  refine S.pure tOk zOk rfl rfl rfl ?_
  refine S.pureG tOk zOk rfl rfl tg (fun _ => rfl) rfl ?_
  refine S.pureG tOk zOk rfl rfl tg (fun _ => rfl) rfl ?_
  refine S.pureG tOk zOk rfl rfl tg (fun _ => rfl) rfl ?_
  refine S.pureG tOk zOk rfl rfl tg (fun _ => rfl) rfl ?_
  refine S.pickAnd tOk zOk rfl rfl tg ?_
  refine S.pure tOk zOk rfl rfl rfl ?_
  refine thenK_n ?_
  refine W.ret ?_
  exact ⟨_, rfl, rfl, LeV.of_eq (by rw [eachB, all_of_take hi f0_1]; rfl)⟩
theorem pc_ver_isPart_1 (c : Int) :
  PureCall Tryz.prog J 133 [.one (.d (.int .u8 c))] (.one (.d (.bool (partC' c)))) := by
 refine PureCall.of_body tOk (fn := Tryz.f133) Tryz.func133 (by kernel_rfl) rfl (Nat.le_of_ble_eq_true rfl) (fun E => ?_)
 refine W.seq ?_
 refine W.region ?_
 refine S.pure tOk zOk rfl rfl rfl ?_
 refine thenK_n ?_
 refine W.seq ?_
 refine W.region ?_
 refine S.pure tOk zOk rfl rfl rfl ?_
 refine S.call rfl rfl rfl rfl rfl (pc_ver_isSmall _) ?_
 refine S.pure tOk zOk rfl rfl rfl ?_
 refine S.pureG tOk zOk rfl rfl tg (fun _ => rfl) rfl ?_
 refine S.pureG tOk zOk rfl rfl tg (fun _ => rfl) rfl ?_
 refine S.pureG tOk zOk rfl rfl tg (fun _ => rfl) rfl ?_
 refine S.pureG tOk zOk rfl rfl tg (fun _ => rfl) rfl ?_
 refine S.pureG tOk zOk rfl rfl tg (fun _ => rfl) rfl ?_
 refine S.pickAndG tOk zOk rfl rfl rfl tg tg ?_
 refine S.pickOr tOk zOk rfl rfl tg ?_
 refine S.pure tOk zOk rfl rfl rfl ?_
 refine S.pureG tOk zOk rfl rfl tg (fun _ => rfl) rfl ?_
 refine S.callG rfl rfl rfl rfl tg rfl rfl (fun _ => pc_ver_isDigit _) ?_
 refine S.pickOr tOk zOk rfl rfl tg ?_
 refine S.pure tOk zOk rfl rfl rfl ?_
 refine S.pureG tOk zOk rfl rfl tg (fun _ => rfl) rfl ?_
 refine S.pureG tOk zOk rfl rfl tg (fun _ => rfl) rfl ?_
 refine S.pickOr tOk zOk rfl rfl tg ?_
 refine S.pure tOk zOk rfl rfl rfl ?_
 refine S.pureG tOk zOk rfl rfl tg (fun _ => rfl) rfl ?_
 refine S.pureG tOk zOk rfl rfl tg (fun _ => rfl) rfl ?_
 refine S.pickOr tOk zOk rfl rfl tg ?_
 refine S.pure tOk zOk rfl rfl rfl ?_
 refine S.pureG tOk zOk rfl rfl tg (fun _ => rfl) rfl ?_
 refine S.pureG tOk zOk rfl rfl tg (fun _ => rfl) rfl ?_
 refine S.pickOr tOk zOk rfl rfl tg ?_
 refine S.pure tOk zOk rfl rfl rfl ?_
 refine thenK_n ?_
 refine W.ret ?_
 exact ⟨_, rfl, rfl, LeV.refl _⟩
theorem pc_ver_isPart (s : List UInt8) (hs : s.length < 4294967281) :
  PureCall Tryz.prog J 86 [.one (.d (.str s))] (.one (.d (.bool (partB s)))) := by
 refine PureCall.of_body tOk (fn := Tryz.f86) Tryz.func86 (by kernel_rfl) rfl (Nat.le_of_ble_eq_true rfl) (fun E => ?_)
 refine W.seq ?_
 refine W.region ?_
 refine S.pure tOk zOk rfl rfl rfl ?_
 refine thenK_n ?_
 refine W.seq ?_
 refine W.region ?_
 refine S.pure tOk zOk rfl rfl rfl ?_
 refine thenK_n ?_
 refine W.seq ?_
 refine W.region ?_
 refine S.pure tOk zOk rfl rfl rfl ?_
 refine S.pure tOk zOk rfl rfl rfl ?_
 refine S.call rfl rfl rfl rfl rfl (pc_ver_each _ _ _ _ (by omega) (fun c => pc_ver_isPart_1 c)) ?_
 refine S.pure tOk zOk rfl rfl rfl ?_
 refine S.pureG tOk zOk rfl rfl tg (fun _ => rfl) rfl ?_
 refine S.pureG tOk zOk rfl rfl tg (fun _ => rfl) rfl ?_
 refine S.pickAnd tOk zOk rfl rfl tg ?_
 refine S.pure tOk zOk rfl rfl rfl ?_
 refine S.pureG tOk zOk rfl rfl tg (fun _ => rfl) rfl ?_
 refine S.pureG tOk zOk rfl rfl tg (fun _ => rfl) rfl ?_
 refine S.pickAnd tOk zOk rfl rfl tg ?_
 refine S.pure tOk zOk rfl rfl rfl ?_
 refine thenK_n ?_
 refine W.ret ?_
 exact ⟨_, rfl, rfl, LeV.refl _⟩
theorem pc_ver_IsPath (s : List UInt8) (hs : s.length < 4294967281) :
  PureCall Tryz.prog J 36 [.one (.d (.str s))] (.one (.d (.bool (pathB s)))) := by
 have hl := split_le s [47]
 have hm := fun i => @split_at s [47] i
 refine PureCall.of_body tOk (fn := Tryz.f36) Tryz.func36 (by kernel_rfl) rfl (Nat.le_of_ble_eq_true rfl) (fun E => ?_)
 refine W.seq ?_
 refine W.region ?_
 refine S.pure tOk zOk rfl rfl rfl ?_
 refine thenK_n ?_
 refine W.seq ?_
 refine W.seq ?_
 refine W.region ?_
 refine S.pure tOk zOk rfl rfl rfl ?_
 refine S.call rfl rfl rfl rfl rfl (pc_Split _ _ hs (by decide)) ?_
 refine S.pure tOk zOk rfl rfl rfl ?_
 refine S.pure tOk zOk rfl rfl rfl ?_
 refine thenK_n ?_
 refine W.block ?_
 refine W.loop (fun k st => ∃ i : Nat, i ≤ (Lib.split s [47]).length ∧ ((Lib.split s [47]).take i).all partB = true ∧ k = (Lib.split s [47]).length - i ∧ ∃ t b2 r2 m2, st = ⟨t, [] ++ b2, [] ++ r2, [] ++ m2⟩ ∧ holdsL t [(0, .one (.d (.str s))), (6, .one (.d (.vec 1 ((Lib.split s [47]).map fun x => [.str x])))), (7, .one (.d (.int .i64 (((Lib.split s [47]).map fun x => ([.str x] : List D)).length : Int)))), (8, .one (.d (.int .i64 (i : Int))))]) ((Lib.split s [47]).length) ⟨0, Nat.zero_le _, by simp, rfl, _, _, _, _, rfl, rfl, rfl, rfl, rfl, trivial⟩ ?_
 rintro k0 _ ⟨i, f0_0, f0_1, rfl, t0, bb0, rr0, mm0, rfl, hh0⟩
 refine W.keepR _ _ _ _ _ _ _ hh0 rfl ?_
 refine W.seq ?_
 refine W.region ?_
 refine S.pure tOk zOk rfl rfl rfl ?_
 refine thenK_n ?_
 refine W.seq ?_
 refine W.cond rfl (fun c1 => ?_) (fun c1 => ?_)
 ·skip
  have hi := row_lt c1
  refine W.skip ?_
  refine thenK_n ?_
  refine W.seq ?_
  refine W.block ?_
  refine W.seq ?_
  refine W.region ?_
  refine S.pureE tOk zOk rfl (row_ok hi) (row_at [] hi) rfl ?_
  refine S.pure tOk zOk rfl rfl rfl ?_
  refine S.pure tOk zOk rfl rfl rfl ?_
  refine thenK_n ?_
  refine W.seq ?_
  refine W.region ?_
  refine S.pure tOk zOk rfl rfl rfl ?_
  refine S.call rfl rfl rfl rfl rfl (pc_ver_isPart _ (by have := hm i; omega)) ?_
  refine S.pure tOk zOk rfl rfl rfl ?_
  refine thenK_n ?_
  refine W.cond rfl (fun c2 => ?_) (fun c2 => ?_)
  ·skip
   refine W.seq ?_
   refine W.region ?_
   refine S.pure tOk zOk rfl rfl rfl ?_
   refine thenK_n ?_
   refine W.ret ?_
   refine blockK_r ?_
   refine thenK_r ?_
   refine thenK_r ?_
   refine blockK_r ?_
   refine thenK_r ?_
   exact ⟨_, rfl, rfl, LeV.of_eq (by rw [pathB, all_false_of (d := []) hi (by simpa using c2)]; rfl)⟩
  ·skip
   refine W.skip ?_
   refine blockK_n ?_
   refine thenK_n ?_
   refine W.region ?_
   refine S.pure tOk zOk rfl rfl rfl ?_
   refine S.pure tOk zOk rfl rfl rfl ?_
   refine loop_n ((Lib.split s [47]).length - (i + 1)) (by omega) ⟨i + 1, hi, all_take_succ (d := []) hi f0_1 (by simpa using c2), rfl, _, _, _, _, rfl, rfl, rfl, rfl, inc_i64 (by omega), trivial⟩
 ·skip
  have hi := row_ge c1
  refine W.exit ?_
  refine thenK_e ?_
  refine thenK_e ?_
  refine blockK_x ?_
  refine thenK_n ?_
  refine W.seq ?_
  refine W.region ?_
  refine S.pure tOk zOk rfl rfl rfl ?_
  refine S.pure tOk zOk rfl rfl rfl ?_
  refine S.pure tOk zOk rfl rfl rfl ?_
  refine S.pure tOk zOk rfl rfl rfl ?_
  refine thenK_n ?_
  refine W.ret ?_
  exact ⟨_, rfl, rfl, LeV.of_eq (by rw [pathB, all_of_take hi f0_1]; rfl)⟩
theorem pc_ver_IsValue_1 (c : Int) :
  PureCall Tryz.prog J 88 [.one (.d (.int .u8 c))] (.one (.d (.bool (valueC c)))) := by
 refine PureCall.of_body tOk (fn := Tryz.f88) Tryz.func88 (by kernel_rfl) rfl (Nat.le_of_ble_eq_true rfl) (fun E => ?_)
 refine W.seq ?_
 refine W.region ?_
 refine S.pure tOk zOk rfl rfl rfl ?_
 refine thenK_n ?_
 refine W.seq ?_
 refine W.region ?_
 refine S.pure tOk zOk rfl rfl rfl ?_
 refine S.pure tOk zOk rfl rfl rfl ?_
 refine S.pure tOk zOk rfl rfl rfl ?_
 refine S.pureG tOk zOk rfl rfl tg (fun _ => rfl) rfl ?_
 refine S.pureG tOk zOk rfl rfl tg (fun _ => rfl) rfl ?_
 refine S.pickAnd tOk zOk rfl rfl tg ?_
 refine S.pure tOk zOk rfl rfl rfl ?_
 refine thenK_n ?_
 refine W.ret ?_
 exact ⟨_, rfl, rfl, LeV.refl _⟩
theorem pc_ver_IsValue (s : List UInt8) (hs : s.length < 4294967281) :
  PureCall Tryz.prog J 37 [.one (.d (.str s))] (.one (.d (.bool (valueB s)))) := by
 refine PureCall.of_body tOk (fn := Tryz.f37) Tryz.func37 (by kernel_rfl) rfl (Nat.le_of_ble_eq_true rfl) (fun E => ?_)
 refine W.seq ?_
 refine W.region ?_
 refine S.pure tOk zOk rfl rfl rfl ?_
 refine thenK_n ?_
 refine W.seq ?_
 refine W.region ?_
 refine S.pure tOk zOk rfl rfl rfl ?_
 refine S.pure tOk zOk rfl rfl rfl ?_
 refine S.pure tOk zOk rfl rfl rfl ?_
 refine S.pureG tOk zOk rfl rfl tg (fun _ => rfl) rfl ?_
 refine S.callG rfl rfl rfl rfl tg rfl rfl (fun _ => pc_ver_each _ _ _ _ (by omega) (fun c => pc_ver_IsValue_1 c)) ?_
 refine S.pickOr tOk zOk rfl rfl tg ?_
 refine S.pure tOk zOk rfl rfl rfl ?_
 refine thenK_n ?_
 refine W.ret ?_
 exact ⟨_, rfl, rfl, LeV.refl _⟩
end Go.Proofs.YtgknfikdajoiaaaGreatDoor
namespace Go.Proofs.YtgknfikdajoiaaaGreatDoor
open Go
open Go.RowKit
theorem pc_outref2_inner (s cs : List UInt8) (hs : s.length < 4294967281) :
  PureCall Tryz.prog J 130 [.one (.d (.str s)), .one (.d (.str cs))] (.one (.d (.bool (ofB s cs)))) := by
 refine PureCall.of_body tOk (fn := Tryz.f130) Tryz.func130 (by kernel_rfl) rfl (Nat.le_of_ble_eq_true rfl) (fun E => ?_)
 refine W.seq ?_
 refine W.region ?_
 refine S.pure tOk zOk rfl rfl rfl ?_
 refine thenK_n ?_
 refine W.seq ?_
 refine W.seq ?_
 refine W.region ?_
 refine S.pure tOk zOk rfl rfl rfl ?_
 refine S.pure tOk zOk rfl rfl rfl ?_
 refine S.pure tOk zOk rfl rfl rfl ?_
 refine thenK_n ?_
 refine W.block ?_
 refine W.loop (fun k st => ∃ i : Nat, i ≤ s.length ∧ (s.take i).all (fun c => cs.contains c) = true ∧ k = s.length - i ∧ ∃ t b2 r2 m2, st = ⟨t, [] ++ b2, [] ++ r2, [] ++ m2⟩ ∧ holdsL t [(0, .one (.d (.str s))), (1, .one (.d (.str cs))), (7, .one (.d (.int .i64 (s.length : Int)))), (8, .one (.d (.int .i64 (i : Int))))]) (s.length) ⟨0, Nat.zero_le _, by simp, rfl, _, _, _, _, rfl, rfl, rfl, rfl, rfl, trivial⟩ ?_
 rintro k0 _ ⟨i, f0_0, f0_1, rfl, t0, bb0, rr0, mm0, rfl, hh0⟩
 refine W.keepR _ _ _ _ _ _ _ hh0 rfl ?_
 refine W.seq ?_
 refine W.region ?_
 refine S.pure tOk zOk rfl rfl rfl ?_
 refine thenK_n ?_
 refine W.seq ?_
 refine W.cond rfl (fun c1 => ?_) (fun c1 => ?_)
 ·skip
  have hi : i < s.length := by simpa using c1
  refine W.skip ?_
  refine thenK_n ?_
  refine W.seq ?_
  refine W.block ?_
  refine W.seq ?_
  refine W.region ?_
  refine S.pure tOk zOk rfl rfl rfl ?_
  refine S.pure tOk zOk rfl rfl rfl ?_
  refine thenK_n ?_
  refine W.seq ?_
  refine W.region ?_
  refine S.pure tOk zOk rfl rfl rfl ?_
  refine S.pure tOk zOk rfl rfl rfl ?_
  refine S.pure tOk zOk rfl rfl rfl ?_
  refine S.pure tOk zOk rfl (str_ok hi) rfl ?_
  refine S.call rfl rfl rfl rfl rfl (pc_IndexByte _ _) ?_
  refine S.pure tOk zOk rfl rfl rfl ?_
  refine thenK_n ?_
  refine W.cond rfl (fun c2 => ?_) (fun c2 => ?_)
  ·skip
   refine W.seq ?_
   refine W.region ?_
   refine S.pure tOk zOk rfl rfl rfl ?_
   refine thenK_n ?_
   refine W.ret ?_
   refine blockK_r ?_
   refine thenK_r ?_
   refine thenK_r ?_
   refine blockK_r ?_
   refine thenK_r ?_
   exact ⟨_, rfl, rfl, LeV.of_force rfl (by rw [ofB, all_false_of (d := 0) hi (in_f c2)]; rfl)⟩
  ·skip
   refine W.skip ?_
   refine blockK_n ?_
   refine thenK_n ?_
   refine W.region ?_
   refine S.pure tOk zOk rfl rfl rfl ?_
   refine S.pure tOk zOk rfl rfl rfl ?_
   refine loop_n (s.length - (i + 1)) (by omega) ⟨i + 1, by omega, all_take_succ (d := 0) (φ := fun c => cs.contains c) hi f0_1 (in_t c2), rfl, _, _, _, _, rfl, rfl, rfl, rfl, inc_i64 (by omega), trivial⟩
 ·skip
  have hi : s.length ≤ i := by simpa using c1
  refine W.exit ?_
  refine thenK_e ?_
  refine thenK_e ?_
  refine blockK_x ?_
  refine thenK_n ?_
  refine W.seq ?_
  refine W.region ?_
  refine S.pure tOk zOk rfl rfl rfl ?_
  refine thenK_n ?_
  refine W.ret ?_
  exact ⟨_, rfl, rfl, LeV.of_force rfl (by rw [ofB, all_of_take hi f0_1]; rfl)⟩
theorem pc_outref2_Of (s cs : List UInt8) (hcs : cs.length < 4294967281) (ha : cs.all (fun b => decide (b.toNat < 128)) = true) (hs : s.length < 4294967281) :
  PureCall Tryz.prog J 82 [.one (.d (.str s)), .one (.d (.str cs))] (.one (.d (.bool (ofB s cs)))) := by
 refine PureCall.of_body tOk (fn := Tryz.f82) Tryz.func82 (by kernel_rfl) rfl (Nat.le_of_ble_eq_true rfl) (fun E => ?_)
 refine W.seq ?_
 refine W.region ?_
 refine S.pure tOk zOk rfl rfl rfl ?_
 refine thenK_n ?_
 refine W.seq ?_
 refine W.region ?_
 refine S.pure tOk zOk rfl rfl rfl ?_
 refine S.pure tOk zOk rfl rfl rfl ?_
 refine S.call rfl rfl rfl rfl rfl (pc_Trim _ _ (by omega) hcs ha) ?_
 refine S.pure tOk zOk rfl rfl rfl ?_
 refine S.pure tOk zOk rfl rfl rfl ?_
 refine S.pureG tOk zOk rfl rfl tg (fun _ => rfl) rfl ?_
 refine S.pureG tOk zOk rfl rfl tg (fun _ => rfl) rfl ?_
 refine S.callG rfl rfl rfl rfl tg rfl rfl (fun _ => pc_outref2_inner _ _ (by omega)) ?_
 refine S.pickAnd tOk zOk rfl rfl tg ?_
 refine S.pure tOk zOk rfl rfl rfl ?_
 refine thenK_n ?_
 refine W.ret ?_
 exact ⟨_, rfl, rfl, LeV.of_eq (congrArg (fun b => V.one (C.d (D.bool b))) (of_eq s cs))⟩
theorem pc_outref2_PathOf (s : List UInt8) (hs : s.length < 4294967281) :
  PureCall Tryz.prog J 30 [.one (.d (.str s))] (.one (.d (.bool (pathB s)))) := by
 have hl := split_le s [47]
 have hm := fun i => @split_at s [47] i
 refine PureCall.of_body tOk (fn := Tryz.f30) Tryz.func30 (by kernel_rfl) rfl (Nat.le_of_ble_eq_true rfl) (fun E => ?_)
 refine W.seq ?_
 refine W.region ?_
 refine S.pure tOk zOk rfl rfl rfl ?_
 refine thenK_n ?_
 refine W.seq ?_
 refine W.seq ?_
 refine W.region ?_
 refine S.pure tOk zOk rfl rfl rfl ?_
 refine S.pure tOk zOk rfl rfl rfl ?_
 refine S.pure tOk zOk rfl rfl rfl ?_
 refine thenK_n ?_
 refine W.cond rfl (fun c1 => ?_) (fun c1 => ?_)
 ·skip
  refine W.seq ?_
  refine W.region ?_
  refine S.pure tOk zOk rfl rfl rfl ?_
  refine thenK_n ?_
  refine W.ret ?_
  refine thenK_r ?_
  exact ⟨_, rfl, rfl, LeV.of_force rfl (by rw [pathB, Bool.and_comm, not_le_of c1]; rfl)⟩
 ·skip
  refine W.skip ?_
  refine thenK_n ?_
  refine W.seq ?_
  refine W.seq ?_
  refine W.region ?_
  refine S.pure tOk zOk rfl rfl rfl ?_
  refine S.call rfl rfl rfl rfl rfl (pc_Split _ _ hs (by decide)) ?_
  refine S.pure tOk zOk rfl rfl rfl ?_
  refine S.pure tOk zOk rfl rfl rfl ?_
  refine thenK_n ?_
  refine W.block ?_
  refine W.loop (fun k st => ∃ i : Nat, i ≤ (Lib.split s [47]).length ∧ ((Lib.split s [47]).take i).all partB = true ∧ k = (Lib.split s [47]).length - i ∧ ∃ t b2 r2 m2, st = ⟨t, [] ++ b2, [] ++ r2, [] ++ m2⟩ ∧ holdsL t [(9, .one (.d (.vec 1 ((Lib.split s [47]).map fun x => [.str x])))), (10, .one (.d (.int .i64 (((Lib.split s [47]).map fun x => ([.str x] : List D)).length : Int)))), (11, .one (.d (.int .i64 (i : Int))))]) ((Lib.split s [47]).length) ⟨0, Nat.zero_le _, by simp, rfl, _, _, _, _, rfl, rfl, rfl, rfl, trivial⟩ ?_
  rintro k0 _ ⟨i, f0_0, f0_1, rfl, t0, bb0, rr0, mm0, rfl, hh0⟩
  refine W.keepR _ _ _ _ _ _ _ hh0 rfl ?_
  refine W.seq ?_
  refine W.region ?_
  refine S.pure tOk zOk rfl rfl rfl ?_
  refine thenK_n ?_
  refine W.seq ?_
  refine W.cond rfl (fun c2 => ?_) (fun c2 => ?_)
  ·skip
   have hi := row_lt c2
   refine W.skip ?_
   refine thenK_n ?_
   refine W.seq ?_
   refine W.block ?_
   refine W.seq ?_
   refine W.region ?_
   refine S.pureE tOk zOk rfl (row_ok hi) (row_at [] hi) rfl ?_
   refine S.pure tOk zOk rfl rfl rfl ?_
   refine S.pure tOk zOk rfl rfl rfl ?_
   refine thenK_n ?_
   refine W.seq ?_
   refine W.region ?_
   refine S.pure tOk zOk rfl rfl rfl ?_
   refine S.pure tOk zOk rfl rfl rfl ?_
   refine S.pure tOk zOk rfl rfl rfl ?_
   refine S.pureG tOk zOk rfl rfl tg (fun _ => rfl) rfl ?_
   refine S.pureG tOk zOk rfl rfl tg (fun _ => rfl) rfl ?_
   refine S.pickOr tOk zOk rfl rfl tg ?_
   refine S.pure tOk zOk rfl rfl rfl ?_
   refine S.pureG tOk zOk rfl rfl tg (fun _ => rfl) rfl ?_
   refine S.pureG tOk zOk rfl rfl tg (fun _ => rfl) rfl ?_
   refine S.pickOr tOk zOk rfl rfl tg ?_
   refine S.pure tOk zOk rfl rfl rfl ?_
   refine S.pureG tOk zOk rfl rfl tg (fun _ => rfl) rfl ?_
   refine S.pureG tOk zOk rfl rfl tg (fun _ => rfl) rfl ?_
   refine S.pureG tOk zOk rfl rfl tg (fun _ => rfl) rfl ?_
   refine S.pickOr tOk zOk rfl rfl tg ?_
   refine S.pure tOk zOk rfl rfl rfl ?_
   refine S.pureG tOk zOk rfl rfl tg (fun _ => rfl) rfl ?_
   refine S.callG rfl rfl rfl rfl tg rfl rfl (fun _ => pc_outref2_Of _ partS (by decide) (by decide) (by have := hm i; omega)) ?_
   refine S.pureG tOk zOk rfl rfl tg (fun _ => rfl) rfl ?_
   refine S.pickOr tOk zOk rfl rfl tg ?_
   refine thenK_n ?_
   refine W.cond rfl (fun c3 => ?_) (fun c3 => ?_)
   ·skip
    refine W.seq ?_
    refine W.region ?_
    refine S.pure tOk zOk rfl rfl rfl ?_
    refine thenK_n ?_
    refine W.ret ?_
    refine blockK_r ?_
    refine thenK_r ?_
    refine thenK_r ?_
    refine blockK_r ?_
    refine thenK_r ?_
    exact ⟨_, rfl, rfl, LeV.of_force rfl (by rw [pathB, all_false_of (d := []) hi (path_f c3)]; rfl)⟩
   ·skip
    refine W.skip ?_
    refine blockK_n ?_
    refine thenK_n ?_
    refine W.region ?_
    refine S.pure tOk zOk rfl rfl rfl ?_
    refine S.pure tOk zOk rfl rfl rfl ?_
    refine loop_n ((Lib.split s [47]).length - (i + 1)) (by omega) ⟨i + 1, hi, all_take_succ (d := []) hi f0_1 (path_t c3), rfl, _, _, _, _, rfl, rfl, rfl, inc_i64 (by omega), trivial⟩
  ·skip
   have hi := row_ge c2
   refine W.exit ?_
   refine thenK_e ?_
   refine thenK_e ?_
   refine blockK_x ?_
   refine thenK_n ?_
   refine W.seq ?_
   refine W.region ?_
   refine S.pure tOk zOk rfl rfl rfl ?_
   refine thenK_n ?_
   refine W.ret ?_
   exact ⟨_, rfl, rfl, LeV.of_force rfl (by rw [pathB, all_of_take hi f0_1, le_of c1]; rfl)⟩
theorem pc_outref2_ValueOf (s : List UInt8) (hs : s.length < 4294967281) :
  PureCall Tryz.prog J 31 [.one (.d (.str s))] (.one (.d (.bool (valueB s)))) := by
 refine PureCall.of_body tOk (fn := Tryz.f31) Tryz.func31 (by kernel_rfl) rfl (Nat.le_of_ble_eq_true rfl) (fun E => ?_)
 refine W.seq ?_
 refine W.region ?_
 refine S.pure tOk zOk rfl rfl rfl ?_
 refine thenK_n ?_
 refine W.seq ?_
 refine W.seq ?_
 refine W.region ?_
 refine S.pure tOk zOk rfl rfl rfl ?_
 refine S.pure tOk zOk rfl rfl rfl ?_
 refine S.pure tOk zOk rfl rfl rfl ?_
 refine thenK_n ?_
 refine W.block ?_
 refine W.loop (fun k st => ∃ i : Nat, i ≤ s.length ∧ (s.take i).all (fun c => !(decide (bI c < 32) || decide (bI c > 126))) = true ∧ k = s.length - i ∧ ∃ t b2 r2 m2, st = ⟨t, [] ++ b2, [] ++ r2, [] ++ m2⟩ ∧ holdsL t [(0, .one (.d (.str s))), (5, .one (.d (.int .i64 (s.length : Int)))), (6, .one (.d (.int .i64 (i : Int))))]) (s.length) ⟨0, Nat.zero_le _, by simp, rfl, _, _, _, _, rfl, rfl, rfl, rfl, trivial⟩ ?_
 rintro k0 _ ⟨i, f0_0, f0_1, rfl, t0, bb0, rr0, mm0, rfl, hh0⟩
 refine W.keepR _ _ _ _ _ _ _ hh0 rfl ?_
 refine W.seq ?_
 refine W.region ?_
 refine S.pure tOk zOk rfl rfl rfl ?_
 refine thenK_n ?_
 refine W.seq ?_
 refine W.cond rfl (fun c1 => ?_) (fun c1 => ?_)
 ·skip
  have hi : i < s.length := by simpa using c1
  refine W.skip ?_
  refine thenK_n ?_
  refine W.seq ?_
  refine W.block ?_
  refine W.seq ?_
  refine W.region ?_
  refine S.pure tOk zOk rfl rfl rfl ?_
  refine S.pure tOk zOk rfl rfl rfl ?_
  refine thenK_n ?_
  refine W.seq ?_
  refine W.region ?_
  refine S.pure tOk zOk rfl rfl rfl ?_
  refine S.pure tOk zOk rfl rfl rfl ?_
  refine S.pure tOk zOk rfl (str_ok hi) rfl ?_
  refine S.pure tOk zOk rfl rfl rfl ?_
  refine S.pure tOk zOk rfl rfl rfl ?_
  refine S.pureG tOk zOk rfl rfl tg (fun _ => rfl) rfl ?_
  refine S.pureG tOk zOk rfl rfl tg (fun _ => rfl) rfl ?_
  refine S.pureG tOk zOk rfl rfl tg (fun _ => str_ok hi) rfl ?_
  refine S.pureG tOk zOk rfl rfl tg (fun _ => rfl) rfl ?_
  refine S.pickOr tOk zOk rfl rfl tg ?_
  refine thenK_n ?_
  refine W.cond rfl (fun c2 => ?_) (fun c2 => ?_)
  ·skip
   refine W.seq ?_
   refine W.region ?_
   refine S.pure tOk zOk rfl rfl rfl ?_
   refine thenK_n ?_
   refine W.ret ?_
   refine blockK_r ?_
   refine thenK_r ?_
   refine thenK_r ?_
   refine blockK_r ?_
   refine thenK_r ?_
   exact ⟨_, rfl, rfl, LeV.of_force rfl (by rw [← valueR, all_false_of (d := 0) hi (not_t c2)]; rfl)⟩
  ·skip
   refine W.skip ?_
   refine blockK_n ?_
   refine thenK_n ?_
   refine W.region ?_
   refine S.pure tOk zOk rfl rfl rfl ?_
   refine S.pure tOk zOk rfl rfl rfl ?_
   refine loop_n (s.length - (i + 1)) (by omega) ⟨i + 1, by omega, all_take_succ (d := 0) hi f0_1 (not_f c2), rfl, _, _, _, _, rfl, rfl, rfl, inc_i64 (by omega), trivial⟩
 ·skip
  have hi : s.length ≤ i := by simpa using c1
  refine W.exit ?_
  refine thenK_e ?_
  refine thenK_e ?_
  refine blockK_x ?_
  refine thenK_n ?_
  refine W.seq ?_
  refine W.region ?_
  refine S.pure tOk zOk rfl rfl rfl ?_
  refine S.pure tOk zOk rfl rfl rfl ?_
  refine S.pure tOk zOk rfl rfl rfl ?_
  refine S.pure tOk zOk rfl rfl rfl ?_
  refine thenK_n ?_
  refine W.ret ?_
  exact ⟨_, rfl, rfl, LeV.of_force rfl (by rw [← valueR, all_of_take hi f0_1]; rfl)⟩
end Go.Proofs.YtgknfikdajoiaaaGreatDoor
namespace Go.Proofs.YtgknfikdajoiaaaGreatDoor
open Go
open Go.RowKit
attribute [local irreducible] Lib.split Lib.trimPrefix Lib.hasPrefix
end Go.Proofs.YtgknfikdajoiaaaGreatDoor
namespace Go.Proofs.YtgknfikdajoiaaaGreatDoor
open Go
open Go.RowKit
attribute [local irreducible] pathB valueB
end Go.Proofs.YtgknfikdajoiaaaGreatDoor
namespace Go.Proofs.YtgknfikdajoiaaaGreatDoor
open Go
open Go.RowKit
attribute [local irreducible] pathB valueB
end Go.Proofs.YtgknfikdajoiaaaGreatDoor
namespace Go.Proofs.YtgknfikdajoiaaaGreatDoor
open Go
structure Rul where
  kd : Int
  k : L8
  tu : L8
  old : L8
  nu : L8
def Rul.z : Rul := ⟨0, [], [], [], []⟩
def rulD (r : Rul) : List D := [.int .i64 r.kd, .str r.k, .str r.tu, .str r.old, .str r.nu]
end Go.Proofs.YtgknfikdajoiaaaGreatDoor
namespace Go.Proofs.YtgknfikdajoiaaaGreatDoor
open Go
def usTu (kd : Int) : Bool := kd == 1 || kd == 2 || kd == 3
def usOld (kd : Int) : Bool := kd == 7 || kd == 8
def usNew (kd : Int) : Bool := kd == 4 || kd == 5 || kd == 7 || kd == 8
def belowB (a b : L8) : Bool := Lib.hasPrefix a (b ++ [47])
def ruleC (r : Rul) : Int :=
  if decide (r.kd < 1) || decide (r.kd > 8) then 1
  else if !pathB r.k || usTu r.kd && !pathB r.tu then 5
  else if !usTu r.kd && !(r.tu == []) || !usOld r.kd && !(r.old == []) || !usNew r.kd && !(r.nu == []) || !valueB r.old || !valueB r.nu then 2
  else if usTu r.kd && r.k == r.tu then 11
  else if r.kd == 2 && (belowB r.k r.tu || belowB r.tu r.k) then 13
  else if usOld r.kd && r.old == r.nu then 11
  else 0
theorem path_len {s : L8} (h : pathB s = true) : s.length ≤ 200 := by
  unfold pathB at h
  rw [Bool.and_eq_true] at h
  have := of_decide_eq_true h.2
  omega
theorem path_nil : pathB [] = false := by decide
structure RulOk (r : Rul) : Prop where
  lo : 1 ≤ r.kd
  hi : r.kd ≤ 8
  k : pathB r.k = true
  tu : usTu r.kd = true → pathB r.tu = true
  tu0 : usTu r.kd = false → r.tu = []
  old0 : usOld r.kd = false → r.old = []
  nu0 : usNew r.kd = false → r.nu = []
  vo : valueB r.old = true
  vn : valueB r.nu = true
theorem rul_ok {r : Rul} (h : ruleC r = 0) : RulOk r := by
  unfold ruleC at h
  repeat' split at h
  all_goals first | (cases h; done) | skip
  rename_i h1 h2 h3 h4 h5 h6
  simp only [Bool.or_eq_true, Bool.and_eq_true, decide_eq_true_eq, Bool.not_eq_true', not_or, not_and, beq_eq_false_iff_ne, ne_eq, Bool.not_eq_false] at h1 h2 h3
  refine ⟨by omega, by omega, h2.1, h2.2, fun h => ?_, fun h => ?_, fun h => ?_, h3.1.2, h3.2⟩
  · exact Classical.not_not.1 (h3.1.1.1.1 h)
  · exact Classical.not_not.1 (h3.1.1.1.2 h)
  · exact Classical.not_not.1 (h3.1.1.2 h)
theorem RulOk.len {r : Rul} (h : RulOk r) : r.k.length ≤ 200 ∧ r.tu.length ≤ 200 := by
  refine ⟨path_len h.k, ?_⟩
  cases hu : usTu r.kd with
  | true => exact path_len (h.tu hu)
  | false => rw [h.tu0 hu]; simp
def invR (r : Rul) : Rul × Int :=
  if ruleC r != 0 then (Rul.z, ruleC r) else if r.kd == 1 || r.kd == 2 then (⟨r.kd, r.tu, r.k, r.old, r.nu⟩, 0) else if r.kd == 7 then (⟨r.kd, r.k, r.tu, r.nu, r.old⟩, 0) else if r.kd == 8 then (r, 0) else (Rul.z, 12)
end Go.Proofs.YtgknfikdajoiaaaGreatDoor
