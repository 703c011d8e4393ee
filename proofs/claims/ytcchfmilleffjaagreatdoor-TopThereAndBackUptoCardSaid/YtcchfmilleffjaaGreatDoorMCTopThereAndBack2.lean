/- Part 2 of a proof: A22, A23, A24, A25, A26, A27, A28, A29, A30, A32, A33, A34, A35, A36, V10, V11, V12, V13, V14, V15, V16, V21, W30, V20, W31, A37, A39, A40, A41, V60, V61. -/
import Derived.Shelf.Spec.SlicesGrow
import Derived.Laws.BytesArg
import Derived.MapKept
import Derived.Laws.MakeOwn
import Derived.Lib.ConvBytes
import Derived.Sort.KeysCollected
import Derived.Laws.AppendOwn
import Derived.Test.YtcchfmilleffjaaGreatDoorMCTopThereAndBack1
set_option linter.unusedVariables false
set_option linter.unusedSimpArgs false
namespace Go.Proofs.YtcchfmilleffjaaGreatDoor
open Go Go.RowKit
def hst (b : List (List C)) (r : List (Option RowO)) (m : List (List (DV × DV))) : St := ⟨fun _ => .junk, b, r, m⟩
abbrev HPost := V → List (List C) → List (Option RowO) → List (List (DV × DV)) → Prop
theorem Heap.t {g : Gh} {b : List (List C)} {r : List (Option RowO)} {m : List (List (DV × DV))} {w : World} {t : Nat → V} (t' : Nat → V) (h : Heap g ⟨t, b, r, m⟩ w) : Heap g ⟨t', b, r, m⟩ w :=
  ⟨fun x hx => h.lt x (by cases x <;> exact hx), fun x hx => h.new x (by cases x <;> exact hx), fun x y hx hy => h.inj x y (by cases x <;> exact hx) (by cases y <;> exact hy), h.box, h.row, h.map⟩
theorem live_t {b : List (List C)} {r : List (Option RowO)} {m : List (List (DV × DV))} {t t' : Nat → V} {x : Loc} (h : (⟨t, b, r, m⟩ : St).live x) : (⟨t', b, r, m⟩ : St).live x := by cases x <;> exact h
structure HCall (P : Program) (J : Inv) (f : FuncId) (args : List V) (b : List (List C)) (r : List (Option RowO)) (m : List (List (DV × DV))) (Q : HPost) : Prop where
  enter : ∃ fn, P.funcs[f]? = some fn ∧ (fn.name == "runtime.NumGoroutine") = false ∧ fn.body.isNone = false
  calls : ∀ (g : Gh) (w : World) (vs : List Value), J.I w → (∀ k, g.im k → k < w.heap.size) → Heap g (hst b r m) w → (∀ x, (hst b r m).live x → J.N ≤ g.at_ x) → vs.length = args.length →
    (∀ (i : Nat) (u : V) (v : Value), args[i]? = some u → vs[i]? = some v → RV g (hst b r m).sh w u v) →
    Calls P f vs.toArray w fun e w' => ∃ v g' rv b' r' m', e = .returned v ∧ BelowX (fun k => ∃ x, (hst b r m).live x ∧ g.at_ x = k) w w' ∧ Ext g (hst b r m).sh w g' (hst b' r' m').sh w' ∧
      (∀ k, g'.im k → k < w'.heap.size) ∧ (∀ k, g'.im k → g.im k ∨ (∃ x, (hst b r m).live x ∧ g.at_ x = k) ∨ w.heap.size ≤ k) ∧
      (∀ x, (hst b' r' m').live x → (∃ y, (hst b r m).live y ∧ g.at_ y = g'.at_ x) ∨ w.heap.size ≤ g'.at_ x) ∧ Heap g' (hst b' r' m') w' ∧ RV g' (hst b' r' m').sh w' rv v ∧ Q rv b' r' m'
theorem HCall.mono {P : Program} {J : Inv} {f : FuncId} {args : List V} {b : List (List C)} {r : List (Option RowO)} {m : List (List (DV × DV))} {Q Q' : HPost} (h : HCall P J f args b r m Q) (hq : ∀ rv b' r' m', Q rv b' r' m' → Q' rv b' r' m') : HCall P J f args b r m Q' :=
  ⟨h.enter, fun g w vs h1 h2 h3 h4 h5 h6 => (h.calls g w vs h1 h2 h3 h4 h5 h6).mono fun e w' ⟨v, g', rv, b', r', m', p1, p2, p3, p4, p5, p6, p7, p8, p9⟩ => ⟨v, g', rv, b', r', m', p1, p2, p3, p4, p5, p6, p7, p8, hq _ _ _ _ p9⟩⟩
def LeG (r' r : V) : Prop := ∀ (g : Gh) (h : Sh) (w : World) (v : Value), RV g h w r' v → RV g h w r v
theorem LeG.refl (r : V) : LeG r r := fun _ _ _ _ h => h
theorem HCall.le {P : Program} {J : Inv} {f : FuncId} {args : List V} {b : List (List C)} {r : List (Option RowO)} {m : List (List (DV × DV))} {Q : HPost}
    (h : HCall P J f args b r m (fun rv b' r' m' => ∃ rv', LeG rv rv' ∧ Q rv' b' r' m')) : HCall P J f args b r m Q :=
  ⟨h.enter, fun g w vs h1 h2 h3 h4 h5 h6 => (h.calls g w vs h1 h2 h3 h4 h5 h6).mono fun e w' ⟨v, g', rv, b', r', m', p1, p2, p3, p4, p5, p6, p7, p8, rv', p9, p10⟩ => ⟨v, g', rv', b', r', m', p1, p2, p3, p4, p5, p6, p7, p9 _ _ _ _ p8, p10⟩⟩
section
variable {J : Inv} {k0 : Lens} {E : Env J k0} {P : Program} {T : TypeId → Option TI} {n : Nat} {t : Nat → V} {b : List (List C)} {r : List (Option RowO)} {m : List (List (DV × DV))} {ops : Array Oper} {l : List Oper}
  {K : St → Prop} {i : Nat} {ty : TypeId} {pos : String} {after : Array Edge}
theorem Rel.behind {g g' : Gh} {a : Act} {w w' : World} {b' : List (List C)} {r' : List (Option RowO)} {m' : List (List (DV × DV))} (rel : Rel E n g ⟨t, b, r, m⟩ a w)
    (hb : BelowX (fun k => ∃ x, (hst b r m).live x ∧ g.at_ x = k) w w') (he : Ext g (hst b r m).sh w g' (hst b' r' m').sh w') (h1 : ∀ k, g'.im k → k < w'.heap.size)
    (h2 : ∀ k, g'.im k → g.im k ∨ (∃ x, (hst b r m).live x ∧ g.at_ x = k) ∨ w.heap.size ≤ k) (h3 : ∀ x, (hst b' r' m').live x → (∃ y, (hst b r m).live y ∧ g.at_ y = g'.at_ x) ∨ w.heap.size ≤ g'.at_ x)
    (hh : Heap g' (hst b' r' m') w') : Rel E n g' ⟨t, b', r', m'⟩ a w' := by
  have hs : w.heap.size ≥ E.w0.heap.size := rel.below.size
  refine ⟨rel.below.trans hb (fun k ⟨x, hx, hk⟩ hlt => ?_), rel.ext.trans he, h1, fun k hk => ?_, fun x hx => ?_, hh.t t, rel.size, rel.defers, fun j hj => (rel.tmps j hj).mono he⟩
  · rcases rel.own x (live_t hx) with h | h
    · rw [← hk]; exact h
    · omega
  · rcases h2 k hk with h | ⟨x, hx, hk⟩ | h
    · exact rel.imold k h
    · rw [← hk]; exact .inr (rel.own x (live_t hx))
    · exact .inr (.inr (by omega))
  · rcases h3 x (live_t hx) with ⟨y, hy, hk⟩ | h
    · rw [← hk]; exact rel.own y (live_t hy)
    · exact .inr (by omega)
theorem hcall_wp {g : Gh} {a : Act} {w : World} (rel : Rel E n g ⟨t, b, r, m⟩ a w) {o : Oper} {fo : Operand} {args : Array Operand} {ats : Array TypeId} (ho : o.op = .call { callee := .value fo, args, argTypes := ats }) {u : V} {f : FuncId} {caps : List C} {us : List V} {Q : HPost}
    (hu : opd n ⟨t, b, r, m⟩ fo = (true, u)) (hc : calleeV u = some (f, caps)) (ha : allOpdL n ⟨t, b, r, m⟩ args.toList = (true, us)) (pc : HCall P J f (us ++ caps.map V.one) b r m Q)
    {next : Act → World → Prop} {Qx : Exit → Act → World → Prop} (k : ∀ v g' w' rv b' r' m', Rel E n g' ⟨t, b', r', m'⟩ a w' → RV g' (hst b' r' m').sh w' rv v → Q rv b' r' m' → next (a.put o.dst v) w') : o.wp P a w next Qx := by
  obtain ⟨fn, hf, h1, h2⟩ := pc.enter
  obtain ⟨vs, hl, hx, hrun⟩ := call_run rel ho hu hc hf h1 h2
  obtain ⟨hal, hav⟩ := allOpdL_ok rel _ _ _ ha rfl
  have hall := capsV_ok (s := ⟨t, b, r, m⟩) (g := g) (w := w) (us := us) (caps := caps) (ws := args.toList.map a.eval) (vs := vs) (by simp [hal]) hav hl hx
  have hN : ∀ x, (hst b r m).live x → J.N ≤ g.at_ x := fun x hx => by
    rcases rel.own x (live_t hx) with h | h
    · exact E.hN _ h
    · exact Nat.le_trans (J.lt _ E.hI) h
  have hcall := pc.calls g w (args.toList.map a.eval ++ vs) rel.inv rel.imlt (rel.heap.t _) hN (by simp [hal, hl]) hall
  unfold Oper.wp
  rw [hrun]
  show Calls P f _ w _
  refine hcall.mono ?_
  rintro e w' ⟨v, g', rv, b', r', m', rfl, p2, p3, p4, p5, p6, p7, p8, p9⟩
  exact k v g' w' rv b' r' m' (rel.behind p2 p3 p4 p5 p6 p7) p8 p9
theorem Step.hcall {o : Oper} {fo : Operand} {args : Array Operand} {ats : Array TypeId} {u : V} {f : FuncId} {caps : List C} {us : List V} {Q : HPost}
    (pc : HCall P J f (us ++ caps.map V.one) b r m Q) (ho : o.op = .call { callee := .value fo, args, argTypes := ats }) (hg : o.guard = none) (hu : opd n ⟨t, b, r, m⟩ fo = (true, u)) (hc : calleeV u = some (f, caps))
    (ha : allOpdL n ⟨t, b, r, m⟩ args.toList = (true, us)) (k : ∀ rv b' r' m', Q rv b' r' m' → K ((⟨t, b', r', m'⟩ : St).set o.dst rv)) : Step E P n ops o K ⟨t, b, r, m⟩ := by
  intro g a w rel next Qx hn
  have hw : Region.wanted o (yielded ops a.tmps) = true := by simp [Region.wanted, hg]
  rw [if_pos hw]
  exact hcall_wp rel ho hu hc ha pc (fun v g' w' rv b' r' m' rel' hv hq => hn _ g' _ _ (k rv b' r' m' hq) (rel'.put_same _ hv))
theorem S.hcall {dst : Option Nat} {fo : Operand} {args : Array Operand} {ats : Array TypeId} {u : V} {f : FuncId} {caps : List C} {us ws : List V} {Q : HPost} (hu : opd n ⟨t, b, r, m⟩ fo = (true, u)) (hc : calleeV u = some (f, caps))
    (ha : allOpdL n ⟨t, b, r, m⟩ args.toList = (true, us)) (hw : forceVs (appL us (caps.map V.one)) = some ws) (pc : HCall P J f ws b r m Q)
    (k : ∀ rv b' r' m', Q rv b' r' m' → WL E P n ops l K ⟨updO t dst rv, b', r', m'⟩) : WL E P n ops (⟨dst, .call ⟨.value fo, args, ats⟩, ty, pos, after, none⟩ :: l) K ⟨t, b, r, m⟩ := by
  obtain rfl := forceVs_eq hw
  rw [appL_eq] at pc
  refine Step.hcall pc rfl rfl hu hc ha (fun rv b' r' m' hq => ?_)
  have := k rv b' r' m' hq
  cases dst <;> exact this
def isH (rv : V) (b : List (List C)) (r : List (Option RowO)) (m : List (List (DV × DV))) : HPost := fun rv' b' r' m' => rv' = rv ∧ b' = b ∧ r' = r ∧ m' = m
theorem S.hcallD {dst : Option Nat} {fo : Operand} {args : Array Operand} {ats : Array TypeId} {u : V} {f : FuncId} {caps : List C} {us ws : List V} {rv : V} {b' : List (List C)} {r' : List (Option RowO)} {m' : List (List (DV × DV))}
    (hu : opd n ⟨t, b, r, m⟩ fo = (true, u)) (hc : calleeV u = some (f, caps))
    (ha : allOpdL n ⟨t, b, r, m⟩ args.toList = (true, us)) (hw : forceVs (appL us (caps.map V.one)) = some ws) (pc : HCall P J f ws b r m (isH rv b' r' m'))
    (k : WL E P n ops l K ⟨updO t dst rv, b', r', m'⟩) : WL E P n ops (⟨dst, .call ⟨.value fo, args, ats⟩, ty, pos, after, none⟩ :: l) K ⟨t, b, r, m⟩ :=
  S.hcall hu hc ha hw pc (fun _ _ _ _ ⟨h1, h2, h3, h4⟩ => by rw [h1, h2, h3, h4]; exact k)
theorem Rel.drop {g : Gh} {a : Act} {w : World} {b1 b2 : List (List C)} {r1 r2 : List (Option RowO)} {m1 m2 : List (List (DV × DV))} (rel : Rel E n g ⟨t, b1 ++ b2, r1 ++ r2, m1 ++ m2⟩ a w)
    (hlow : (loB b1.length r1.length m1.length b1 && (Nat.ble k0.L b1.length && (Nat.ble k0.R r1.length && Nat.ble k0.M m1.length))) = true) : Rel E n g ⟨fun _ => .junk, b1, r1, m1⟩ a w :=
  Rel.keep [] b1 b2 r1 r2 m1 m2 trivial (by simpa [loL] using hlow) rel
def HEnds (k0 : Lens) (T : TypeId → Option TI) (fn : Func) (Q : HPost) : Ex → St → Prop
  | .exit _, _ => False
  | _, s => ∃ vs, resAll T fn.ntmps s fn.results.toList = some vs ∧ (Q (resV vs) s.b s.r s.m ∨ ∃ k1 : Lens, (loV k1.L k1.R k1.M (resV vs) && (Nat.ble k1.L s.b.length && (Nat.ble k1.R s.r.length && (Nat.ble k1.M s.m.length &&
      (loB k1.L k1.R k1.M (s.b.take k1.L) && (Nat.ble k0.L k1.L && (Nat.ble k0.R k1.R && Nat.ble k0.M k1.M))))))) = true ∧ Q (resV vs) (s.b.take k1.L) (s.r.take k1.R) (s.m.take k1.M))
theorem HCall.of_body (hT : TabOk P T) {f : FuncId} {fn : Func} {c : Code} {args : List V} {Q : HPost} (hf : P.funcs[f]? = some fn) (hname : (fn.name == "runtime.NumGoroutine") = false) (hb : fn.body = some c)
    (hn : args.length ≤ fn.ntmps) (h : ∀ E : Env J ⟨b.length, r.length, m.length⟩, W E P fn.ntmps c (HEnds ⟨b.length, r.length, m.length⟩ T fn Q) ⟨argsV args, b, r, m⟩) : HCall P J f args b r m Q := by
  refine ⟨⟨fn, hf, hname, by rw [hb]; rfl⟩, fun g w vs hJ hi hH hN hl hx => ?_⟩
  refine calls_of_wp hf hb ?_
  let E : Env J ⟨b.length, r.length, m.length⟩ := ⟨w, g, (hst b r m).sh, fun k => ∃ x, (hst b r m).live x ∧ g.at_ x = k, rfl, by simp [hst, St.sh], rfl, hJ, fun k ⟨x, hx, hk⟩ => by rw [← hk]; exact hN x hx⟩
  have rel : Rel E fn.ntmps g ⟨argsV args, b, r, m⟩ { tmps := vs.toArray ++ Array.replicate (fn.ntmps - vs.toArray.size) undef, defers := [] } w := by
    refine ⟨BelowX.refl _ _, .refl _ _ _, hi, fun b h => .inl h, fun x hx => .inl ⟨x, live_t hx, rfl⟩, hH.t _, ?_, rfl, fun i hi' => ?_⟩
    · simp [hl]; omega
    · show RV _ _ _ (argsV args i) _
      rw [argsV_get]
      rcases Nat.lt_or_ge i args.length with h1 | h1
      · have h2 : vs[i]? = some vs[i] := List.getElem?_eq_getElem (by omega)
        have h3 : args[i]? = some args[i] := List.getElem?_eq_getElem h1
        rw [List.getD_eq_getElem?_getD, h3, Option.getD_some]
        have h4 : (vs.toArray ++ Array.replicate (fn.ntmps - vs.toArray.size) undef).getD i undef = vs[i] := by
          rw [Array.getD_eq_getD_getElem?, Array.getElem?_append_left (by simp; omega)]
          simp [h2]
        rw [h4]
        exact hx i _ _ h3 h2
      · rw [List.getD_eq_getElem?_getD, List.getElem?_eq_none h1]
        exact .junk _
  refine wp_mono (h E g _ w rel) ?_
  rintro _ a' w' ⟨e, s', g', rfl, hk, r'⟩
  have fin : (∃ vs, resAll T fn.ntmps s' fn.results.toList = some vs ∧ (Q (resV vs) s'.b s'.r s'.m ∨ ∃ k1 : Lens, (loV k1.L k1.R k1.M (resV vs) && (Nat.ble k1.L s'.b.length && (Nat.ble k1.R s'.r.length && (Nat.ble k1.M s'.m.length &&
      (loB k1.L k1.R k1.M (s'.b.take k1.L) && (Nat.ble b.length k1.L && (Nat.ble r.length k1.R && Nat.ble m.length k1.M))))))) = true ∧ Q (resV vs) (s'.b.take k1.L) (s'.r.take k1.R) (s'.m.take k1.M))) → a'.defers = [] ∧ ∃ v, (results fn a'.tmps).run P w' = .ok v w' ∧
      ∃ v_1 g1 rv b' r' m', Ending.returned v = Ending.returned v_1 ∧ BelowX (fun k => ∃ x, (hst b r m).live x ∧ g.at_ x = k) w w' ∧ Ext g (hst b r m).sh w g1 (hst b' r' m').sh w' ∧
      (∀ k, g1.im k → k < w'.heap.size) ∧ (∀ k, g1.im k → g.im k ∨ (∃ x, (hst b r m).live x ∧ g.at_ x = k) ∨ w.heap.size ≤ k) ∧
      (∀ x, (hst b' r' m').live x → (∃ y, (hst b r m).live y ∧ g.at_ y = g1.at_ x) ∨ w.heap.size ≤ g1.at_ x) ∧ Heap g1 (hst b' r' m') w' ∧ RV g1 (hst b' r' m').sh w' rv v_1 ∧ Q rv b' r' m' := by
    rintro ⟨vs, h1, h2⟩
    obtain ⟨z, h4, h5⟩ := results_ok (P := P) hT r' h1
    refine ⟨r'.defers, z, h4, z, g', resV vs, ?_⟩
    rcases h2 with h2 | ⟨k1, hk1, h2⟩
    · exact ⟨s'.b, s'.r, s'.m, rfl, r'.below, r'.ext, r'.imlt, r'.imold, fun x hx => r'.own x (live_t hx), r'.heap.t _, h5, h2⟩
    · simp only [Bool.and_eq_true] at hk1
      obtain ⟨c1, c2, c3, c4, c5, c6, c7, c8⟩ := hk1
      have l2 := Nat.le_of_ble_eq_true c2
      have l3 := Nat.le_of_ble_eq_true c3
      have l4 := Nat.le_of_ble_eq_true c4
      have e1 : (s'.b.take k1.L).length = k1.L := by simp; omega
      have e2 : (s'.r.take k1.R).length = k1.R := by simp; omega
      have e3 : (s'.m.take k1.M).length = k1.M := by simp; omega
      have hst' : (⟨s'.t, s'.b.take k1.L ++ s'.b.drop k1.L, s'.r.take k1.R ++ s'.r.drop k1.R, s'.m.take k1.M ++ s'.m.drop k1.M⟩ : St) = s' := by
        simp only [List.take_append_drop]
      have rel2 := Rel.drop (b1 := s'.b.take k1.L) (b2 := s'.b.drop k1.L) (r1 := s'.r.take k1.R) (r2 := s'.r.drop k1.R) (m1 := s'.m.take k1.M) (m2 := s'.m.drop k1.M) (t := s'.t) (by rw [hst']; exact r')
        (by rw [e1, e2, e3]; simp only [Bool.and_eq_true]; exact ⟨c5, c6, c7, c8⟩)
      refine ⟨s'.b.take k1.L, s'.r.take k1.R, s'.m.take k1.M, rfl, rel2.below, rel2.ext, rel2.imlt, rel2.imold, fun x hx => rel2.own x hx, rel2.heap, ?_, h2⟩
      have h6 := h5.lo k1.L k1.R k1.M (by simpa [St.sh] using l3) c1
      have : (hst (s'.b.take k1.L) (s'.r.take k1.R) (s'.m.take k1.M)).sh = ⟨k1.L, s'.sh.rows.take k1.R, k1.M⟩ := by
        simp only [hst, St.sh, e1, e3, List.map_take]
      rw [this]; exact h6
  cases e with
  | normal => exact fin hk
  | exit id => exact hk.elim
  | ret => exact fin hk
end
end Go.Proofs.YtcchfmilleffjaaGreatDoor
namespace Go.Proofs.YtcchfmilleffjaaGreatDoor
open Go Go.RowKit
def putL {α : Type} : List α → List Nat → List α → List α
  | B, [], xs => B ++ xs
  | B, _ :: _, [] => B
  | B, q :: ρ, x :: xs => putL (B.set q x) ρ xs
def posL (ρ : List Nat) (nB i : Nat) : Nat := bif Nat.blt i ρ.length then ρ.getD i 0 else nB + (i - ρ.length)
theorem posL_zero (q : Nat) (ρ : List Nat) (nB : Nat) : posL (q :: ρ) nB 0 = q := by
  show (bif Nat.blt 0 (ρ.length + 1) then q else nB + (0 - (ρ.length + 1))) = q
  rw [show Nat.blt 0 (ρ.length + 1) = true from by simp [Nat.blt_eq]]; rfl
theorem posL_succ (q : Nat) (ρ : List Nat) (nB i : Nat) : posL (q :: ρ) nB (i + 1) = posL ρ nB i := by
  unfold posL
  have h : Nat.blt (i + 1) (q :: ρ).length = Nat.blt i ρ.length := by
    rw [Bool.eq_iff_iff]; simp [Nat.blt_eq]
  rw [h]
  cases Nat.blt i ρ.length with
  | true => simp
  | false => simp
theorem posL_nil (nB i : Nat) : posL [] nB i = nB + i := by
  show (bif Nat.blt i 0 then ([] : List Nat).getD i 0 else nB + (i - 0)) = nB + i
  rw [show Nat.blt i 0 = false from rfl]; rfl
theorem posL_lt {ρ : List Nat} {nB i : Nat} (h : i < ρ.length) : posL ρ nB i = ρ.getD i 0 := by
  have : Nat.blt i ρ.length = true := by simpa [Nat.blt_eq] using h
  simp [posL, this]
theorem posL_ge {ρ : List Nat} {nB i : Nat} (h : ρ.length ≤ i) : posL ρ nB i = nB + (i - ρ.length) := by
  have : Nat.blt i ρ.length = false := by rw [← Bool.not_eq_true]; simpa [Nat.blt_eq] using h
  simp [posL, this]
section
variable {α : Type}
theorem putL_else : ∀ (ρ : List Nat) (B xs : List α) (l : Nat), (∀ i, i < xs.length → posL ρ B.length i ≠ l) → ρ.length ≤ xs.length → (putL B ρ xs)[l]? = B[l]?
  | [], B, xs, l, h, _ => by
    unfold putL
    rcases Nat.lt_or_ge l B.length with h1 | h1
    · rw [List.getElem?_append_left h1]
    · rw [List.getElem?_append_right h1, List.getElem?_eq_none, List.getElem?_eq_none h1]
      rcases Nat.lt_or_ge (l - B.length) xs.length with h2 | h2
      · exact absurd (by rw [posL_nil]; omega) (h _ h2)
      · exact h2
  | q :: ρ, B, [], l, h, hl => by simp at hl
  | q :: ρ, B, x :: xs, l, h, hl => by
    unfold putL
    rw [putL_else ρ (B.set q x) xs l (fun i hi => by have := h (i + 1) (by simpa using hi); rw [posL_succ] at this; simpa using this) (by simpa using hl)]
    have h0 := h 0 (by simp)
    rw [posL_zero] at h0
    rw [List.getElem?_set, if_neg h0]
theorem posL_inj {ρ : List Nat} {nB : Nat} (hn : ρ.Nodup) (hlt : ∀ q ∈ ρ, q < nB) {i j : Nat} (h : posL ρ nB i = posL ρ nB j) : i = j := by
  rcases Nat.lt_or_ge i ρ.length with hi | hi <;> rcases Nat.lt_or_ge j ρ.length with hj | hj
  · rw [posL_lt hi, posL_lt hj] at h
    simp only [List.getD_eq_getElem?_getD, List.getElem?_eq_getElem hi, List.getElem?_eq_getElem hj, Option.getD_some] at h
    exact (List.getElem_inj hn).1 h
  · rw [posL_lt hi, posL_ge hj] at h
    have := hlt (ρ.getD i 0) (by simp [List.getD_eq_getElem?_getD, List.getElem?_eq_getElem hi])
    omega
  · rw [posL_ge hi, posL_lt hj] at h
    have := hlt (ρ.getD j 0) (by simp [List.getD_eq_getElem?_getD, List.getElem?_eq_getElem hj])
    omega
  · rw [posL_ge hi, posL_ge hj] at h; omega
theorem putL_at : ∀ (ρ : List Nat) (B xs : List α) (i : Nat), ρ.Nodup → (∀ q ∈ ρ, q < B.length) → ρ.length ≤ xs.length → i < xs.length → (putL B ρ xs)[posL ρ B.length i]? = xs[i]?
  | [], B, xs, i, _, _, _, _ => by unfold putL; rw [posL_nil, List.getElem?_append_right (by omega)]; congr 1; omega
  | q :: ρ, B, [], i, _, _, hl, _ => by simp at hl
  | q :: ρ, B, x :: xs, 0, hn, hlt, hl, _ => by
    unfold putL
    rw [posL_zero, putL_else ρ (B.set q x) xs q (fun i hi he => ?_) (by simpa using hl)]
    · have := hlt q (List.mem_cons_self ..)
      simp [List.getElem?_set, this]
    · have h1 : posL (q :: ρ) B.length (i + 1) = posL (q :: ρ) B.length 0 := by rw [posL_succ, posL_zero]; simpa using he
      have := posL_inj hn hlt h1
      omega
  | q :: ρ, B, x :: xs, i + 1, hn, hlt, hl, hi => by
    unfold putL
    rw [posL_succ]
    have := putL_at ρ (B.set q x) xs i (List.nodup_cons.1 hn).2 (fun p hp => by simpa using hlt p (List.mem_cons_of_mem _ hp)) (by simpa using hl) (by simpa using hi)
    simpa using this
theorem putL_length : ∀ (ρ : List Nat) (B xs : List α), B.length ≤ (putL B ρ xs).length
  | [], B, xs => by simp [putL]
  | q :: ρ, B, [] => by simp [putL]
  | q :: ρ, B, x :: xs => by unfold putL; have := putL_length ρ (B.set q x) xs; simpa using this
end
structure Ren where
  b : Nat → Nat
  r : Nat → Nat
  m : Nat → Nat
mutual
def renC (p : Ren) : C → C
  | .ptr l off => .ptr (p.b l) off
  | .row r v o n => .row (p.r r) v o n
  | .rptr r v i o => .rptr (p.r r) v i o
  | .map m => .map (p.m m)
  | .clo f cs => .clo f (renCs p cs)
  | .d x => .d x
  | .eptr cs => .eptr cs
  | .junk => .junk
def renCs (p : Ren) : List C → List C
  | [] => []
  | c :: l => renC p c :: renCs p l
end
mutual
def renV (p : Ren) : V → V
  | .one c => .one (renC p c)
  | .agg cs => .agg (renCs p cs)
  | .tup vs => .tup (renVs p vs)
  | .when b v => .when b (renV p v)
  | .junk => .junk
def renVs (p : Ren) : List V → List V
  | [] => []
  | c :: l => renV p c :: renVs p l
end
def renB (p : Ren) : List (List C) → List (List C)
  | [] => []
  | c :: l => renCs p c :: renB p l
theorem renCs_map (p : Ren) : ∀ l, renCs p l = l.map (renC p)
  | [] => rfl
  | c :: l => by simp [renCs, renCs_map p l]
theorem renVs_map (p : Ren) : ∀ l, renVs p l = l.map (renV p)
  | [] => rfl
  | c :: l => by simp [renVs, renVs_map p l]
theorem renB_map (p : Ren) : ∀ l, renB p l = l.map (renCs p)
  | [] => rfl
  | c :: l => by simp [renB, renB_map p l]
def Ren.loc (p : Ren) : Loc → Loc
  | .b l => .b (p.b l) | .r l => .r (p.r l) | .m l => .m (p.m l)
structure Emb (p : Ren) (h H : Sh) (g G : Gh) : Prop where
  atB : ∀ l, l < h.L → p.b l < H.L ∧ G.at_ (.b (p.b l)) = g.at_ (.b l)
  atR : ∀ r, r < h.rows.length → p.r r < H.rows.length ∧ H.rows[p.r r]? = h.rows[r]? ∧ G.at_ (.r (p.r r)) = g.at_ (.r r) ∧ G.off (p.r r) = g.off r ∧ G.cap (p.r r) = g.cap r
  atM : ∀ l, l < h.M → p.m l < H.M ∧ G.at_ (.m (p.m l)) = g.at_ (.m l)
section
variable {p : Ren} {h H : Sh} {g G : Gh} {w : World}
mutual
theorem RC.up (e : Emb p h H g G) (hi : G.im = g.im) : ∀ {c : C} {v : Value}, RC g h w c v → RC G H w (renC p c) v
  | .d x, v, hx => by cases hx with | d _ _ hx => exact .d _ _ (by rw [hi]; exact hx)
  | .ptr l off, v, hx => by cases hx with | ptr _ _ hl => rw [← (e.atB l hl).2]; exact .ptr _ _ (e.atB l hl).1
  | .eptr cs, v, hx => by cases hx with | eptr _ b o u h1 h2 h3 => exact .eptr _ b o u (by rw [hi]; exact h1) h2 (by rw [hi]; exact h3)
  | .row r ver off n, v, hx => by
    cases hx with | row _ _ _ _ _ hv hr hx =>
    obtain ⟨h1, h2, h3, h4, h5⟩ := e.atR r hr
    exact .row _ _ _ _ _ hv h1 (fun al ver' sz len hh => by rw [h3, h4, h5]; exact hx al ver' sz len (by rw [← h2]; exact hh))
  | .rptr r ver i fo, v, hx => by
    cases hx with | rptr _ _ _ _ _ hv hr hx =>
    obtain ⟨h1, h2, h3, h4, h5⟩ := e.atR r hr
    exact .rptr _ _ _ _ _ hv h1 (fun al ver' sz len hh => by rw [h3, h4]; exact hx al ver' sz len (by rw [← h2]; exact hh))
  | .map l, v, hx => by cases hx with | map _ hl => rw [← (e.atM l hl).2]; exact .map _ (e.atM l hl).1
  | .clo f cs, v, hx => by
    cases hx with | clo _ _ vs hl hx =>
    exact .clo f _ vs (by rw [renCs_map]; simpa using hl) (RC.ups e hi cs vs hx)
  | .junk, v, hx => by cases hx with | junk _ hx => exact .junk _ hx
theorem RC.ups (e : Emb p h H g G) (hi : G.im = g.im) : ∀ (cs : List C) (vs : List Value), (∀ (i : Nat) (c : C) (v : Value), cs[i]? = some c → vs[i]? = some v → RC g h w c v) →
    ∀ (i : Nat) (c : C) (v : Value), (renCs p cs)[i]? = some c → vs[i]? = some v → RC G H w c v
  | [], vs, _, i, c, v, h1, _ => by simp [renCs] at h1
  | c0 :: cs, vs, hx, 0, c, v, h1, h2 => by
    simp [renCs] at h1
    subst h1
    exact RC.up e hi (hx 0 c0 v rfl h2)
  | c0 :: cs, vs, hx, i + 1, c, v, h1, h2 => by
    cases vs with
    | nil => simp at h2
    | cons v0 vs => exact RC.ups e hi cs vs (fun i c v h3 h4 => hx (i + 1) c v h3 h4) i c v (by simpa [renCs] using h1) (by simpa using h2)
end
mutual
theorem RV.up (e : Emb p h H g G) (hi : G.im = g.im) : ∀ {u : V} {v : Value}, RV g h w u v → RV G H w (renV p u) v
  | .one c, v, hx => by cases hx with | one _ _ hx => exact .one _ _ (hx.up e hi)
  | .agg cs, v, hx => by cases hx with | agg _ vs hl hx => exact .agg _ vs (by rw [renCs_map]; simpa using hl) (RC.ups e hi cs vs hx)
  | .tup us, v, hx => by cases hx with | tup _ vs hl hx => exact .tup _ vs (by rw [renVs_map]; simpa using hl) (RV.ups e hi us vs hx)
  | .when b u, v, hx => by
    cases hx with
    | whenT _ _ hx => exact .whenT _ _ (RV.up e hi hx)
    | whenF _ => exact .whenF _
  | .junk, v, hx => .junk _
theorem RV.ups (e : Emb p h H g G) (hi : G.im = g.im) : ∀ (cs : List V) (vs : List Value), (∀ (i : Nat) (c : V) (v : Value), cs[i]? = some c → vs[i]? = some v → RV g h w c v) →
    ∀ (i : Nat) (c : V) (v : Value), (renVs p cs)[i]? = some c → vs[i]? = some v → RV G H w c v
  | [], vs, _, i, c, v, h1, _ => by simp [renVs] at h1
  | c0 :: cs, vs, hx, 0, c, v, h1, h2 => by
    simp [renVs] at h1
    subst h1
    exact RV.up e hi (hx 0 c0 v rfl h2)
  | c0 :: cs, vs, hx, i + 1, c, v, h1, h2 => by
    cases vs with
    | nil => simp at h2
    | cons v0 vs => exact RV.ups e hi cs vs (fun i c v h3 h4 => hx (i + 1) c v h3 h4) i c v (by simpa [renVs] using h1) (by simpa using h2)
end
mutual
theorem RC.down (e : Emb p h H g G) (hi : G.im = g.im) : ∀ {c : C} {v : Value}, loC h.L h.rows.length h.M c = true → RC G H w (renC p c) v → RC g h w c v
  | .d x, v, _, hx => by cases hx with | d _ _ hx => exact .d _ _ (by rw [← hi]; exact hx)
  | .ptr l off, v, hl, hx => by
    have hl : l < h.L := by simpa [loC, Nat.blt_eq] using hl
    cases hx with | ptr _ _ _ => rw [(e.atB l hl).2]; exact .ptr _ _ hl
  | .eptr cs, v, _, hx => by cases hx with | eptr _ b o u h1 h2 h3 => exact .eptr _ b o u (by rw [← hi]; exact h1) h2 (by rw [← hi]; exact h3)
  | .row r ver off n, v, hl, hx => by
    have hr : r < h.rows.length := by simpa [loC, Nat.blt_eq] using hl
    cases hx with | row _ _ _ _ _ hv _ hx =>
    obtain ⟨h1, h2, h3, h4, h5⟩ := e.atR r hr
    exact .row _ _ _ _ _ hv hr (fun al ver' sz len hh => by rw [← h3, ← h4, ← h5]; exact hx al ver' sz len (by rw [h2]; exact hh))
  | .rptr r ver i fo, v, hl, hx => by
    have hr : r < h.rows.length := by simpa [loC, Nat.blt_eq] using hl
    cases hx with | rptr _ _ _ _ _ hv _ hx =>
    obtain ⟨h1, h2, h3, h4, h5⟩ := e.atR r hr
    exact .rptr _ _ _ _ _ hv hr (fun al ver' sz len hh => by rw [← h3, ← h4]; exact hx al ver' sz len (by rw [h2]; exact hh))
  | .map l, v, hl, hx => by
    have hl : l < h.M := by simpa [loC, Nat.blt_eq] using hl
    cases hx with | map _ _ => rw [(e.atM l hl).2]; exact .map _ hl
  | .clo f cs, v, hl, hx => by
    cases hx with | clo _ _ vs hl' hx =>
    exact .clo f _ vs (by rw [renCs_map] at hl'; simpa using hl') (RC.downs e hi cs vs (by simpa [loC] using hl) hx)
  | .junk, v, _, hx => by cases hx with | junk _ hx => exact .junk _ hx
theorem RC.downs (e : Emb p h H g G) (hi : G.im = g.im) : ∀ (cs : List C) (vs : List Value), loCs h.L h.rows.length h.M cs = true → (∀ (i : Nat) (c : C) (v : Value), (renCs p cs)[i]? = some c → vs[i]? = some v → RC G H w c v) →
    ∀ (i : Nat) (c : C) (v : Value), cs[i]? = some c → vs[i]? = some v → RC g h w c v
  | [], vs, _, _, i, c, v, h1, _ => by simp at h1
  | c0 :: cs, vs, hl, hx, 0, c, v, h1, h2 => by
    simp at h1
    subst h1
    simp only [loCs, Bool.and_eq_true] at hl
    exact RC.down e hi hl.1 (hx 0 _ v rfl h2)
  | c0 :: cs, vs, hl, hx, i + 1, c, v, h1, h2 => by
    simp only [loCs, Bool.and_eq_true] at hl
    cases vs with
    | nil => simp at h2
    | cons v0 vs => exact RC.downs e hi cs vs hl.2 (fun i c v h3 h4 => hx (i + 1) c v (by simpa [renCs] using h3) h4) i c v (by simpa using h1) (by simpa using h2)
end
mutual
theorem RV.down (e : Emb p h H g G) (hi : G.im = g.im) : ∀ {u : V} {v : Value}, loV h.L h.rows.length h.M u = true → RV G H w (renV p u) v → RV g h w u v
  | .one c, v, hl, hx => by cases hx with | one _ _ hx => exact .one _ _ (RC.down e hi (by simpa [loV] using hl) hx)
  | .agg cs, v, hl, hx => by cases hx with | agg _ vs hl' hx => exact .agg _ vs (by rw [renCs_map] at hl'; simpa using hl') (RC.downs e hi cs vs (by simpa [loV] using hl) hx)
  | .tup us, v, hl, hx => by cases hx with | tup _ vs hl' hx => exact .tup _ vs (by rw [renVs_map] at hl'; simpa using hl') (RV.downs e hi us vs (by simpa [loV] using hl) hx)
  | .when b u, v, hl, hx => by
    simp only [renV] at hx
    cases hx with
    | whenT _ _ hx => exact .whenT _ _ (RV.down e hi (by simpa [loV] using hl) hx)
    | whenF _ => exact .whenF _
  | .junk, v, _, hx => .junk _
theorem RV.downs (e : Emb p h H g G) (hi : G.im = g.im) : ∀ (cs : List V) (vs : List Value), loVs h.L h.rows.length h.M cs = true → (∀ (i : Nat) (c : V) (v : Value), (renVs p cs)[i]? = some c → vs[i]? = some v → RV G H w c v) →
    ∀ (i : Nat) (c : V) (v : Value), cs[i]? = some c → vs[i]? = some v → RV g h w c v
  | [], vs, _, _, i, c, v, h1, _ => by simp at h1
  | c0 :: cs, vs, hl, hx, 0, c, v, h1, h2 => by
    simp at h1
    subst h1
    simp only [loVs, Bool.and_eq_true] at hl
    exact RV.down e hi hl.1 (hx 0 _ v rfl h2)
  | c0 :: cs, vs, hl, hx, i + 1, c, v, h1, h2 => by
    simp only [loVs, Bool.and_eq_true] at hl
    cases vs with
    | nil => simp at h2
    | cons v0 vs => exact RV.downs e hi cs vs hl.2 (fun i c v h3 h4 => hx (i + 1) c v (by simpa [renVs] using h3) h4) i c v (by simpa using h1) (by simpa using h2)
end
end
end Go.Proofs.YtcchfmilleffjaaGreatDoor
namespace Go.Proofs.YtcchfmilleffjaaGreatDoor
open Go Go.RowKit
def nodupB : List Nat → Bool
  | [] => true
  | q :: l => l.all (fun x => !Nat.beq q x) && nodupB l
theorem nodupB_ok : ∀ {l : List Nat}, nodupB l = true → l.Nodup
  | [], _ => List.nodup_nil
  | q :: l, h => by
    simp only [nodupB, Bool.and_eq_true, List.all_eq_true] at h
    refine List.nodup_cons.2 ⟨fun hm => ?_, nodupB_ok h.2⟩
    have := h.1 q hm
    simp at this
def allLt (ρ : List Nat) (n : Nat) : Bool := ρ.all fun q => Nat.blt q n
theorem allLt_ok {ρ : List Nat} {n : Nat} (h : allLt ρ n = true) : ∀ q ∈ ρ, q < n := fun q hq => by
  have := List.all_eq_true.1 h q hq
  simpa [Nat.blt_eq] using this
def pickL {α : Type} (B : List α) : List Nat → Option (List α)
  | [] => some []
  | q :: ρ => match B[q]?, pickL B ρ with
    | some x, some l => some (x :: l)
    | _, _ => none
theorem pickL_at {α : Type} {B : List α} : ∀ {ρ : List Nat} {xs : List α}, pickL B ρ = some xs → xs.length = ρ.length ∧ ∀ i, i < ρ.length → B[ρ.getD i 0]? = xs[i]?
  | [], xs, h => by obtain rfl : [] = xs := by simpa [pickL] using h
                    exact ⟨rfl, fun i hi => absurd hi (Nat.not_lt_zero _)⟩
  | q :: ρ, xs, h => by
    unfold pickL at h
    split at h
    · rename_i x l hx hl
      obtain rfl : x :: l = xs := by simpa using h
      obtain ⟨h1, h2⟩ := pickL_at hl
      refine ⟨by simp [h1], fun i hi => ?_⟩
      cases i with
      | zero => simpa using hx
      | succ i => simpa using h2 i (by simpa using hi)
    · cases h
def renOf (ρb ρr ρm : List Nat) (nB nR nM : Nat) : Ren := ⟨posL ρb nB, posL ρr nR, posL ρm nM⟩
open Classical in
noncomputable def backL (pos : Nat → Nat) (n l : Nat) : Option Nat := if h : ∃ i, i < n ∧ pos i = l then some h.choose else none
theorem backL_pos {pos : Nat → Nat} {n i : Nat} (hinj : ∀ i j, pos i = pos j → i = j) (hi : i < n) : backL pos n (pos i) = some i := by
  unfold backL
  have h : ∃ j, j < n ∧ pos j = pos i := ⟨i, hi, rfl⟩
  rw [dif_pos h]
  exact congrArg some (hinj _ _ h.choose_spec.2)
theorem backL_else {pos : Nat → Nat} {n l : Nat} (h : ∀ i, i < n → pos i ≠ l) : backL pos n l = none := by
  unfold backL
  rw [dif_neg]
  rintro ⟨i, hi, he⟩
  exact h i hi he
def Gh.less (g : Gh) (p : Ren) : Gh := ⟨g.im, fun x => g.at_ (p.loc x), fun r => g.off (p.r r), fun r => g.cap (p.r r)⟩
noncomputable def Gh.back (g g1 : Gh) (p : Ren) (nb nr nm : Nat) : Gh where
  im := g1.im
  at_ := fun x => match x with
    | .b l => match backL p.b nb l with | some i => g1.at_ (.b i) | none => g.at_ (.b l)
    | .r l => match backL p.r nr l with | some i => g1.at_ (.r i) | none => g.at_ (.r l)
    | .m l => match backL p.m nm l with | some i => g1.at_ (.m i) | none => g.at_ (.m l)
  off := fun l => match backL p.r nr l with | some i => g1.off i | none => g.off l
  cap := fun l => match backL p.r nr l with | some i => g1.cap i | none => g.cap l
theorem DV_ren (p : Ren) (x : DV) : renV p x.v = x.v := by
  cases x with
  | one d => rfl
  | st _ _ d => rfl
  | agg ds =>
    show V.agg (renCs p (ds.map .d)) = .agg (ds.map .d)
    rw [renCs_map]
    simp only [List.map_map]
    congr 1
section
variable {P : Program} {J : Inv} {f : FuncId} {args : List V} {b B : List (List C)} {r R : List (Option RowO)} {m M : List (List (DV × DV))} {Q : HPost}
theorem live_lt {b : List (List C)} {r : List (Option RowO)} {m : List (List (DV × DV))} {x : Loc} (h : (hst b r m).live x) : (match x with | .b l => l < b.length | .r l => l < r.length | .m l => l < m.length) := by
  cases x with
  | b l => exact h
  | r l => obtain ⟨o, ho, _⟩ := h; exact (List.getElem?_eq_some_iff.1 ho).1
  | m l => exact h
def framed (ρb ρr ρm : List Nat) (B : List (List C)) (R : List (Option RowO)) (M : List (List (DV × DV))) (Q : HPost) : HPost := fun rv B' R' M' => ∃ rv0 b' r' m', Q rv0 b' r' m' ∧ rv = renV (renOf ρb ρr ρm B.length R.length M.length) rv0 ∧
  B' = putL B ρb (renB (renOf ρb ρr ρm B.length R.length M.length) b') ∧ R' = putL R ρr r' ∧ M' = putL M ρm m'
theorem HCall.frame (pc : HCall P J f args b r m Q) (ρb ρr ρm : List Nat) {Args : List V} (hA : renVs (renOf ρb ρr ρm B.length R.length M.length) args = Args)
    (hb : pickL B ρb = some (renB (renOf ρb ρr ρm B.length R.length M.length) b)) (hr : pickL R ρr = some r) (hm : pickL M ρm = some m)
    (hok : ((nodupB ρb && (nodupB ρr && nodupB ρm)) && ((allLt ρb B.length && (allLt ρr R.length && allLt ρm M.length)) && (loVs b.length r.length m.length args && loB b.length r.length m.length b))) = true) :
    HCall P J f Args B R M (framed ρb ρr ρm B R M Q) := by
  obtain ⟨p, hp⟩ : ∃ p, p = renOf ρb ρr ρm B.length R.length M.length := ⟨_, rfl⟩
  unfold framed
  rw [← hp] at hA hb ⊢
  subst hA
  simp only [Bool.and_eq_true] at hok
  obtain ⟨⟨nb, nr, nm⟩, ⟨lb, lr, lm⟩, hloA, hloB⟩ := hok
  have nb := nodupB_ok nb
  have nr := nodupB_ok nr
  have nm := nodupB_ok nm
  have lb := allLt_ok lb
  have lr := allLt_ok lr
  have lm := allLt_ok lm
  obtain ⟨eb, hb⟩ := pickL_at hb
  obtain ⟨er, hr⟩ := pickL_at hr
  obtain ⟨em, hm⟩ := pickL_at hm
  rw [renB_map, List.length_map] at eb
  have pb : p.b = posL ρb B.length := by rw [hp]; rfl
  have pr : p.r = posL ρr R.length := by rw [hp]; rfl
  have pm : p.m = posL ρm M.length := by rw [hp]; rfl
  have ib : ∀ i j, p.b i = p.b j → i = j := fun i j h => by rw [pb] at h; exact posL_inj nb lb h
  have ir : ∀ i j, p.r i = p.r j → i = j := fun i j h => by rw [pr] at h; exact posL_inj nr lr h
  have im : ∀ i j, p.m i = p.m j → i = j := fun i j h => by rw [pm] at h; exact posL_inj nm lm h
  have iloc : ∀ x y : Loc, p.loc x = p.loc y → x = y := fun x y h => by
    cases x <;> cases y <;> simp only [Ren.loc, Loc.b.injEq, Loc.r.injEq, Loc.m.injEq, reduceCtorEq] at h ⊢
    · exact ib _ _ h
    · exact ir _ _ h
    · exact im _ _ h
  -- the lesser lists' members
  have atb : ∀ i, i < b.length → B[p.b i]? = (b[i]?).map (renCs p) := fun i hi => by
    have := hb i (by omega)
    rw [pb, posL_lt (by omega), this, renB_map, List.getElem?_map]
  have atr : ∀ i, i < r.length → R[p.r i]? = r[i]? := fun i hi => by
    have := hr i (by omega)
    rw [pr, posL_lt (by omega), this]
  have atm : ∀ i, i < m.length → M[p.m i]? = m[i]? := fun i hi => by
    have := hm i (by omega)
    rw [pm, posL_lt (by omega), this]
  have ltb : ∀ i, i < b.length → p.b i < B.length := fun i hi => by
    have h1 := atb i hi
    rw [List.getElem?_eq_getElem hi] at h1
    exact (List.getElem?_eq_some_iff.1 h1).1
  have ltr : ∀ i, i < r.length → p.r i < R.length := fun i hi => by
    have h1 := atr i hi
    rw [List.getElem?_eq_getElem hi] at h1
    exact (List.getElem?_eq_some_iff.1 h1).1
  have ltm : ∀ i, i < m.length → p.m i < M.length := fun i hi => by
    have h1 := atm i hi
    rw [List.getElem?_eq_getElem hi] at h1
    exact (List.getElem?_eq_some_iff.1 h1).1
  have liveU : ∀ x, (hst b r m).live x → (hst B R M).live (p.loc x) := fun x hx => by
    cases x with
    | b i => exact ltb i hx
    | r i =>
      obtain ⟨o, ho, hal⟩ := hx
      exact ⟨o, (atr i (List.getElem?_eq_some_iff.1 ho).1).trans ho, hal⟩
    | m i => exact ltm i hx
  refine ⟨pc.enter, fun g w vs hJ hi hH hN hl hx => ?_⟩
  have emb : Emb p (hst b r m).sh (hst B R M).sh (g.less p) g := by
    refine ⟨fun l hl => ⟨ltb l hl, rfl⟩, fun k hk => ?_, fun l hl => ⟨ltm l hl, rfl⟩⟩
    have hk : k < r.length := by simpa [hst, St.sh] using hk
    refine ⟨by simpa [hst, St.sh] using ltr k hk, ?_, rfl, rfl, rfl⟩
    simp only [hst, St.sh, List.getElem?_map, atr k hk]
  have hlen : (hst b r m).sh.rows.length = r.length := by simp [hst, St.sh]
  have heap0 : Heap (g.less p) (hst b r m) w := by
    refine ⟨fun x hx => hH.lt _ (liveU x hx), fun x hx => hH.new _ (liveU x hx), fun x y hx hy he => iloc _ _ (hH.inj _ _ (liveU x hx) (liveU y hy) he), fun l cs hl => ?_, fun l o ho => ?_, fun l es hl => ?_⟩
    · have hlt := (List.getElem?_eq_some_iff.1 hl).1
      have h1 := atb l hlt
      have hl' : b[l]? = some cs := hl
      rw [hl'] at h1
      obtain ⟨us, ty, h2, h3, h4⟩ := hH.box (p.b l) (renCs p cs) h1
      refine ⟨us, ty, h2, by rw [h3, renCs_map, List.length_map], fun j c v hc hv => ?_⟩
      refine RC.down emb rfl ?_ (h4 j (renC p c) v (by rw [renCs_map, List.getElem?_map, hc]; rfl) hv)
      rw [hlen]
      exact loCs_at (loB_at hloB l cs hl) j c hc
    · have hlt := (List.getElem?_eq_some_iff.1 ho).1
      exact hH.row (p.r l) o ((atr l hlt).trans ho)
    · have hlt := (List.getElem?_eq_some_iff.1 hl).1
      obtain ⟨arr, clock, h1, h2, h3⟩ := hH.map (p.m l) es ((atm l hlt).trans hl)
      refine ⟨arr, clock, h1, h2, fun i x e hx he => ?_⟩
      obtain ⟨q1, q2⟩ := h3 i x e hx he
      exact ⟨RV.down emb rfl (loDV _ _ _ _) (by rw [DV_ren]; exact q1), RV.down emb rfl (loDV _ _ _ _) (by rw [DV_ren]; exact q2)⟩
  have hN0 : ∀ x, (hst b r m).live x → J.N ≤ (g.less p).at_ x := fun x hx => hN _ (liveU x hx)
  refine (pc.calls (g.less p) w vs hJ hi heap0 hN0 (by rw [hl, renVs_map]; simp) (RV.downs emb rfl args vs (by rw [hlen]; exact hloA) hx)).mono ?_
  rintro e w' ⟨v, g1, rv, b', r', m', rfl, p2, p3, p4, p5, p6, p7, p8, p9⟩
  have Lb : b.length ≤ b'.length := p3.lenL
  have Lr : r.length ≤ r'.length := by have := p3.lenR; simpa [hst, St.sh] using this
  have Lm : m.length ≤ m'.length := p3.lenM
  obtain ⟨G, hG⟩ : ∃ G, G = g.back g1 p b'.length r'.length m'.length := ⟨_, rfl⟩
  obtain ⟨B', hB'⟩ : ∃ B', B' = putL B ρb (renB p b') := ⟨_, rfl⟩
  obtain ⟨R', hR'⟩ : ∃ R', R' = putL R ρr r' := ⟨_, rfl⟩
  obtain ⟨M', hM'⟩ : ∃ M', M' = putL M ρm m' := ⟨_, rfl⟩
  have len_renB : (renB p b').length = b'.length := by rw [renB_map]; simp
  have atb' : ∀ i, i < b'.length → B'[p.b i]? = (b'[i]?).map (renCs p) := fun i hi => by
    rw [hB', pb, putL_at ρb B (renB p b') i nb lb (by omega) (by omega), renB_map, List.getElem?_map]
  have atr' : ∀ i, i < r'.length → R'[p.r i]? = r'[i]? := fun i hi => by
    rw [hR', pr, putL_at ρr R r' i nr lr (by omega) hi]
  have atm' : ∀ i, i < m'.length → M'[p.m i]? = m'[i]? := fun i hi => by
    rw [hM', pm, putL_at ρm M m' i nm lm (by omega) hi]
  have elb : ∀ l, (∀ i, i < b'.length → p.b i ≠ l) → B'[l]? = B[l]? := fun l h => by
    rw [hB', putL_else ρb B (renB p b') l (fun i hi => by rw [← pb]; exact h i (by omega)) (by omega)]
  have elr : ∀ l, (∀ i, i < r'.length → p.r i ≠ l) → R'[l]? = R[l]? := fun l h => by
    rw [hR', putL_else ρr R r' l (fun i hi => by rw [← pr]; exact h i (by omega)) (by omega)]
  have elm : ∀ l, (∀ i, i < m'.length → p.m i ≠ l) → M'[l]? = M[l]? := fun l h => by
    rw [hM', putL_else ρm M m' l (fun i hi => by rw [← pm]; exact h i (by omega)) (by omega)]
  have lenB : B.length ≤ B'.length := by rw [hB']; exact putL_length _ _ _
  have lenR : R.length ≤ R'.length := by rw [hR']; exact putL_length _ _ _
  have lenM : M.length ≤ M'.length := by rw [hM']; exact putL_length _ _ _
  -- the greater ghost behind the call
  have Gb : ∀ i, i < b'.length → G.at_ (.b (p.b i)) = g1.at_ (.b i) := fun i hi => by rw [hG]; simp only [Gh.back]; rw [backL_pos ib hi]
  have Gr : ∀ i, i < r'.length → G.at_ (.r (p.r i)) = g1.at_ (.r i) ∧ G.off (p.r i) = g1.off i ∧ G.cap (p.r i) = g1.cap i := fun i hi => by
    rw [hG]; simp only [Gh.back]; rw [backL_pos ir hi]; exact ⟨rfl, rfl, rfl⟩
  have Gm : ∀ i, i < m'.length → G.at_ (.m (p.m i)) = g1.at_ (.m i) := fun i hi => by rw [hG]; simp only [Gh.back]; rw [backL_pos im hi]
  have Gbe : ∀ l, (∀ i, i < b'.length → p.b i ≠ l) → G.at_ (.b l) = g.at_ (.b l) := fun l h => by rw [hG]; simp only [Gh.back]; rw [backL_else h]
  have Gre : ∀ l, (∀ i, i < r'.length → p.r i ≠ l) → G.at_ (.r l) = g.at_ (.r l) ∧ G.off l = g.off l ∧ G.cap l = g.cap l := fun l h => by rw [hG]; simp only [Gh.back]; rw [backL_else h]; exact ⟨rfl, rfl, rfl⟩
  have Gme : ∀ l, (∀ i, i < m'.length → p.m i ≠ l) → G.at_ (.m l) = g.at_ (.m l) := fun l h => by rw [hG]; simp only [Gh.back]; rw [backL_else h]
  have Gim : G.im = g1.im := by rw [hG]; rfl
  -- is a place one of the lesser lists'?
  have casB : ∀ l, (∃ i, i < b'.length ∧ p.b i = l) ∨ (∀ i, i < b'.length → p.b i ≠ l) := fun l => (Classical.em (∃ i, i < b'.length ∧ p.b i = l)).imp id (fun h i hi he => h ⟨i, hi, he⟩)
  have casR : ∀ l, (∃ i, i < r'.length ∧ p.r i = l) ∨ (∀ i, i < r'.length → p.r i ≠ l) := fun l => (Classical.em (∃ i, i < r'.length ∧ p.r i = l)).imp id (fun h i hi he => h ⟨i, hi, he⟩)
  have casM : ∀ l, (∃ i, i < m'.length ∧ p.m i = l) ∨ (∀ i, i < m'.length → p.m i ≠ l) := fun l => (Classical.em (∃ i, i < m'.length ∧ p.m i = l)).imp id (fun h i hi he => h ⟨i, hi, he⟩)
  have newB : ∀ i, b.length ≤ i → B.length ≤ p.b i := fun i hi => by rw [pb, posL_ge (by omega)]; omega
  have newR : ∀ i, r.length ≤ i → R.length ≤ p.r i := fun i hi => by rw [pr, posL_ge (by omega)]; omega
  have newM : ∀ i, m.length ≤ i → M.length ≤ p.m i := fun i hi => by rw [pm, posL_ge (by omega)]; omega
  have liveC : ∀ x, (hst B' R' M').live x → (∃ y, (hst b' r' m').live y ∧ x = p.loc y ∧ G.at_ x = g1.at_ y) ∨ ((hst B R M).live x ∧ (∀ y, (hst b r m).live y → p.loc y ≠ x) ∧ G.at_ x = g.at_ x) := fun x hx => by
    cases x with
    | b l =>
      rcases casB l with ⟨i, hi, rfl⟩ | h
      · exact .inl ⟨.b i, hi, rfl, Gb i hi⟩
      · have hx : l < B'.length := hx
        have h1 := elb l h
        rw [List.getElem?_eq_getElem hx] at h1
        refine .inr ⟨(List.getElem?_eq_some_iff.1 h1.symm).1, fun y hy he => ?_, Gbe l h⟩
        cases y <;> simp only [Ren.loc, Loc.b.injEq, reduceCtorEq] at he
        exact h _ (Nat.lt_of_lt_of_le hy Lb) he
    | r l =>
      obtain ⟨o, ho, hal⟩ := hx
      have ho : R'[l]? = some (some o) := ho
      rcases casR l with ⟨i, hi, rfl⟩ | h
      · exact .inl ⟨.r i, ⟨o, by rw [← ho]; exact (atr' i hi).symm, hal⟩, rfl, (Gr i hi).1⟩
      · refine .inr ⟨⟨o, by rw [← ho]; exact (elr l h).symm, hal⟩, fun y hy he => ?_, (Gre l h).1⟩
        cases y <;> simp only [Ren.loc, Loc.r.injEq, reduceCtorEq] at he
        exact h _ (Nat.lt_of_lt_of_le (live_lt hy) Lr) he
    | m l =>
      rcases casM l with ⟨i, hi, rfl⟩ | h
      · exact .inl ⟨.m i, hi, rfl, Gm i hi⟩
      · have hx : l < M'.length := hx
        have h1 := elm l h
        rw [List.getElem?_eq_getElem hx] at h1
        refine .inr ⟨(List.getElem?_eq_some_iff.1 h1.symm).1, fun y hy he => ?_, Gme l h⟩
        cases y <;> simp only [Ren.loc, Loc.m.injEq, reduceCtorEq] at he
        exact h _ (Nat.lt_of_lt_of_le hy Lm) he
  -- blocks of the caller that are not lent
  have keep : ∀ x, (hst B R M).live x → (∀ y, (hst b r m).live y → p.loc y ≠ x) → w'.heap[g.at_ x]? = w.heap[g.at_ x]? := fun x hx hne =>
    p2.block _ (hH.lt x hx) (fun ⟨y, hy, he⟩ => hne y hy (hH.inj _ _ (liveU y hy) hx he))
  have emb' : Emb p (hst b' r' m').sh (hst B' R' M').sh g1 G := by
    refine ⟨fun l hl => ⟨?_, Gb l hl⟩, fun k hk => ?_, fun l hl => ⟨?_, Gm l hl⟩⟩
    · have h1 := atb' l hl
      rw [List.getElem?_eq_getElem (show l < b'.length from hl)] at h1
      exact (List.getElem?_eq_some_iff.1 h1).1
    · have hk : k < r'.length := by simpa [hst, St.sh] using hk
      have h1 := atr' k hk
      refine ⟨?_, ?_, Gr k hk⟩
      · rw [List.getElem?_eq_getElem hk] at h1
        simpa [hst, St.sh] using (List.getElem?_eq_some_iff.1 h1).1
      · simp only [hst, St.sh, List.getElem?_map, h1]
    · have h1 := atm' l hl
      rw [List.getElem?_eq_getElem (show l < m'.length from hl)] at h1
      exact (List.getElem?_eq_some_iff.1 h1).1
  have ext : Ext g (hst B R M).sh w G (hst B' R' M').sh w' := by
    refine ⟨fun k hk => by rw [Gim]; exact p3.im k hk, p3.same, lenB, lenM, by simpa [hst, St.sh] using lenR, fun l hl => ?_, fun l hl => ?_, fun k al ver sz len hk hh => ?_⟩
    · rcases casB l with ⟨i, hi, rfl⟩ | h
      · rcases Nat.lt_or_ge i b.length with h1 | h1
        · rw [Gb i hi]; exact p3.atB i h1
        · exact absurd (show p.b i < B.length from hl) (by have := newB i h1; omega)
      · exact Gbe l h
    · rcases casM l with ⟨i, hi, rfl⟩ | h
      · rcases Nat.lt_or_ge i m.length with h1 | h1
        · rw [Gm i hi]; exact p3.atM i h1
        · exact absurd (show p.m i < M.length from hl) (by have := newM i h1; omega)
      · exact Gme l h
    · have hk : k < R.length := by simpa [hst, St.sh] using hk
      have hh : (R'[k]?).map (·.map RowO.form) = some (some (al, ver, sz, len)) := by simpa [hst, St.sh] using hh
      rcases casR k with ⟨i, hi, rfl⟩ | h
      · rcases Nat.lt_or_ge i r.length with h1 | h1
        · rw [atr' i hi] at hh
          obtain ⟨al0, ver0, sz0, len0, q1, q2, q3⟩ := p3.rows i al ver sz len (by simpa [hst, St.sh] using h1) (by simpa [hst, St.sh] using hh)
          refine ⟨al0, ver0, sz0, len0, ?_, q2, fun he => ?_⟩
          · have q1 : (r[i]?).map (·.map RowO.form) = some (some (al0, ver0, sz0, len0)) := by simpa [hst, St.sh] using q1
            simp only [hst, St.sh, List.getElem?_map, atr i h1]; exact q1
          · obtain ⟨c1, c2, c3, c4, c5, c6⟩ := q3 he
            obtain ⟨d1, d2, d3⟩ := Gr i hi
            exact ⟨c1, c2, c3, d1.trans c4, d2.trans c5, d3.trans c6⟩
        · exact absurd hk (by have := newR i h1; omega)
      · rw [elr k h] at hh
        obtain ⟨d1, d2, d3⟩ := Gre k h
        exact ⟨al, ver, sz, len, by simpa [hst, St.sh] using hh, Nat.le_refl _, fun _ => ⟨rfl, rfl, Nat.le_refl _, d1, d2, d3⟩⟩
  have notNew : ∀ x, (hst B R M).live x → (∀ y, (hst b r m).live y → p.loc y ≠ x) → ¬ g1.im (g.at_ x) := fun x hx hne h => by
    rcases p5 _ h with h | ⟨y, hy, he⟩ | h
    · exact hH.new x hx h
    · exact hne y hy (hH.inj _ _ (liveU y hy) hx he)
    · exact absurd (hH.lt x hx) (by omega)
  have cross : ∀ x y, (hst B R M).live x → (∀ y, (hst b r m).live y → p.loc y ≠ x) → (hst b' r' m').live y → g.at_ x = g1.at_ y → False := fun x y hx hne hy he => by
    rcases p6 y hy with ⟨z, hz, h⟩ | h
    · exact hne z hz (hH.inj _ _ (liveU z hz) hx (h.trans he.symm))
    · exact absurd (hH.lt x hx) (by omega)
  have heap' : Heap G (hst B' R' M') w' := by
    refine ⟨fun x hx => ?_, fun x hx => ?_, fun x y hx hy he => ?_, fun l cs hl => ?_, fun l o ho => ?_, fun l es hl => ?_⟩
    · rcases liveC x hx with ⟨y, hy, _, h⟩ | ⟨h1, h2, h3⟩
      · rw [h]; exact p7.lt y hy
      · rw [h3]; exact Nat.lt_of_lt_of_le (hH.lt x h1) p2.size
    · rcases liveC x hx with ⟨y, hy, _, h⟩ | ⟨h1, h2, h3⟩
      · rw [h, Gim]; exact p7.new y hy
      · rw [h3, Gim]; exact notNew x h1 h2
    · rcases liveC x hx with ⟨y1, hy1, e1, q1⟩ | ⟨h1, h2, h3⟩ <;> rcases liveC y hy with ⟨y2, hy2, e2, q2⟩ | ⟨h4, h5, h6⟩
      · rw [q1, q2] at he; rw [e1, e2, p7.inj y1 y2 hy1 hy2 he]
      · rw [q1, h6] at he; exact (cross y y1 h4 h5 hy1 he.symm).elim
      · rw [h3, q2] at he; exact (cross x y2 h1 h2 hy2 he).elim
      · rw [h3, h6] at he; exact hH.inj x y h1 h4 he
    · have hl : B'[l]? = some cs := hl
      rcases casB l with ⟨i, hi, rfl⟩ | h
      · rw [atb' i hi, Option.map_eq_some_iff] at hl
        obtain ⟨ds, hds, rfl⟩ := hl
        obtain ⟨us, ty, h1, h2, h3⟩ := p7.box i ds hds
        rw [Gb i hi]
        exact ⟨us, ty, h1, by rw [h2, renCs_map, List.length_map], fun j c v hc hv => RC.ups emb' Gim ds us.toList (fun j c v hc hv => h3 j c v hc (by simpa using hv)) j c v hc (by simpa using hv)⟩
      · rw [elb l h] at hl
        have hlv : (hst B R M).live (.b l) := (List.getElem?_eq_some_iff.1 hl).1
        obtain ⟨us, ty, h1, h2, h3⟩ := hH.box l cs hl
        rw [Gbe l h, keep (.b l) hlv (fun y hy he => by cases y <;> simp only [Ren.loc, Loc.b.injEq, reduceCtorEq] at he; exact h _ (Nat.lt_of_lt_of_le hy Lb) he)]
        exact ⟨us, ty, h1, h2, fun j c v hc hv => (h3 j c v hc hv).mono ext⟩
    · have ho : R'[l]? = some (some o) := ho
      rcases casR l with ⟨i, hi, rfl⟩ | h
      · rw [atr' i hi] at ho
        obtain ⟨d1, d2, d3⟩ := Gr i hi
        have h1 := p7.row i o ho
        rw [d1, d2, d3, Gim]; exact h1
      · rw [elr l h] at ho
        obtain ⟨d1, d2, d3⟩ := Gre l h
        have h1 := hH.row l o ho
        rw [d1, d2, d3, Gim]
        by_cases hal : o.al = true
        · rw [if_pos hal] at h1 ⊢
          obtain ⟨us, ty, q1, q2, q3, q4, q5, q6⟩ := h1
          have hlv : (hst B R M).live (.r l) := ⟨o, ho, hal⟩
          rw [keep (.r l) hlv (fun y hy he => by cases y <;> simp only [Ren.loc, Loc.r.injEq, reduceCtorEq] at he; exact h _ (Nat.lt_of_lt_of_le (live_lt hy) Lr) he)]
          exact ⟨us, ty, q1, q2, q3, q4, q5, fun i j x d v a1 a2 a3 => (q6 i j x d v a1 a2 a3).mono p3.im p3.same⟩
        · rw [if_neg hal] at h1 ⊢; exact h1
    · have hl : M'[l]? = some es := hl
      rcases casM l with ⟨i, hi, rfl⟩ | h
      · rw [atm' i hi] at hl
        obtain ⟨arr, clock, h1, h2, h3⟩ := p7.map i es hl
        rw [Gm i hi]
        refine ⟨arr, clock, h1, h2, fun j x e hx he => ?_⟩
        obtain ⟨q1, q2⟩ := h3 j x e hx he
        have q1 := RV.up emb' Gim q1
        have q2 := RV.up emb' Gim q2
        rw [DV_ren] at q1 q2
        exact ⟨q1, q2⟩
      · rw [elm l h] at hl
        have hlv : (hst B R M).live (.m l) := (List.getElem?_eq_some_iff.1 hl).1
        obtain ⟨arr, clock, h1, h2, h3⟩ := hH.map l es hl
        rw [Gme l h, keep (.m l) hlv (fun y hy he => by cases y <;> simp only [Ren.loc, Loc.m.injEq, reduceCtorEq] at he; exact h _ (Nat.lt_of_lt_of_le hy Lm) he)]
        exact ⟨arr, clock, h1, h2, fun j x e hx he => ⟨(h3 j x e hx he).1.mono ext, (h3 j x e hx he).2.mono ext⟩⟩
  refine ⟨v, G, renV p rv, B', R', M', rfl, ?_, ext, fun k hk => p4 k (by rw [← Gim]; exact hk), fun k hk => ?_, fun x hx => ?_, heap', RV.up emb' Gim p8, rv, b', r', m', p9, rfl, hB', hR', hM'⟩
  · exact ⟨p2.os, p2.tape, p2.output, p2.size, fun k hk hn => p2.block k hk (fun ⟨y, hy, he⟩ => hn ⟨p.loc y, liveU y hy, he⟩)⟩
  · rw [Gim] at hk
    rcases p5 k hk with h | ⟨y, hy, he⟩ | h
    · exact .inl h
    · exact .inr (.inl ⟨p.loc y, liveU y hy, he⟩)
    · exact .inr (.inr h)
  · rcases liveC x hx with ⟨y, hy, _, h⟩ | ⟨h1, h2, h3⟩
    · rw [h]
      rcases p6 y hy with ⟨z, hz, h⟩ | h
      · exact .inl ⟨p.loc z, liveU z hz, h⟩
      · exact .inr h
    · exact .inl ⟨x, h1, h3.symm⟩
theorem HCall.frameD {rv Rv : V} {b' B' : List (List C)} {r' R' : List (Option RowO)} {m' M' : List (List (DV × DV))} (pc : HCall P J f args b r m (isH rv b' r' m')) (ρb ρr ρm : List Nat) {Args : List V}
    (hA : renVs (renOf ρb ρr ρm B.length R.length M.length) args = Args)
    (hb : pickL B ρb = some (renB (renOf ρb ρr ρm B.length R.length M.length) b)) (hr : pickL R ρr = some r) (hm : pickL M ρm = some m)
    (hok : ((nodupB ρb && (nodupB ρr && nodupB ρm)) && ((allLt ρb B.length && (allLt ρr R.length && allLt ρm M.length)) && (loVs b.length r.length m.length args && loB b.length r.length m.length b))) = true)
    (h1 : renV (renOf ρb ρr ρm B.length R.length M.length) rv = Rv) (h2 : putL B ρb (renB (renOf ρb ρr ρm B.length R.length M.length) b') = B') (h3 : putL R ρr r' = R') (h4 : putL M ρm m' = M') :
    HCall P J f Args B R M (isH Rv B' R' M') :=
  (pc.frame ρb ρr ρm hA hb hr hm hok).mono fun rv B' R' M' ⟨rv0, b0, r0, m0, ⟨e1, e2, e3, e4⟩, e5, e6, e7, e8⟩ => by
    subst e1; subst e2; subst e3; subst e4
    exact ⟨e5.trans h1, e6.trans h2, e7.trans h3, e8.trans h4⟩
end
end Go.Proofs.YtcchfmilleffjaaGreatDoor
namespace Go.Proofs.YtcchfmilleffjaaGreatDoor
open Go Go.RowKit
def onesV : List V → Option (List C)
  | [] => some []
  | .one c :: l => match onesV l with | some r => some (c :: r) | none => none
  | _ :: _ => none
theorem onesV_eq : ∀ {us : List V} {cs : List C}, onesV us = some cs → us = cs.map .one
  | [], cs, h => by obtain rfl : [] = cs := by simpa [onesV] using h
                    rfl
  | .one c :: l, cs, h => by
    unfold onesV at h
    split at h
    · rename_i r hr
      obtain rfl : c :: r = cs := by simpa using h
      rw [onesV_eq hr]; rfl
    · cases h
  | .agg _ :: l, cs, h => by simp [onesV] at h
  | .tup _ :: l, cs, h => by simp [onesV] at h
  | .when _ _ :: l, cs, h => by simp [onesV] at h
  | .junk :: l, cs, h => by simp [onesV] at h
section
variable {J : Inv} {k0 : Lens} {E : Env J k0} {P : Program} {T : TypeId → Option TI} {n : Nat} {t : Nat → V} {b : List (List C)} {r : List (Option RowO)} {m : List (List (DV × DV))} {ops : Array Oper} {l : List Oper}
  {K : St → Prop} {i : Nat} {ty : TypeId} {pos : String} {after : Array Edge}
theorem S.makeFunc {f : FuncId} {caps : Array Operand} {us : List V} {cs cs' : List C} (ha : allOpdL n ⟨t, b, r, m⟩ caps.toList = (true, us)) (hc : onesV us = some cs) (hf : forceL cs = some cs')
    (k : WL E P n ops l K ⟨upd t i (.one (.clo f cs')), b, r, m⟩) : WL E P n ops (⟨some i, .makeFunc (.func f) #[] caps, ty, pos, after, none⟩ :: l) K ⟨t, b, r, m⟩ := by
  obtain rfl := forceL_eq hf
  intro g a w rel next Q hn
  have hw : Region.wanted (⟨some i, .makeFunc (.func f) #[] caps, ty, pos, after, none⟩ : Oper) (yielded ops a.tmps) = true := by simp [Region.wanted]
  rw [if_pos hw]
  obtain ⟨hal, hav⟩ := allOpdL_ok rel _ _ _ ha rfl
  have hus := onesV_eq hc
  have hrun : (execOp a.eval (⟨some i, .makeFunc (.func f) #[] caps, ty, pos, after, none⟩ : Oper)).run P w = .ok (.value (.func (.func f) #[] (caps.toList.map a.eval).toArray)) w := by
    have e : (caps.map a.eval) = (caps.toList.map a.eval).toArray := Array.toList_inj.1 (by simp)
    simp only [execOp, Instr.makeFunc, Sem.run_bind, Sem.run_pure, Result.andThen_ok, e]
    simp
  unfold Oper.wp
  rw [hrun]
  refine hn _ g _ _ k (rel.put_same (some i) (.one _ _ (.clo f cs _ (by rw [hus] at hal; simpa using hal.symm) (fun j c v hc hv => ?_))))
  have := hav j (.one c) v (by rw [hus]; simp [hc]) hv
  cases this with | one _ _ h => exact h
def putD (x : List D) (fo : Nat) (ds : List D) : List D := x.take fo ++ ds ++ x.drop (fo + ds.length)
theorem Rel.rstore {g : Gh} {a : Act} {w : World} (rel : Rel E n g ⟨t, b, r, m⟩ a w) {ri k fo : Nat} {o : RowO} {ds : List D} {us : List Value} {x0 : List D} (ho : r[ri]? = some (some o)) (hal : o.al = true) (hx0 : o.xs[k]? = some x0)
    (hlen : us.length = ds.length) (hfo : fo + ds.length ≤ o.sz) (hx : ∀ (j : Nat) (d : D) (v : Value), ds[j]? = some d → us[j]? = some v → RD g.im w d v) {vs : List Value} {tt : TypeId}
    (hb : w.heap[g.at_ (.r ri)]? = some (.cells vs.toArray tt (0, 0))) :
    Rel E n g ⟨t, b, r.set ri (some ⟨o.al, o.ver, o.sz, o.ty, o.xs.set k (putD x0 fo ds)⟩), m⟩ a
      { w with heap := w.heap.setIfInBounds (g.at_ (.r ri)) (.cells (vs.take (g.off ri + (k * o.sz + fo)) ++ us ++ vs.drop (g.off ri + (k * o.sz + fo) + us.length)).toArray tt (0, 0)) } := by
  obtain ⟨off, hoff⟩ : ∃ off, off = g.off ri + (k * o.sz + fo) := ⟨_, rfl⟩
  obtain ⟨o1, ho1⟩ : ∃ o1 : RowO, o1 = ⟨o.al, o.ver, o.sz, o.ty, o.xs.set k (putD x0 fo ds)⟩ := ⟨_, rfl⟩
  obtain ⟨s1, hs1⟩ : ∃ s1 : St, s1 = ⟨t, b, r.set ri (some o1), m⟩ := ⟨_, rfl⟩
  obtain ⟨w1, hw1⟩ : ∃ w1 : World, w1 = { w with heap := w.heap.setIfInBounds (g.at_ (.r ri)) (.cells (vs.take off ++ us ++ vs.drop (off + us.length)).toArray tt (0, 0)) } := ⟨_, rfl⟩
  rw [← hoff, ← ho1, ← hs1, ← hw1]
  have hk : k < o.xs.length := (List.getElem?_eq_some_iff.1 hx0).1
  have hr : ri < r.length := (List.getElem?_eq_some_iff.1 ho).1
  have hlive : (⟨t, b, r, m⟩ : St).live (.r ri) := ⟨o, ho, hal⟩
  have hlt := rel.heap.lt _ hlive
  have hold : ∀ q, q ≠ g.at_ (.r ri) → w1.heap[q]? = w.heap[q]? := fun q hq => by rw [hw1]; simp only; rw [Array.getElem?_setIfInBounds, if_neg (Ne.symm hq)]
  have hnew : w1.heap[g.at_ (.r ri)]? = some (.cells (vs.take off ++ us ++ vs.drop (off + us.length)).toArray tt (0, 0)) := by rw [hw1]; simp [Array.getElem?_setIfInBounds, hlt]
  have hsz : w1.heap.size = w.heap.size := by rw [hw1]; simp
  have hform : o1.form = o.form := by rw [ho1]; simp [RowO.form]
  have hsh : s1.sh = (⟨t, b, r, m⟩ : St).sh := by
    rw [hs1]
    simp only [St.sh, Sh.mk.injEq, true_and, and_true]
    apply List.ext_getElem? 
    intro q
    simp only [List.getElem?_map, List.getElem?_set]
    by_cases hq : ri = q
    · subst hq; rw [if_pos rfl, if_pos hr, ho]; simp [hform]
    · rw [if_neg hq]
  have hlv : s1.live = (⟨t, b, r, m⟩ : St).live := by
    rw [hs1]
    funext x
    cases x with
    | b l => rfl
    | m l => rfl
    | r l =>
      simp only [St.live, List.getElem?_set]
      by_cases hq : ri = l
      · subst hq
        simp only [if_true, hr]
        apply propext
        constructor
        · rintro ⟨o', h1, h2⟩; exact ⟨o, ho, hal⟩
        · rintro ⟨o', h1, h2⟩; exact ⟨o1, rfl, by rw [ho1]; exact hal⟩
      · simp [hq]
  have e : Ext g (⟨t, b, r, m⟩ : St).sh w g (⟨t, b, r, m⟩ : St).sh w1 := .of (fun _ h => h) (fun q hq => hold q (fun he => rel.heap.new _ hlive (he ▸ hq))) rfl rfl rfl
  have hother : ∀ x, (⟨t, b, r, m⟩ : St).live x → x ≠ .r ri → w1.heap[g.at_ x]? = w.heap[g.at_ x]? := fun x hx' hne => hold _ (fun he => hne (rel.heap.inj _ _ hx' hlive he))
  have hrow := rel.heap.row ri o ho
  rw [if_pos hal] at hrow
  obtain ⟨vs0, t0, q1, ⟨q2, q3, q4, q5⟩, q6, q7, q8, q9⟩ := hrow
  have hvs : vs0 = vs.toArray ∧ t0 = tt := by rw [hb] at q1; injection q1 with q1; injection q1 with q1 q1'; exact ⟨q1.symm, q1'.symm⟩
  obtain ⟨rfl, rfl⟩ := hvs
  have hvl : vs.length = g.off ri + g.cap ri * o.sz := by simpa using q2
  have hgk : x0 ∈ o.xs := List.mem_of_getElem? hx0
  have hkl : x0.length = o.sz := q7 _ hgk
  have hbound : off + us.length ≤ vs.length := by
    have h3 := Nat.mul_le_mul_right o.sz (show k + 1 ≤ g.cap ri by omega)
    rw [Nat.add_mul, Nat.one_mul] at h3
    omega
  have hheap : Heap g s1 w1 := by
    refine ⟨fun x hx' => by rw [hsz]; exact rel.heap.lt x (hlv ▸ hx'), fun x hx' => rel.heap.new x (hlv ▸ hx'), fun x y hx' hy => rel.heap.inj x y (hlv ▸ hx') (hlv ▸ hy), fun l' cs' hl' => ?_, fun l' o' ho' => ?_, fun l' es hes => ?_⟩
    · have hl2 : b[l']? = some cs' := by rw [hs1] at hl'; exact hl'
      obtain ⟨vs', t', h1, h2, h3⟩ := rel.heap.box l' cs' hl2
      have hlv' : (⟨t, b, r, m⟩ : St).live (.b l') := (List.getElem?_eq_some_iff.1 hl2).1
      rw [hsh]
      exact ⟨vs', t', by rw [hother _ hlv' (by simp)]; exact h1, h2, fun j c v hc hv => (h3 j c v hc hv).mono e⟩
    · by_cases hq : ri = l'
      · subst hq
        have : o' = o1 := by rw [hs1] at ho'; simpa [List.getElem?_set, hr] using ho'.symm
        subst this
        have hal1 : o'.al = true := by rw [ho1]; exact hal
        rw [if_pos hal1]
        refine ⟨_, t0, hnew, ⟨?_, by rw [ho1]; exact q3, q4, q5⟩, by rw [ho1]; simpa using q6, fun x hx' => ?_, fun _ _ => trivial, fun i j x d v p1 p2 p3 => ?_⟩
        · simp only [List.size_toArray, List.length_append, List.length_take, List.length_drop]
          rw [show o'.sz = o.sz by rw [ho1]]
          omega
        · rw [ho1] at hx'
          rw [show o'.sz = o.sz by rw [ho1]]
          rcases List.mem_or_eq_of_mem_set hx' with h | h
          · exact q7 x h
          · rw [h]; unfold putD; simp only [List.length_append, List.length_take, List.length_drop]; omega
        · rw [show o'.sz = o.sz by rw [ho1]] at p3
          have hxs : o'.xs = o.xs.set k (putD x0 fo ds) := by rw [ho1]
          rw [hxs, List.getElem?_set] at p1
          simp only [List.getElem?_toArray, List.append_assoc] at p3
          split at p1
          · rename_i hki
            subst hki
            simp only [hk, if_true, Option.some.injEq] at p1
            subst p1
            unfold putD at p2
            simp only [List.append_assoc] at p2
            have hjl : j < o.sz := by
              have := (List.getElem?_eq_some_iff.1 p2).1
              simp only [List.length_append, List.length_take, List.length_drop] at this; omega
            by_cases k1 : j < fo
            · rw [List.getElem?_append_left (by simp; omega), List.getElem?_take, if_pos k1] at p2
              rw [List.getElem?_append_left (by simp; omega), List.getElem?_take, if_pos (by omega)] at p3
              exact (q9 k j _ d v hx0 p2 (by simpa using p3)).mono e.im e.same
            · rw [List.getElem?_append_right (by simp; omega)] at p2 p3
              simp only [List.length_take] at p2 p3
              rw [show min fo x0.length = fo by omega] at p2
              rw [show min off vs.length = off by omega] at p3
              by_cases k2 : j - fo < ds.length
              · rw [List.getElem?_append_left k2] at p2
                rw [List.getElem?_append_left (by omega)] at p3
                exact (hx _ d v p2 (by rw [← p3]; congr 1; omega)).mono e.im e.same
              · rw [List.getElem?_append_right (by omega), List.getElem?_drop] at p2
                rw [List.getElem?_append_right (by omega), List.getElem?_drop] at p3
                exact (q9 k j _ d v hx0 (by rw [← p2]; congr 1; omega) (by rw [List.getElem?_toArray, ← p3]; congr 1; omega)).mono e.im e.same
          · rename_i hki
            have hil : i < o.xs.length := (List.getElem?_eq_some_iff.1 p1).1
            have hjl : j < o.sz := by
              have := (List.getElem?_eq_some_iff.1 p2).1
              rw [q7 x (List.mem_of_getElem? p1)] at this; exact this
            refine (q9 i j x d v p1 p2 ?_).mono e.im e.same
            rw [List.getElem?_toArray, ← p3]
            rcases Nat.lt_or_gt_of_ne hki with hlt' | hgt
            · have h3 := Nat.mul_le_mul_right o.sz (show k + 1 ≤ i from hlt')
              rw [Nat.add_mul, Nat.one_mul] at h3
              rw [List.getElem?_append_right (by simp; omega), List.getElem?_append_right (by simp; omega), List.getElem?_drop]
              congr 1
              simp only [List.length_take]
              omega
            · have h3 := Nat.mul_le_mul_right o.sz (show i + 1 ≤ k from hgt)
              rw [Nat.add_mul, Nat.one_mul] at h3
              rw [List.getElem?_append_left (by simp; omega), List.getElem?_take, if_pos (by omega)]
      · have ho2 : r[l']? = some (some o') := by rw [hs1] at ho'; simpa [List.getElem?_set, hq] using ho'
        have := rel.heap.row l' o' ho2
        by_cases hal' : o'.al = true
        · rw [if_pos hal'] at this ⊢
          obtain ⟨vs', t', h1, h2, h3, h4, h5, h6⟩ := this
          have hne : Loc.r l' ≠ .r ri := fun he => hq (by injection he with he; exact he.symm)
          exact ⟨vs', t', by rw [hother _ (show (⟨t, b, r, m⟩ : St).live (.r l') from ⟨o', ho2, hal'⟩) hne]; exact h1, h2, h3, h4, h5, fun i j x d v p q u => (h6 i j x d v p q u).mono e.im e.same⟩
        · rw [if_neg hal'] at this ⊢; exact this
    · have hes' : m[l']? = some es := by rw [hs1] at hes; exact hes
      obtain ⟨arr, clock, h1, h2, h3⟩ := rel.heap.map l' es hes'
      have hlv' : (⟨t, b, r, m⟩ : St).live (.m l') := (List.getElem?_eq_some_iff.1 hes').1
      rw [hsh]
      exact ⟨arr, clock, by rw [hother _ hlv' (by simp)]; exact h1, h2, fun i x y hx hy => ⟨(h3 i x y hx hy).1.mono e, (h3 i x y hx hy).2.mono e⟩⟩
  have hbelow : BelowX E.lent E.w0 w1 := by
    refine rel.below.trans (l2 := fun q => q = g.at_ (.r ri)) ⟨by rw [hw1], by rw [hw1], by rw [hw1], by rw [hsz]; exact Nat.le_refl _, fun q hq hn => hold q hn⟩ (fun q hq hlt' => ?_)
    rcases rel.own _ hlive with h | h
    · rw [hq]; exact h
    · omega
  refine ⟨hbelow, by rw [hsh]; exact rel.ext.trans e, fun q hq => by rw [hsz]; exact rel.imlt q hq, rel.imold, fun x hx' => rel.own x (hlv ▸ hx'), hheap, rel.size, rel.defers, fun q hq => ?_⟩
  have := (rel.tmps q hq).mono e
  rw [hsh]
  rw [hs1]; exact this
theorem S.rstore (hT : TabOk P T) {te : TypeId} {ti : TI} {x y : Operand} {ri ver kk fo : Nat} {v : V} {ds : List C} {dd : List D} {o : RowO} {xs' : List (List D)} {r' : List (Option RowO)} (hi : T te = some ti)
    (hx : opd n ⟨t, b, r, m⟩ x = (true, .one (.rptr ri ver kk fo))) (hy : opd n ⟨t, b, r, m⟩ y = (true, v)) (hv : cellsOfV v = some ds) (hd : allDs ds = some dd) (ho : rowAt ⟨t, b, r, m⟩ ri ver = some o)
    (hs : (Nat.beq ds.length ti.size && Nat.ble (fo + dd.length) o.sz) = true) (hxs : o.xs.set kk (putD (o.xs.getD kk []) fo dd) = xs') (hr : forceL (r.set ri (some ⟨o.al, o.ver, o.sz, o.ty, xs'⟩)) = some r')
    (k : WL E P n ops l K ⟨t, b, r', m⟩) : WL E P n ops (⟨none, .store te x y, ty, pos, after, none⟩ :: l) K ⟨t, b, r, m⟩ := by
  obtain rfl := forceL_eq hr
  subst hxs
  simp only [Bool.and_eq_true] at hs
  have hs1 := Nat.eq_of_beq_eq_true hs.1
  have hs2 := Nat.le_of_ble_eq_true hs.2
  intro g a w rel next Q hn
  have hw : Region.wanted (⟨none, .store te x y, ty, pos, after, none⟩ : Oper) (yielded ops a.tmps) = true := by simp [Region.wanted]
  rw [if_pos hw]
  obtain ⟨us, h1, h2, h3, h4⟩ := cellsOf_ok hv (opd_ok rel hy rfl)
  have hp := opd_ok rel hx rfl
  have hds := allDs_eq hd
  have hdl : dd.length = ds.length := by rw [hds]; simp
  generalize hz : a.eval x = z at hp
  cases hp with | one _ _ hp =>
  obtain ⟨hal, hk, rfl⟩ := rptr_val ho hp
  obtain ⟨ho1, ho2⟩ := rowAt_some ho
  have hrow := rel.heap.row ri o ho1
  rw [if_pos hal] at hrow
  obtain ⟨vs, tt, q1, ⟨q2, q3, q4, q5⟩, q6, q7, q8, q9⟩ := hrow
  obtain ⟨vs, rfl⟩ : ∃ l : List Value, vs = l.toArray := ⟨vs.toList, by simp⟩
  have hbound : g.off ri + (kk * o.sz + fo) + us.length ≤ vs.length := by
    have h5 := Nat.mul_le_mul_right o.sz (show kk + 1 ≤ g.cap ri by omega)
    rw [Nat.add_mul, Nat.one_mul] at h5
    have : vs.length = g.off ri + g.cap ri * o.sz := by simpa using q2
    omega
  have hrun : (execOp a.eval (⟨none, .store te x y, ty, pos, after, none⟩ : Oper)).run P w = .ok .skip { w with heap := w.heap.setIfInBounds (g.at_ (.r ri)) (.cells (vs.take (g.off ri + (kk * o.sz + fo)) ++ us ++ vs.drop (g.off ri + (kk * o.sz + fo) + us.length)).toArray tt (0, 0)) } := by
    have hst := storeCells_run (P := P) us (g.off ri + (kk * o.sz + fo)) w vs.toArray q1 (by simp; omega) h4 _ (Nat.le_refl _)
    simp only [Nat.sub_self] at hst
    have hsz : us.toArray.size = ti.size := by simp [h2, hs1]
    simp only [execOp, Instr.storeAt, hz, Instr.sureAddr, storeVar, Sem.run_bind, Sem.run_pure, Result.andThen_ok, run_sizeOf' hT hi, h1, hsz, ne_eq, not_true_eq_false, if_false, hst]
  unfold Oper.wp
  rw [hrun]
  refine hn _ g _ _ k ?_
  show Rel E n g _ (a.put none undef) _
  exact rel.rstore ho1 hal (show o.xs[kk]? = some (o.xs.getD kk []) by rw [List.getD_eq_getElem?_getD, List.getElem?_eq_getElem hk]; rfl) (by omega) hs2 (fun j d v hd' hv' => by
    have := h3 j (.d d) v (by rw [hds]; simp [hd']) hv'
    cases this with | d _ _ h => exact h) q1
theorem LeG.of_force {a v b : V} (hf : forceV a = some v) (h : v = b) : LeG a b := by rw [forceV_eq hf, h]; exact LeG.refl _
def HEndsD (k0 k1 : Lens) (T : TypeId → Option TI) (fn : Func) (rv : V) (b' : List (List C)) (r' : List (Option RowO)) (m' : List (List (DV × DV))) : Ex → St → Prop
  | .exit _, _ => False
  | _, s => ∃ vs, resAll T fn.ntmps s fn.results.toList = some vs ∧ (loV k1.L k1.R k1.M (resV vs) && (Nat.ble k1.L s.b.length && (Nat.ble k1.R s.r.length && (Nat.ble k1.M s.m.length &&
      (loB k1.L k1.R k1.M (s.b.take k1.L) && (Nat.ble k0.L k1.L && (Nat.ble k0.R k1.R && Nat.ble k0.M k1.M))))))) = true ∧ LeG (resV vs) rv ∧ s.b.take k1.L = b' ∧ s.r.take k1.R = r' ∧ s.m.take k1.M = m'
theorem HCall.ofD (hT : TabOk P T) (k1 : Lens) {f : FuncId} {fn : Func} {c : Code} {args : List V} {rv : V} {b' : List (List C)} {r' : List (Option RowO)} {m' : List (List (DV × DV))} (hf : P.funcs[f]? = some fn)
    (hname : (fn.name == "runtime.NumGoroutine") = false) (hb : fn.body = some c) (hn : args.length ≤ fn.ntmps)
    (h : ∀ E : Env J ⟨b.length, r.length, m.length⟩, W E P fn.ntmps c (HEndsD ⟨b.length, r.length, m.length⟩ k1 T fn rv b' r' m') ⟨argsV args, b, r, m⟩) : HCall P J f args b r m (isH rv b' r' m') := by
  refine HCall.le (HCall.of_body hT hf hname hb hn (fun E => (h E).mono ?_))
  have key : ∀ s, (∃ vs, resAll T fn.ntmps s fn.results.toList = some vs ∧ (loV k1.L k1.R k1.M (resV vs) && (Nat.ble k1.L s.b.length && (Nat.ble k1.R s.r.length && (Nat.ble k1.M s.m.length &&
      (loB k1.L k1.R k1.M (s.b.take k1.L) && (Nat.ble b.length k1.L && (Nat.ble r.length k1.R && Nat.ble m.length k1.M))))))) = true ∧ LeG (resV vs) rv ∧ s.b.take k1.L = b' ∧ s.r.take k1.R = r' ∧ s.m.take k1.M = m') →
      ∃ vs, resAll T fn.ntmps s fn.results.toList = some vs ∧ ((∃ rv', LeG (resV vs) rv' ∧ isH rv b' r' m' rv' s.b s.r s.m) ∨ ∃ k1 : Lens, (loV k1.L k1.R k1.M (resV vs) && (Nat.ble k1.L s.b.length && (Nat.ble k1.R s.r.length && (Nat.ble k1.M s.m.length &&
      (loB k1.L k1.R k1.M (s.b.take k1.L) && (Nat.ble b.length k1.L && (Nat.ble r.length k1.R && Nat.ble m.length k1.M))))))) = true ∧ ∃ rv', LeG (resV vs) rv' ∧ isH rv b' r' m' rv' (s.b.take k1.L) (s.r.take k1.R) (s.m.take k1.M)) :=
    fun s ⟨vs, h1, h2, h3, h4, h5, h6⟩ => ⟨vs, h1, .inr ⟨k1, h2, rv, h3, rfl, h4, h5, h6⟩⟩
  intro e s hs
  cases e with
  | normal => exact key s hs
  | exit id => exact hs.elim
  | ret => exact key s hs
end
end Go.Proofs.YtcchfmilleffjaaGreatDoor
namespace Go.Proofs.YtcchfmilleffjaaGreatDoor
open Go Go.RowKit
end Go.Proofs.YtcchfmilleffjaaGreatDoor
namespace Go.Proofs.YtcchfmilleffjaaGreatDoor
open Go Go.RowKit
end Go.Proofs.YtcchfmilleffjaaGreatDoor
namespace Go.Proofs.YtcchfmilleffjaaGreatDoor
open Go Go.RowKit
def reC (ri v : Nat) : C → C
  | .row q w off n => bif Nat.beq q ri then .row q v off n else .row q w off n
  | .rptr q w i fo => bif Nat.beq q ri then .rptr q v i fo else .rptr q w i fo
  | c => c
def flatC : C → Bool
  | .row _ _ _ _ => false
  | .rptr _ _ _ _ => false
  | .clo _ _ => false
  | _ => true
def reOkC (ri : Nat) : C → Bool
  | .row q w _ _ => !Nat.beq q ri || Nat.beq w 0
  | .rptr q w _ _ => !Nat.beq q ri || Nat.beq w 0
  | .clo _ caps => caps.all flatC
  | _ => true
def reV (ri v : Nat) : V → V
  | .one c => .one (reC ri v c)
  | .agg cs => .agg (cs.map (reC ri v))
  | u => u
def reOkV (ri : Nat) : V → Bool
  | .one c => reOkC ri c
  | .agg cs => cs.all (reOkC ri)
  | .junk => true
  | _ => false
structure ReSh (ri v : Nat) (h h' : Sh) : Prop where
  L : h'.L = h.L
  M : h'.M = h.M
  len : h'.rows.length = h.rows.length
  other : ∀ q, q ≠ ri → h'.rows[q]? = h.rows[q]?
  at_ : ∃ al sz ln, h.rows[ri]? = some (some (al, v, sz, ln)) ∧ h'.rows[ri]? = some (some (al, 0, sz, ln))
theorem RC.re {ri v : Nat} {g : Gh} {h h' : Sh} {w : World} (hs : ReSh ri v h h') {c : C} {x : Value} (hok : reOkC ri c = true) (hc : RC g h w (reC ri v c) x) : RC g h' w c x := by
  have hfl : ∀ {c : C} {x : Value}, flatC c = true → RC g h w c x → RC g h' w c x := fun {c x} hf hc => by
    cases hc with
    | d _ _ hx => exact .d _ _ hx
    | ptr l off hl => exact .ptr _ _ (by rw [hs.L]; exact hl)
    | eptr cells b o u hb h1 h2 => exact .eptr _ _ _ _ hb h1 h2
    | row => cases hf
    | rptr => cases hf
    | map m hm => exact .map _ (by rw [hs.M]; exact hm)
    | clo => cases hf
    | junk _ hv => exact .junk _ hv
  obtain ⟨al, sz, ln, a1, a2⟩ := hs.at_
  cases c with
  | row q w' off n =>
    have hc : RC g h w (bif Nat.beq q ri then .row q v off n else .row q w' off n) x := hc
    cases hb : Nat.beq q ri with
    | true =>
      obtain rfl : q = ri := Nat.eq_of_beq_eq_true hb
      rw [hb] at hc
      have hw0 : w' = 0 := by
        have hok : (!Nat.beq q q || Nat.beq w' 0) = true := hok
        rw [hb] at hok
        exact Nat.eq_of_beq_eq_true (by simpa using hok)
      subst hw0
      cases hc with | row _ _ _ _ _ h1 h2 h3 =>
      refine .row _ _ _ _ _ h1 (by rw [hs.len]; exact h2) (fun al' ver' sz' len' hh => ?_)
      rw [a2] at hh
      simp only [Option.some.injEq, Prod.mk.injEq] at hh
      obtain ⟨rfl, rfl, rfl, rfl⟩ := hh
      exact ⟨Nat.le_refl _, fun _ => (h3 _ _ _ _ a1).2 rfl⟩
    | false =>
      have hne : q ≠ ri := fun e => by rw [e] at hb; simp at hb
      rw [hb] at hc
      cases hc with | row _ _ _ _ _ h1 h2 h3 =>
      exact .row _ _ _ _ _ h1 (by rw [hs.len]; exact h2) (fun al' ver' sz' len' hh => h3 _ _ _ _ (by rw [← hs.other q hne]; exact hh))
  | rptr q w' i fo =>
    have hc : RC g h w (bif Nat.beq q ri then .rptr q v i fo else .rptr q w' i fo) x := hc
    cases hb : Nat.beq q ri with
    | true =>
      obtain rfl : q = ri := Nat.eq_of_beq_eq_true hb
      rw [hb] at hc
      have hw0 : w' = 0 := by
        have hok : (!Nat.beq q q || Nat.beq w' 0) = true := hok
        rw [hb] at hok
        exact Nat.eq_of_beq_eq_true (by simpa using hok)
      subst hw0
      cases hc with | rptr _ _ _ _ _ h1 h2 h3 =>
      refine .rptr _ _ _ _ _ h1 (by rw [hs.len]; exact h2) (fun al' ver' sz' len' hh => ?_)
      rw [a2] at hh
      simp only [Option.some.injEq, Prod.mk.injEq] at hh
      obtain ⟨rfl, rfl, rfl, rfl⟩ := hh
      exact ⟨Nat.le_refl _, fun _ => (h3 _ _ _ _ a1).2 rfl⟩
    | false =>
      have hne : q ≠ ri := fun e => by rw [e] at hb; simp at hb
      rw [hb] at hc
      cases hc with | rptr _ _ _ _ _ h1 h2 h3 =>
      exact .rptr _ _ _ _ _ h1 (by rw [hs.len]; exact h2) (fun al' ver' sz' len' hh => h3 _ _ _ _ (by rw [← hs.other q hne]; exact hh))
  | clo f caps =>
    have hall : ∀ c ∈ caps, flatC c = true := List.all_eq_true.1 hok
    have hc : RC g h w (.clo f caps) x := hc
    cases hc with | clo _ _ vs hl hx =>
    exact .clo _ _ _ hl (fun i c v h1 h2 => hfl (hall c (List.mem_of_getElem? h1)) (hx i c v h1 h2))
  | d x => exact hfl rfl hc
  | ptr l off => exact hfl rfl hc
  | eptr cells => exact hfl rfl hc
  | map m => exact hfl rfl hc
  | junk => exact hfl rfl hc
theorem RV.re {ri v : Nat} {g : Gh} {h h' : Sh} {w : World} (hs : ReSh ri v h h') {u : V} {x : Value} (hok : reOkV ri u = true) (hu : RV g h w (reV ri v u) x) : RV g h' w u x := by
  cases u with
  | one c => cases hu with | one _ _ hc => exact .one _ _ (hc.re hs hok)
  | agg cs =>
    have hu : RV g h w (.agg (cs.map (reC ri v))) x := hu
    cases hu with | agg _ vs hl hx =>
    refine .agg _ _ (by simpa using hl) (fun i c y h1 h2 => (hx i (reC ri v c) y (by simp [h1]) h2).re hs (List.all_eq_true.1 hok c (List.mem_of_getElem? h1)))
  | junk => exact .junk _
  | tup => cases hok
  | when => cases hok
def reL (ri v : Nat) (l : List (Nat × V)) : List (Nat × V) := l.map fun x => (x.1, reV ri v x.2)
theorem ofL_re (ri v : Nat) : ∀ (l : List (Nat × V)) (j : Nat), ofL (reL ri v l) j = reV ri v (ofL l j)
  | [], _ => rfl
  | (k, u) :: l, j => by
    show (bif Nat.beq k j then reV ri v u else ofL (reL ri v l) j) = reV ri v (bif Nat.beq k j then u else ofL l j)
    cases Nat.beq k j with
    | true => rfl
    | false => exact ofL_re ri v l j
theorem ofL_ok {ri : Nat} : ∀ {l : List (Nat × V)}, (l.all fun x => reOkV ri x.2) = true → ∀ j, reOkV ri (ofL l j) = true
  | [], _, _ => rfl
  | (k, u) :: l, h, j => by
    simp only [List.all_cons, Bool.and_eq_true] at h
    show reOkV ri (bif Nat.beq k j then u else ofL l j) = true
    cases Nat.beq k j with
    | true => exact h.1
    | false => exact ofL_ok h.2 j
theorem W.reVer {J : Inv} {k0 : Lens} {E : Env J k0} {P : Program} {n : Nat} {c : Code} {K : Ex → St → Prop} {l l0 : List (Nat × V)} {b b0 : List (List C)} {r r' : List (Option RowO)} {v sz : Nat} {al : Bool} {e : TypeId} {xs : List (List D)} (ri : Nat)
    (hr : r[ri]? = some (some ⟨al, v, sz, e, xs⟩)) (hl : reL ri v l = l0) (hb : b.map (fun cs => cs.map (reC ri v)) = b0) (hr' : r.set ri (some ⟨al, 0, sz, e, xs⟩) = r')
    (hok : (Nat.ble k0.R ri && ((l.all fun x => reOkV ri x.2) && b.all fun cs => cs.all (reOkC ri))) = true) (h : W E P n c K ⟨ofL l, b, r', []⟩) : W E P n c K ⟨ofL l0, b0, r, []⟩ := by
  subst hl; subst hb; subst hr'
  simp only [Bool.and_eq_true] at hok
  have hR := Nat.le_of_ble_eq_true hok.1
  have hlt : ri < r.length := (List.getElem?_eq_some_iff.1 hr).1
  refine h.weaken fun g a w rel => ⟨g, ?_⟩
  have hs : ReSh ri v (⟨ofL (reL ri v l), b.map (fun cs => cs.map (reC ri v)), r, []⟩ : St).sh (⟨ofL l, b, r.set ri (some ⟨al, 0, sz, e, xs⟩), []⟩ : St).sh := by
    refine ⟨by simp [St.sh], rfl, by simp [St.sh], fun q hq => ?_, al, sz, xs.length, by simp [St.sh, hr, RowO.form], by simp [St.sh, hlt, RowO.form]⟩
    have hq' : ¬ ri = q := fun e => hq e.symm
    simp [St.sh, List.getElem?_set, hq']
  have hlive : ∀ x, (⟨ofL l, b, r.set ri (some ⟨al, 0, sz, e, xs⟩), []⟩ : St).live x → (⟨ofL (reL ri v l), b.map (fun cs => cs.map (reC ri v)), r, []⟩ : St).live x := fun x hx => by
    cases x with
    | b q => have : q < b.length := hx; show q < (b.map _).length; simpa using this
    | m q => exact hx
    | r q =>
      obtain ⟨o, ho, hal⟩ := hx
      have ho : (r.set ri (some ⟨al, 0, sz, e, xs⟩))[q]? = some (some o) := ho
      by_cases hq : ri = q
      · subst hq
        simp [hlt] at ho
        exact ⟨_, hr, by rw [← ho] at hal; exact hal⟩
      · rw [List.getElem?_set, if_neg hq] at ho; exact ⟨o, ho, hal⟩
  refine ⟨rel.below, ?_, rel.imlt, rel.imold, fun x hx => rel.own x (hlive x hx), ⟨fun x hx => rel.heap.lt x (hlive x hx), fun x hx => rel.heap.new x (hlive x hx), fun x y hx hy => rel.heap.inj x y (hlive x hx) (hlive y hy), fun q cs hq => ?_, fun q o hq => ?_, fun q es hq => by cases hq⟩, rel.size, rel.defers, fun i hi => ?_⟩
  · have x := rel.ext
    refine ⟨x.im, x.same, by rw [hs.L]; exact x.lenL, by rw [hs.M]; exact x.lenM, by rw [hs.len]; exact x.lenR, x.atB, x.atM, fun q al' ver' sz' len' hq hh => x.rows q al' ver' sz' len' hq ?_⟩
    rw [← hs.other q (by rw [E.hR] at hq; omega)]; exact hh
  · have hq : b[q]? = some cs := hq
    obtain ⟨vs, t, h1, h2, h3⟩ := rel.heap.box q (cs.map (reC ri v)) (by simp [hq])
    refine ⟨vs, t, h1, by simpa using h2, fun j c x hc hx => (h3 j (reC ri v c) x (by simp [hc]) hx).re hs ?_⟩
    exact List.all_eq_true.1 (List.all_eq_true.1 hok.2.2 cs (List.mem_of_getElem? hq)) c (List.mem_of_getElem? hc)
  · have hq : (r.set ri (some ⟨al, 0, sz, e, xs⟩))[q]? = some (some o) := hq
    by_cases hqe : ri = q
    · subst hqe
      simp [hlt] at hq
      subst hq
      exact rel.heap.row ri ⟨al, v, sz, e, xs⟩ hr
    · rw [List.getElem?_set, if_neg hqe] at hq; exact rel.heap.row q o hq
  · have h1 := rel.tmps i hi
    have e1 : (⟨ofL (reL ri v l), b.map (fun cs => cs.map (reC ri v)), r, []⟩ : St).t i = reV ri v (ofL l i) := ofL_re ri v l i
    rw [e1] at h1
    exact h1.re hs (ofL_ok hok.2.1 i)
end Go.Proofs.YtcchfmilleffjaaGreatDoor
namespace Go.Proofs.YtcchfmilleffjaaGreatDoor
open Go Go.RowKit
end Go.Proofs.YtcchfmilleffjaaGreatDoor
namespace Go.Proofs.YtcchfmilleffjaaGreatDoor
open Go Go.RowKit
section
variable {J : Inv} {k0 : Lens} {E : Env J k0} {P : Program} {n : Nat} {t : Nat → V} {b : List (List C)} {r : List (Option RowO)} {m : List (List (DV × DV))} {ops : Array Oper} {l : List Oper}
  {K : St → Prop} {i : Nat} {ty : TypeId} {pos : String} {after : Array Edge}
def valD : D → Option Value
  | .int k n => some (.int k n)
  | .bool x => some (.bool x)
  | .str s => some (.string ⟨s.toArray⟩)
  | _ => none
theorem valD_of {im : Nat → Prop} {w : World} {d : D} {v u : Value} (h : valD d = some v) (hu : RD im w d u) : u = v := by
  cases hu <;> simp_all [valD]
theorem valD_rd {im : Nat → Prop} {w : World} {d : D} {v : Value} (h : valD d = some v) : RD im w d v := by
  cases d <;> simp_all [valD] <;> subst h <;> constructor
end
end Go.Proofs.YtcchfmilleffjaaGreatDoor
namespace Go.Proofs.YtcchfmilleffjaaGreatDoor
open Go Go.RowKit
section
variable {J : Inv} {k0 : Lens} {E : Env J k0} {P : Program} {T : TypeId → Option TI} {n : Nat} {t : Nat → V} {b : List (List C)} {r : List (Option RowO)} {m : List (List (DV × DV))} {ops : Array Oper} {l : List Oper}
  {K : St → Prop} {i : Nat} {ty : TypeId} {pos : String} {after : Array Edge}
theorem S.sliceRow (hT : TabOk P T) {tt e : TypeId} {ti ei : TI} {x : Operand} {lo hi : Option Operand} {ri ver off k : Nat} {l0 h0 : Int} {o : RowO} (l1 h1 : Nat) (hti : T tt = some ti) (hd : ti.desc = .slice e) (hei : T e = some ei)
    (hx : opd n ⟨t, b, r, m⟩ x = (true, .one (.row ri ver off k))) (hlo : bnd n ⟨t, b, r, m⟩ 0 lo = some (true, l0)) (hhi : bnd n ⟨t, b, r, m⟩ k hi = some (true, h0)) (ho : rowAt ⟨t, b, r, m⟩ ri ver = some o) (hsz : ei.size = o.sz)
    (hl : l0 = (l1 : Int)) (hh : h0 = (h1 : Int)) (hb : l1 ≤ h1 ∧ h1 ≤ k ∧ l1 < k) {off' k' : Nat} (ho' : off + l1 = off') (hk' : h1 - l1 = k')
    (h : WL E P n ops l K ⟨upd t i (.one (.row ri ver off' k')), b, r, m⟩) : WL E P n ops (⟨some i, .slice tt x lo hi none, ty, pos, after, none⟩ :: l) K ⟨t, b, r, m⟩ := by
  subst ho'; subst hk'; subst hl; subst hh
  intro g a w rel next Q hn
  have hw : Region.wanted (⟨some i, .slice tt x lo hi none, ty, pos, after, none⟩ : Oper) (yielded ops a.tmps) = true := by simp [Region.wanted]
  rw [if_pos hw]
  have hp := opd_ok rel hx rfl
  generalize hz : a.eval x = z at hp
  cases hp with | one _ _ hp =>
  obtain ⟨q1, q2, q3⟩ := row_val (s := ⟨t, b, r, m⟩) rel.heap ho hp
  rcases q3 with ⟨hal, rfl⟩ | ⟨_, hn0, _⟩
  · obtain ⟨ho1, ho2⟩ := rowAt_some ho
    have hrow := rel.heap.row ri o ho1
    rw [if_pos hal] at hrow
    obtain ⟨vs, tt', p1, ⟨p2, p3, p4, p5⟩, p6, p7, _, p8⟩ := hrow
    have hbb := sliceBounds_ok (P := P) (w := w) (isS := true) (m := k) (cap := g.cap ri - off) (bnd_ok rel hlo rfl) (bnd_ok rel hhi rfl) (by omega) (by omega) (by omega) (by omega)
    have hut := (hT tt ti hti).1
    rw [hd] at hut
    have hrun : (execOp a.eval (⟨some i, .slice tt x lo hi none, ty, pos, after, none⟩ : Oper)).run P w = .ok (.value (.slice (some ⟨g.at_ (.r ri), g.off ri + (off + l1) * o.sz, none⟩) (h1 - l1) (g.cap ri - (off + l1)))) w := by
      have e1 : ¬ (g.cap ri - off = l1) := by omega
      have e2 : g.off ri + off * o.sz + l1 * o.sz = g.off ri + (off + l1) * o.sz := by rw [Nat.add_mul, Nat.add_assoc]
      have e3 : g.cap ri - off - l1 = g.cap ri - (off + l1) := by omega
      simp only [execOp, hz, Instr.sliceAt, Instr.slice, Sem.run_bind, run_underlying hut, Result.andThen_ok, run_sizeOf' hT hei, Option.map_none, hbb, Sem.run_pure, Int.toNat_natCast, if_neg e1, Option.map_some, add_none, hsz, e2, e3]
    unfold Oper.wp
    rw [hrun]
    refine hn _ g _ _ h (rel.put_same (some i) (.one _ _ (.row _ _ _ _ _ rfl q1 (fun al ver' sz ln hx' => ?_))))
    have hf : (⟨t, b, r, m⟩ : St).sh.rows[ri]? = some (some o.form) := by simp [St.sh, ho1]
    rw [hf] at hx'
    simp only [Option.some.injEq, RowO.form, Prod.mk.injEq] at hx'
    obtain ⟨rfl, rfl, rfl, rfl⟩ := hx'
    exact ⟨by omega, fun _ => ⟨by omega, by rw [if_pos hal]⟩⟩
  · omega
def byteRow (bs : List UInt8) : List (List D) := bs.map fun c => [.int .u8 (c.toNat : Int)]
theorem strOf_bytes (bs : List UInt8) : strOfNums (bs.map fun c => (c.toNat : Int)) = ⟨bs.toArray⟩ := by
  unfold strOfNums
  congr 2
  rw [List.map_map]
  conv => rhs; rw [← List.map_id bs]
  apply List.map_congr_left
  intro c _
  simp
theorem S.convRow (hT : TabOk P T) {ta tb e : TypeId} {ia ib ie : TI} {x : Operand} {ri ver sz kk : Nat} {al : Bool} {te : TypeId} (bs : List UInt8) (hta : T ta = some ia) (hda : ia.desc = .slice e) (hte : T e = some ie) (hde : ie.desc = .int .u8) (htb : T tb = some ib) (hdb : ib.desc = .string)
    (hx : opd n ⟨t, b, r, m⟩ x = (true, .one (.row ri ver 0 kk))) (ho : r[ri]? = some (some ⟨al, ver, 1, te, byteRow bs⟩)) (hk : kk = bs.length)
    (h : WL E P n ops l K ⟨upd t i (.one (.d (.str bs))), b, r, m⟩) : WL E P n ops (⟨some i, .convert ta tb x, ty, pos, after, none⟩ :: l) K ⟨t, b, r, m⟩ := by
  subst hk
  intro g a w rel next Q hn
  have hw : Region.wanted (⟨some i, .convert ta tb x, ty, pos, after, none⟩ : Oper) (yielded ops a.tmps) = true := by simp [Region.wanted]
  rw [if_pos hw]
  have hp := opd_ok rel hx rfl
  generalize hz : a.eval x = z at hp
  cases hp with | one _ _ hp =>
  have hat : rowAt ⟨t, b, r, m⟩ ri ver = some ⟨al, ver, 1, te, byteRow bs⟩ := by unfold rowAt; rw [ho]; simp
  obtain ⟨q1, q2, q3⟩ := row_val (s := ⟨t, b, r, m⟩) rel.heap hat hp
  have h1 := (hT ta ia hta).1
  have h2 := (hT tb ib htb).1
  have h3 := (hT e ie hte).1
  rw [hda] at h1; rw [hdb] at h2; rw [hde] at h3
  have fin : (convert ta tb z).run P w = .ok (.string ⟨bs.toArray⟩) w → Oper.wp P (⟨some i, .convert ta tb x, ty, pos, after, none⟩ : Oper) a w next Q := fun hr => by
    have hrun : (execOp a.eval (⟨some i, .convert ta tb x, ty, pos, after, none⟩ : Oper)).run P w = .ok (.value (.string ⟨bs.toArray⟩)) w := by
      simp only [execOp, Sem.run_bind, hz, hr, Result.andThen_ok, Sem.run_pure]
    unfold Oper.wp
    rw [hrun]
    exact hn _ g _ _ h (rel.put_same (some i) (.one _ _ (.d _ _ (.str _))))
  rcases q3 with ⟨hal, rfl⟩ | ⟨_, hk0, rfl⟩
  · refine fin ?_
    have hal : al = true := hal
    subst hal
    have hr := run_convert_bytes_arg (P := P) w ta e h1 h3 (g.at_ (.r ri)) (g.off ri + 0 * 1) bs.length (g.cap ri - 0) (bs.map fun c => (c.toNat : Int)) (by simp) (fun p hp => ?_) tb h2
    · rw [strOf_bytes] at hr; exact hr
    · have hrow : (byteRow bs).getD p [] = [.int .u8 ((bs.getD p 0).toNat : Int)] := by
        unfold byteRow
        rw [List.getD_eq_getElem?_getD, List.getElem?_map, List.getElem?_eq_getElem hp, List.getD_eq_getElem?_getD, List.getElem?_eq_getElem hp]; rfl
      obtain ⟨v, c1, c2⟩ := row_cell rel.heap hat rfl (show p < (byteRow bs).length by simpa [byteRow] using hp) 0 (.int .u8 ((bs.getD p 0).toNat : Int)) (by show ((byteRow bs).getD p [])[0]? = _; rw [hrow]; rfl)
      cases c2 with | int =>
      have hpd : (bs.map fun c => (c.toNat : Int)).getD p 0 = ((bs.getD p 0).toNat : Int) := by
        rw [List.getD_eq_getElem?_getD, List.getElem?_map, List.getElem?_eq_getElem hp, List.getD_eq_getElem?_getD, List.getElem?_eq_getElem hp]; rfl
      rw [hpd]
      simpa using c1
  · refine fin ?_
    have h0 : bs = [] := List.length_eq_zero_iff.1 hk0
    subst h0
    exact run_convert_bytes_nil (P := P) w ta e h1 h3 0 0 tb h2
end
end Go.Proofs.YtcchfmilleffjaaGreatDoor
namespace Go.Proofs.YtcchfmilleffjaaGreatDoor
open Go Go.RowKit
section
variable {α β : Type} (same : α → α → Bool)
def hasL (l : List (α × β)) (k : α) : Bool := l.any fun x => same k x.1
def getL (z : β) : List (α × β) → α → β
  | [], _ => z
  | x :: l, k => bif same k x.1 then x.2 else getL z l k
def setL : List (α × β) → α → β → List (α × β)
  | [], k, v => [(k, v)]
  | x :: l, k, v => bif same k x.1 then (k, v) :: l else x :: setL l k v
def delL : List (α × β) → α → List (α × β)
  | [], _ => []
  | x :: l, k => bif same k x.1 then l else x :: delL l k
end
structure KeyOk {α : Type} (kind : TypeDesc) (enc : α → D) (val : α → Value) (same : α → α → Bool) : Prop where
  v : ∀ a, valD (enc a) = some (val a)
  now : ∀ a b, Instr.sameNow kind (val a) (val b) = some (same a b)
  bits : ∀ a b, same a b = true → Instr.sameBits 10000 (val b) (val a) = true
  chk : ∀ (P : Program) (w : World) (e : Bool) (t : TypeId) (a : α), P.underlying t = some kind → (Instr.checkKey e 10000 t (val a)).run P w = .ok () w
theorem keyStr : KeyOk .string D.str (fun s : List UInt8 => Value.string ⟨s.toArray⟩) (fun a b => a == b) where
  v _ := rfl
  now a b := by
    show some ((ByteArray.mk a.toArray) == (ByteArray.mk b.toArray)) = _
    congr 1
    rw [Bool.eq_iff_iff, MapKept.bytes_beq, beq_iff_eq]
    simp
  bits a b h := by
    obtain rfl := beq_iff_eq.1 h
    show (ByteArray.mk a.toArray == ByteArray.mk a.toArray) = true
    rw [MapKept.bytes_beq]
  chk P w e t a h := by
    show (Instr.checkKey e (9999 + 1) t _).run P w = _
    unfold Instr.checkKey
    simp only [Sem.run_bind, run_underlying h, Result.andThen_ok, Sem.run_pure]
section
variable {α β : Type} {kind : TypeDesc} {enc : α → D} {val : α → Value} {same : α → α → Bool}
theorem findNow_ok (ke : KeyOk kind enc val same) (k : α) : ∀ (l : List (α × β)) (es : List MapEntry) (i0 : Nat), es.length = l.length → (∀ (i : Nat) (x : α × β) (e : MapEntry), l[i]? = some x → es[i]? = some e → e.key = val x.1) →
    (hasL same l k = false ∧ Instr.findNow kind (val k) es i0 = some none ∧ (∀ v, setL same l k v = l ++ [(k, v)]) ∧ delL same l k = l ∧ ∀ z, getL same z l k = z) ∨
    (hasL same l k = true ∧ ∃ p x e, l[p]? = some x ∧ es[p]? = some e ∧ Instr.findNow kind (val k) es i0 = some (some (i0 + p, e.val)) ∧ same k x.1 = true ∧ (∀ v, setL same l k v = l.set p (k, v)) ∧ delL same l k = l.eraseIdx p ∧ ∀ z, getL same z l k = x.2)
  | [], es, i0, hl, _ => by
    obtain rfl : es = [] := List.length_eq_zero_iff.1 hl
    exact .inl ⟨rfl, rfl, fun _ => rfl, rfl, fun _ => rfl⟩
  | x :: l, [], i0, hl, _ => by cases hl
  | x :: l, e :: es, i0, hl, hk => by
    have h0 : e.key = val x.1 := hk 0 x e rfl rfl
    have hn : Instr.sameNow kind (val k) e.key = some (same k x.1) := by rw [h0]; exact ke.now k x.1
    cases hs : same k x.1 with
    | true =>
      right
      refine ⟨by simp [hasL, hs], 0, x, e, rfl, rfl, ?_, hs, fun v => by simp [setL, hs], by simp [delL, hs], fun z => by simp [getL, hs]⟩
      rw [hs] at hn
      simp only [Instr.findNow, hn, Nat.add_zero]
    | false =>
      rw [hs] at hn
      have ih := findNow_ok ke k l es (i0 + 1) (by simpa using hl) (fun i y f h1 h2 => hk (i + 1) y f (by simpa using h1) (by simpa using h2))
      rcases ih with ⟨h1, h2, h3, h4, h5⟩ | ⟨h1, p, y, f, h2, h3, h4, h5, h6, h7, h8⟩
      · left
        refine ⟨by unfold hasL at h1 ⊢; simp [hs, h1], by simp only [Instr.findNow, hn]; exact h2, fun v => by simp [setL, hs, h3 v], by simp [delL, hs, h4], fun z => by simp [getL, hs, h5 z]⟩
      · right
        refine ⟨by unfold hasL at h1 ⊢; simp [hs, h1], p + 1, y, f, by simpa using h2, by simpa using h3, ?_, h5, fun v => by simp [setL, hs, h6 v], by simp [delL, hs, h7], fun z => by simp [getL, hs, h8 z]⟩
        simp only [Instr.findNow, hn, h4]
        congr 3
        omega
variable {J : Inv} {k0 : Lens} {E : Env J k0} {P : Program} {T : TypeId → Option TI} {n : Nat} {t : Nat → V} {b : List (List C)} {r : List (Option RowO)} {m : List (List (DV × DV))} {ops : Array Oper} {l : List Oper}
  {K : St → Prop} {i : Nat} {ty : TypeId} {pos : String} {after : Array Edge}
def Gh.mapAt (g : Gh) (l b : Nat) : Gh := { g with at_ := fun x => if x = .m l then b else g.at_ x }
theorem Rel.newMap {s : St} {g : Gh} {a : Act} {w : World} (r : Rel E n g s a w) (d : Option Nat) :
    Rel E n (g.mapAt s.m.length w.heap.size) ((⟨s.t, s.b, s.r, s.m ++ [[]]⟩ : St).set d (.one (.map s.m.length))) (a.put d (.map (some w.heap.size))) (w.alloc (.map #[] 0)) := by
  obtain ⟨s1, hs1⟩ : ∃ s1 : St, s1 = ⟨s.t, s.b, s.r, s.m ++ [[]]⟩ := ⟨_, rfl⟩
  have hsz : (w.alloc (.map #[] 0)).heap.size = w.heap.size + 1 := by simp
  have hold : ∀ k, k < w.heap.size → (w.alloc (.map #[] 0)).heap[k]? = w.heap[k]? := fun k hk => Below.heap_alloc w _ k hk
  have hnew : (w.alloc (.map #[] 0)).heap[w.heap.size]? = some (.map #[] 0) := by show (w.heap.push _)[w.heap.size]? = _; simp
  have e : Ext g s.sh w (g.mapAt s.m.length w.heap.size) s1.sh (w.alloc (.map #[] 0)) := by
    subst hs1
    refine ⟨fun _ h => h, fun b hb => hold b (r.imlt b hb), Nat.le_refl _, by simp [St.sh], Nat.le_refl _, fun _ _ => by simp [Gh.mapAt], fun l hl => ?_, fun q al ver sz len hq h => ⟨al, ver, sz, len, h, Nat.le_refl _, fun _ => ⟨rfl, rfl, Nat.le_refl _, by simp [Gh.mapAt], rfl, rfl⟩⟩⟩
    have : l ≠ s.m.length := by have : l < s.m.length := hl; omega
    simp [Gh.mapAt, this]
  have hat : ∀ x, s.live x → (g.mapAt s.m.length w.heap.size).at_ x = g.at_ x := fun x hx => by
    have : x ≠ .m s.m.length := by rintro rfl; exact absurd (show s.m.length < s.m.length from hx) (Nat.lt_irrefl _)
    simp [Gh.mapAt, this]
  have hlive : ∀ x, s1.live x → s.live x ∨ x = .m s.m.length := fun x hx => by
    subst hs1
    cases x with
    | m l => have h2 : l < s.m.length + 1 := by have := show l < (s.m ++ [[]]).length from hx; simpa using this
             rcases Nat.lt_or_ge l s.m.length with h | h
             · exact .inl h
             · right; congr 1; omega
    | r l => exact .inl hx
    | b l => exact .inl hx
  have hnewat : (g.mapAt s.m.length w.heap.size).at_ (.m s.m.length) = w.heap.size := by simp [Gh.mapAt]
  have hheap : Heap (g.mapAt s.m.length w.heap.size) s1 (w.alloc (.map #[] 0)) := by
    refine ⟨fun x hx => ?_, fun x hx => ?_, fun x y hx hy he => ?_, fun l cs' hl' => ?_, fun l o ho => ?_, fun l es hes => ?_⟩
    · rcases hlive x hx with h | rfl
      · rw [hat x h, hsz]; exact Nat.lt_succ_of_lt (r.heap.lt x h)
      · rw [hnewat, hsz]; exact Nat.lt_succ_self _
    · rcases hlive x hx with h | rfl
      · rw [hat x h]; exact r.heap.new x h
      · rw [hnewat]; exact fun hi => absurd (r.imlt _ hi) (Nat.lt_irrefl _)
    · rcases hlive x hx with h | rfl <;> rcases hlive y hy with h' | rfl
      · rw [hat x h, hat y h'] at he; exact r.heap.inj x y h h' he
      · rw [hat x h, hnewat] at he; exact absurd (r.heap.lt x h) (by omega)
      · rw [hat y h', hnewat] at he; exact absurd (r.heap.lt y h') (by omega)
      · rfl
    · have hl2 : s.b[l]? = some cs' := by subst hs1; exact hl'
      obtain ⟨vs', t', h1, h2, h3⟩ := r.heap.box l cs' hl2
      have hlv : s.live (.b l) := (List.getElem?_eq_some_iff.1 hl2).1
      rw [hat (.b l) hlv]
      exact ⟨vs', t', by rw [hold _ (r.heap.lt (.b l) hlv)]; exact h1, h2, fun j c v hc hv => (h3 j c v hc hv).mono e⟩
    · have ho' : s.r[l]? = some (some o) := by subst hs1; exact ho
      have := r.heap.row l o ho'
      by_cases hal : o.al = true
      · rw [if_pos hal] at this ⊢
        obtain ⟨vs', t', h1, h2, h3, h4, h5, h6⟩ := this
        rw [hat (.r l) ⟨o, ho', hal⟩]
        exact ⟨vs', t', by rw [hold _ (r.heap.lt (.r l) ⟨o, ho', hal⟩)]; exact h1, h2, h3, h4, h5, fun i j x d v p q u => (h6 i j x d v p q u).mono e.im e.same⟩
      · rw [if_neg hal] at this ⊢; exact this
    · subst hs1
      rcases Nat.lt_or_ge l s.m.length with h | h
      · have hl2 : s.m[l]? = some es := by
          have hes : (s.m ++ [[]])[l]? = some es := hes
          rwa [List.getElem?_append_left h] at hes
        obtain ⟨arr, clock, h1, h2, h3⟩ := r.heap.map l es hl2
        rw [hat (.m l) h]
        exact ⟨arr, clock, by rw [hold _ (r.heap.lt (.m l) h)]; exact h1, h2, fun i x y hx hy => ⟨(h3 i x y hx hy).1.mono e, (h3 i x y hx hy).2.mono e⟩⟩
      · have hl2 : l = s.m.length ∧ [] = es := by
          have hes : (s.m ++ [[]])[l]? = some es := hes
          rw [List.getElem?_append_right h] at hes
          have h4 : l - s.m.length < 1 := by have := (List.getElem?_eq_some_iff.1 hes).1; simpa using this
          have h5 : l - s.m.length = 0 := by omega
          rw [h5] at hes
          exact ⟨by omega, by simpa using hes⟩
        obtain ⟨rfl, rfl⟩ := hl2
        rw [hnewat]
        exact ⟨#[], 0, hnew, ⟨⟨rfl, fun i e h => by simp at h, fun i j e f h => by simp at h⟩, fun i x e h => by simp at h⟩, fun i x e h => by simp at h⟩
  have hbelow : BelowX E.lent E.w0 (w.alloc (.map #[] 0)) := r.below.then ((Below.refl _ _).alloc (Nat.le_refl _) _)
  have rel1 : Rel E n (g.mapAt s.m.length w.heap.size) s1 a (w.alloc (.map #[] 0)) := by
    refine ⟨hbelow, r.ext.trans e, fun b hb => by rw [hsz]; exact Nat.lt_succ_of_lt (r.imlt b hb), r.imold, fun x hx => ?_, hheap, r.size, r.defers, fun i hi => ?_⟩
    · rcases hlive x hx with h | rfl
      · rw [hat x h]; exact r.own x h
      · rw [hnewat]; exact .inr r.below.size
    · have := (r.tmps i hi).mono e
      subst hs1; exact this
  have := rel1.put_same d (u := .one (.map s.m.length)) (v := .map (some w.heap.size)) (by
    have h := RC.map (g := g.mapAt s.m.length w.heap.size) (h := s1.sh) (w := w.alloc (.map #[] 0)) s.m.length (by subst hs1; simp [St.sh])
    rw [hnewat] at h
    exact .one _ _ h)
  subst hs1
  exact this
theorem S.makeMap {te : TypeId} {m' : List (List (DV × DV))} (hm' : appL m [[]] = m')
    (k : WL E P n ops l K ⟨upd t i (.one (.map m.length)), b, r, m'⟩) : WL E P n ops (⟨some i, .makeMap te none, ty, pos, after, none⟩ :: l) K ⟨t, b, r, m⟩ := by
  subst hm'
  rw [appL_eq] at k
  intro g a w rel next Q hn
  have hw : Region.wanted (⟨some i, .makeMap te none, ty, pos, after, none⟩ : Oper) (yielded ops a.tmps) = true := by simp [Region.wanted]
  rw [if_pos hw]
  have hrun : (execOp a.eval (⟨some i, .makeMap te none, ty, pos, after, none⟩ : Oper)).run P w = .ok (.value (.map (some w.heap.size))) (w.alloc (.map #[] 0)) := by
    simp [execOp, Instr.makeMap]
  unfold Oper.wp
  rw [hrun]
  exact hn _ _ _ _ k (rel.newMap (some i))
theorem Rel.setMap {s : St} {g : Gh} {a : Act} {w : World} (r : Rel E n g s a w) {mi : Nat} {es : List (DV × DV)} (hm : s.m[mi]? = some es) {es' : List (DV × DV)} {arr' : Array MapEntry} {clock' : Nat} (hfit : MapFitE arr' clock' es')
    (hx : ∀ (i : Nat) (x : DV × DV) (e : MapEntry), es'[i]? = some x → arr'[i]? = some e → RV g s.sh w x.1.v e.key ∧ RV g s.sh w x.2.v e.val) :
    Rel E n g ⟨s.t, s.b, s.r, s.m.set mi es'⟩ a { w with heap := w.heap.setIfInBounds (g.at_ (.m mi)) (.map arr' clock') } := by
  obtain ⟨s1, hs1⟩ : ∃ s1 : St, s1 = ⟨s.t, s.b, s.r, s.m.set mi es'⟩ := ⟨_, rfl⟩
  obtain ⟨w1, hw1⟩ : ∃ w1 : World, w1 = { w with heap := w.heap.setIfInBounds (g.at_ (.m mi)) (.map arr' clock') } := ⟨_, rfl⟩
  rw [← hs1, ← hw1]
  have hmi : mi < s.m.length := (List.getElem?_eq_some_iff.1 hm).1
  have hlive : s.live (.m mi) := hmi
  have hlt := r.heap.lt _ hlive
  have hsh : s1.sh = s.sh := by rw [hs1]; simp [St.sh]
  have hlv : s1.live = s.live := by
    rw [hs1]; funext x
    cases x with
    | b l => rfl
    | r l => rfl
    | m l => show (l < (s.m.set mi es').length) = _; rw [List.length_set]; rfl
  have hsz : w1.heap.size = w.heap.size := by rw [hw1]; simp
  have hold : ∀ q, q ≠ g.at_ (.m mi) → w1.heap[q]? = w.heap[q]? := fun q hq => by rw [hw1]; simp only; rw [Array.getElem?_setIfInBounds, if_neg (Ne.symm hq)]
  have hnew : w1.heap[g.at_ (.m mi)]? = some (.map arr' clock') := by rw [hw1]; simp [Array.getElem?_setIfInBounds, hlt]
  have e : Ext g s.sh w g s.sh w1 := .of (fun _ h => h) (fun q hq => hold q (fun he => r.heap.new _ hlive (he ▸ hq))) rfl rfl rfl
  have hother : ∀ x, s.live x → x ≠ .m mi → w1.heap[g.at_ x]? = w.heap[g.at_ x]? := fun x hx' hne => hold _ (fun he => hne (r.heap.inj _ _ hx' hlive he))
  have hheap : Heap g s1 w1 := by
    refine ⟨fun x hx' => by rw [hsz]; exact r.heap.lt x (hlv ▸ hx'), fun x hx' => r.heap.new x (hlv ▸ hx'), fun x y hx' hy => r.heap.inj x y (hlv ▸ hx') (hlv ▸ hy), fun l' cs' hl' => ?_, fun l' o' ho' => ?_, fun l' es0 hes => ?_⟩
    · have hl2 : s.b[l']? = some cs' := by rw [hs1] at hl'; exact hl'
      obtain ⟨vs', t', h1, h2, h3⟩ := r.heap.box l' cs' hl2
      rw [hsh]
      exact ⟨vs', t', by rw [hother _ (show s.live (.b l') from (List.getElem?_eq_some_iff.1 hl2).1) (by simp)]; exact h1, h2, fun j c v hc hv => (h3 j c v hc hv).mono e⟩
    · have ho2 : s.r[l']? = some (some o') := by rw [hs1] at ho'; exact ho'
      have := r.heap.row l' o' ho2
      by_cases hal' : o'.al = true
      · rw [if_pos hal'] at this ⊢
        obtain ⟨vs', t', h1, h2, h3, h4, h5, h6⟩ := this
        exact ⟨vs', t', by rw [hother _ (show s.live (.r l') from ⟨o', ho2, hal'⟩) (by simp)]; exact h1, h2, h3, h4, h5, fun i j x d v p q u => (h6 i j x d v p q u).mono e.im e.same⟩
      · rw [if_neg hal'] at this ⊢; exact this
    · have hes' : (s.m.set mi es')[l']? = some es0 := by rw [hs1] at hes; exact hes
      rw [hsh]
      by_cases hq : mi = l'
      · subst hq
        obtain rfl : es' = es0 := by simpa [List.getElem?_set, hmi] using hes'
        exact ⟨arr', clock', hnew, hfit, fun i x y hx' hy => ⟨(hx i x y hx' hy).1.mono e, (hx i x y hx' hy).2.mono e⟩⟩
      · have hm2 : s.m[l']? = some es0 := by simpa [List.getElem?_set, hq] using hes'
        obtain ⟨arr, clock, h1, h2, h3⟩ := r.heap.map l' es0 hm2
        exact ⟨arr, clock, by rw [hother _ (show s.live (.m l') from (List.getElem?_eq_some_iff.1 hm2).1) (fun h => hq (by injection h with h; exact h.symm))]; exact h1, h2, fun i x y hx hy => ⟨(h3 i x y hx hy).1.mono e, (h3 i x y hx hy).2.mono e⟩⟩
  have hbelow : BelowX E.lent E.w0 w1 := by
    refine r.below.trans (l2 := fun q => q = g.at_ (.m mi)) ⟨by rw [hw1], by rw [hw1], by rw [hw1], by rw [hsz]; exact Nat.le_refl _, fun q hq hn => hold q hn⟩ (fun q hq hlt' => ?_)
    rcases r.own _ hlive with h | h
    · rw [hq]; exact h
    · omega
  refine ⟨hbelow, by rw [hsh]; exact r.ext.trans e, fun q hq => by rw [hsz]; exact r.imlt q hq, r.imold, fun x hx' => r.own x (hlv ▸ hx'), hheap, r.size, r.defers, fun q hq => ?_⟩
  have := (r.tmps q hq).mono e
  rw [hsh]
  rw [hs1]; exact this
def mapOf (enc : α → D) (fD : β → DV) (l : List (α × β)) : List (DV × DV) := l.map fun x => (.one (enc x.1), fD x.2)
theorem mapOf_get {enc : α → D} {fD : β → DV} {l : List (α × β)} {i : Nat} {x : DV × DV} (h : (mapOf enc fD l)[i]? = some x) : ∃ y, l[i]? = some y ∧ x = (.one (enc y.1), fD y.2) := by
  unfold mapOf at h
  rw [List.getElem?_map] at h
  obtain ⟨y, h1, h2⟩ := Option.map_eq_some_iff.1 h
  exact ⟨y, h1, h2.symm⟩
theorem mapOf_fit {enc : α → D} {fD : β → DV} {l : List (α × β)} {arr : Array MapEntry} {clock : Nat} (h : MapFit arr clock l.length) : MapFitE arr clock (mapOf enc fD l) :=
  ⟨by simpa [mapOf] using h, fun i x e hx _ => by
    obtain ⟨y, _, rfl⟩ := mapOf_get hx
    trivial⟩
theorem KeyOk.eq (ke : KeyOk kind enc val same) {g : Gh} {h : Sh} {w : World} {a : α} {u : Value} (hx : RV g h w (DV.one (enc a)).v u) : u = val a := by
  cases hx with | one _ _ hx => cases hx with | d _ _ hx => exact valD_of (ke.v a) hx
theorem map_find (ke : KeyOk kind enc val same) {s : St} {g : Gh} {a : Act} {w : World} (rel : Rel E n g s a w) {mi : Nat} {fD : β → DV} {l : List (α × β)} (hm : s.m[mi]? = some (mapOf enc fD l)) (k : α) :
    ∃ arr clock, w.heap[g.at_ (.m mi)]? = some (.map arr clock) ∧ MapFit arr clock l.length ∧ (∀ (i : Nat) (x : α × β) (e : MapEntry), l[i]? = some x → arr[i]? = some e → e.key = val x.1 ∧ RV g s.sh w (fD x.2).v e.val) ∧
      ((hasL same l k = false ∧ Instr.findNow kind (val k) arr.toList 0 = some none ∧ (∀ v, setL same l k v = l ++ [(k, v)]) ∧ delL same l k = l ∧ ∀ z, getL same z l k = z) ∨
      (hasL same l k = true ∧ ∃ p x e, l[p]? = some x ∧ arr[p]? = some e ∧ Instr.findNow kind (val k) arr.toList 0 = some (some (p, e.val)) ∧ same k x.1 = true ∧ (∀ v, setL same l k v = l.set p (k, v)) ∧ delL same l k = l.eraseIdx p ∧ ∀ z, getL same z l k = x.2)) := by
  obtain ⟨arr, clock, h1, h2, h3⟩ := rel.heap.map mi _ hm
  have hlen : (mapOf enc fD l).length = l.length := by simp [mapOf]
  replace h2 := h2.1
  rw [hlen] at h2
  have hk : ∀ (i : Nat) (x : α × β) (e : MapEntry), l[i]? = some x → arr[i]? = some e → e.key = val x.1 ∧ RV g s.sh w (fD x.2).v e.val := fun i x e hx he => by
    have := h3 i (.one (enc x.1), fD x.2) e (by simp [mapOf, hx]) he
    exact ⟨ke.eq this.1, this.2⟩
  have hf := findNow_ok ke k l arr.toList 0 (by simpa using h2.len) (fun i x e hx he => (hk i x e hx (by simpa using he)).1)
  refine ⟨arr, clock, h1, h2, hk, ?_⟩
  rcases hf with h | ⟨q1, p, x, e, q2, q3, q4, q5⟩
  · exact .inl h
  · exact .inr ⟨q1, p, x, e, q2, by simpa using q3, by rw [q4, Nat.zero_add], q5⟩
theorem run_findKey_now {w : World} {kt : TypeId} {k : Value} {es : List MapEntry} {q : Option (Nat × Value)} (hu : P.underlying kt = some kind) (h : Instr.findNow kind k es 0 = some q) : (Instr.findKey kt k es).run P w = .ok q w := by
  unfold Instr.findKey
  simp only [Sem.run_bind, run_underlying hu, Result.andThen_ok, h, Sem.run_pure]
def mapV (ok : Bool) (v : V) (has : Bool) : V := bif ok then .tup [v, .one (.d (.bool has))] else v
theorem S.lookup (hT : TabOk P T) (ke : KeyOk kind enc val same) {tm kt et : TypeId} {ti ki ei : TI} {x y : Operand} {co : Bool} {mi : Nat} {a0 : α} {fD : β → DV} (z : β) (l0 : List (α × β)) (hti : T tm = some ti) (hd : ti.desc = .map kt et) (hki : T kt = some ki) (hkd : ki.desc = kind)
    (hei : T et = some ei) (hx : opd n ⟨t, b, r, m⟩ x = (true, .one (.map mi))) (hy : opd n ⟨t, b, r, m⟩ y = (true, .one (.d (enc a0)))) (hm : m[mi]? = some (mapOf enc fD l0)) (hz : constV ei.zero = (fD z).v) (hzo : constOk ei.zero = true)
    {v : V} (hv : mapV co (fD (getL same z l0 a0)).v (hasL same l0 a0) = v) (k : WL E P n ops l K ⟨upd t i v, b, r, m⟩) : WL E P n ops (⟨some i, .lookup tm x y co, ty, pos, after, none⟩ :: l) K ⟨t, b, r, m⟩ := by
  subst hv
  intro g a w rel next Q hn
  have hw : Region.wanted (⟨some i, .lookup tm x y co, ty, pos, after, none⟩ : Oper) (yielded ops a.tmps) = true := by simp [Region.wanted]
  rw [if_pos hw]
  have hp := opd_ok rel hx rfl
  have hq := opd_ok rel hy rfl
  generalize hxx : a.eval x = xv at hp
  generalize hyy : a.eval y = yv at hq
  cases hp with | one _ _ hp => cases hp with | map _ hmi =>
  have hyv : yv = val a0 := ke.eq (a := a0) hq
  subst hyv
  have h1 := (hT tm ti hti).1
  have h2 := (hT kt ki hki).1
  rw [hd] at h1; rw [hkd] at h2
  obtain ⟨arr, clock, q1, q2, q3, q4⟩ := map_find (s := ⟨t, b, r, m⟩) ke rel hm a0
  have hzv : RV g (⟨t, b, r, m⟩ : St).sh w (fD z).v ei.zero := by rw [← hz]; exact constV_ok _ _ _ _ hzo
  have fin : ∀ (u : Value) (is : Bool), (Instr.lookup tm (.map (some (g.at_ (.m mi)))) (val a0) co).run P w = .ok (if co then .tuple #[u, .bool is] else u) w → RV g (⟨t, b, r, m⟩ : St).sh w (fD (getL same z l0 a0)).v u → is = hasL same l0 a0 →
      Oper.wp P (⟨some i, .lookup tm x y co, ty, pos, after, none⟩ : Oper) a w next Q := fun u is hr hu his => by
    have hrun : (execOp a.eval (⟨some i, .lookup tm x y co, ty, pos, after, none⟩ : Oper)).run P w = .ok (.value (if co then .tuple #[u, .bool is] else u)) w := by
      simp only [execOp, Sem.run_bind, hxx, hyy, hr, Result.andThen_ok, Sem.run_pure]
    unfold Oper.wp
    rw [hrun]
    refine hn _ g _ _ k (rel.put_same (some i) ?_)
    subst his
    cases co with
    | false => exact hu
    | true =>
      show RV _ _ _ (.tup [_, _]) (.tuple #[u, .bool (hasL same l0 a0)])
      refine .tup _ [u, .bool (hasL same l0 a0)] rfl (fun j c v hc hv => ?_)
      match j with
      | 0 => simp at hc hv; subst hc; subst hv; exact hu
      | 1 => simp at hc hv; subst hc; subst hv; exact .one _ _ (.d _ _ (.bool _))
      | j + 2 => simp at hc
  rcases q4 with ⟨p1, p2, _, _, p5⟩ | ⟨p1, p, x', e, p2, p3, p4, p5, _, _, p8⟩
  · refine fin ei.zero false ?_ (by rw [p5]; exact hzv) p1.symm
    simp only [Instr.lookup, Sem.run_bind, run_underlying h1, Result.andThen_ok, MapKept.run_getObj_map q1, Sem.run_pure, ke.chk P w _ kt a0 h2, run_findKey_now h2 p2, run_zeroValue' hT hei]
  · refine fin e.val true ?_ (by rw [p8]; exact (q3 p x' e p2 p3).2) p1.symm
    simp only [Instr.lookup, Sem.run_bind, run_underlying h1, Result.andThen_ok, MapKept.run_getObj_map q1, Sem.run_pure, ke.chk P w _ kt a0 h2, run_findKey_now h2 p4]
theorem S.mapUpdate (hT : TabOk P T) (ke : KeyOk kind enc val same) {tm kt et : TypeId} {ti ki : TI} {x y u : Operand} {mi : Nat} {a0 : α} {fD : β → DV} (v0 : β) (l0 : List (α × β)) (hti : T tm = some ti) (hd : ti.desc = .map kt et) (hki : T kt = some ki) (hkd : ki.desc = kind)
    (hx : opd n ⟨t, b, r, m⟩ x = (true, .one (.map mi))) (hy : opd n ⟨t, b, r, m⟩ y = (true, .one (.d (enc a0)))) (hu : opd n ⟨t, b, r, m⟩ u = (true, (fD v0).v)) (hm : m[mi]? = some (mapOf enc fD l0))
    {m' : List (List (DV × DV))} (hm' : m.set mi (mapOf enc fD (setL same l0 a0 v0)) = m') (k : WL E P n ops l K ⟨t, b, r, m'⟩) : WL E P n ops (⟨none, .mapUpdate tm x y u, ty, pos, after, none⟩ :: l) K ⟨t, b, r, m⟩ := by
  subst hm'
  intro g a w rel next Q hn
  have hw : Region.wanted (⟨none, .mapUpdate tm x y u, ty, pos, after, none⟩ : Oper) (yielded ops a.tmps) = true := by simp [Region.wanted]
  rw [if_pos hw]
  have hp := opd_ok rel hx rfl
  have hq := opd_ok rel hy rfl
  have hr := opd_ok rel hu rfl
  generalize hxx : a.eval x = xv at hp
  generalize hyy : a.eval y = yv at hq
  generalize huu : a.eval u = uv at hr
  cases hp with | one _ _ hp => cases hp with | map _ hmi =>
  have hyv : yv = val a0 := ke.eq (a := a0) hq
  have hkv := hq
  subst hyv
  have h1 := (hT tm ti hti).1
  have h2 := (hT kt ki hki).1
  rw [hd] at h1; rw [hkd] at h2
  obtain ⟨arr, clock, q1, q2, q3, q4⟩ := map_find (s := ⟨t, b, r, m⟩) ke rel hm a0
  obtain ⟨A, hA⟩ : ∃ A, A = g.at_ (.m mi) := ⟨_, rfl⟩
  rw [← hA] at q1
  have fin : ∀ (arr' : Array MapEntry) (clock' : Nat), (Instr.mapUpdate tm (.map (some A)) (val a0) uv).run P w = .ok () { w with heap := w.heap.setIfInBounds A (.map arr' clock') } →
      MapFit arr' clock' (setL same l0 a0 v0).length → (∀ (i : Nat) (x : α × β) (e : MapEntry), (setL same l0 a0 v0)[i]? = some x → arr'[i]? = some e → RV g (⟨t, b, r, m⟩ : St).sh w (DV.one (enc x.1)).v e.key ∧ RV g (⟨t, b, r, m⟩ : St).sh w (fD x.2).v e.val) →
      Oper.wp P (⟨none, .mapUpdate tm x y u, ty, pos, after, none⟩ : Oper) a w next Q := fun arr' clock' hr' hfit hx' => by
    have hrun : (execOp a.eval (⟨none, .mapUpdate tm x y u, ty, pos, after, none⟩ : Oper)).run P w = .ok .skip { w with heap := w.heap.setIfInBounds A (.map arr' clock') } := by
      simp only [execOp, Sem.run_bind, hxx, hyy, huu, ← hA, hr', Result.andThen_ok, Sem.run_pure]
    unfold Oper.wp
    rw [hrun]
    refine hn _ g _ _ k ?_
    have := rel.setMap (es' := mapOf enc fD (setL same l0 a0 v0)) hm (mapOf_fit hfit) (fun i x e hx'' he => by
      obtain ⟨y', h3, rfl⟩ := mapOf_get hx''
      exact hx' i y' e h3 he)
    rw [← hA] at this
    exact this
  have keyrv : ∀ c : α, RV g (⟨t, b, r, m⟩ : St).sh w (DV.one (enc c)).v (val c) := fun c => .one _ _ (.d _ _ (valD_rd (ke.v c)))
  rcases q4 with ⟨p1, p2, p3, _, _⟩ | ⟨p1, p, x', e, p2, p3, p4, p5, p6, _, _⟩
  · refine fin (arr.push { key := val a0, val := uv, born := clock }) (clock + 1) ?_ ?_ ?_
    · simp only [Instr.mapUpdate, Sem.run_bind, run_underlying h1, Result.andThen_ok, MapKept.run_getObj_map q1, ke.chk P w _ kt a0 h2, run_findKey_now h2 p2]
      simp [MapKept.run_setObj_map _ q1]
    · rw [p3 v0]
      refine ⟨by simp [q2.len], fun i e h => ?_, fun i j e f h h' hb => ?_⟩
      · rw [Array.getElem?_push] at h
        split at h
        · simp only [Option.some.injEq] at h; rw [← h]; exact Nat.lt_succ_self _
        · exact Nat.lt_succ_of_lt (q2.born i e h)
      · rw [Array.getElem?_push] at h h'
        split at h <;> split at h'
        · omega
        · simp only [Option.some.injEq] at h
          have := q2.born j f h'
          rw [← h] at hb; simp only at hb; omega
        · simp only [Option.some.injEq] at h'
          have := q2.born i e h
          rw [← h'] at hb; simp only at hb; omega
        · exact q2.dist i j e f h h' hb
    · intro i x e hx' he
      rw [p3 v0] at hx'
      rw [Array.getElem?_push] at he
      by_cases hi : i < l0.length
      · rw [List.getElem?_append_left hi] at hx'
        rw [if_neg (by rw [q2.len]; omega)] at he
        obtain ⟨c1, c2⟩ := q3 i x e hx' he
        exact ⟨by rw [c1]; exact keyrv _, c2⟩
      · have hil : i = l0.length := by have := (List.getElem?_eq_some_iff.1 hx').1; simp at this; omega
        subst hil
        simp at hx'
        rw [if_pos q2.len.symm] at he
        simp only [Option.some.injEq] at he
        rw [← hx', ← he]
        exact ⟨keyrv _, hr⟩
  · have hpl : p < arr.size := (Array.getElem?_eq_some_iff.1 p3).1
    have hkey : e.key = val x'.1 := (q3 p x' e p2 p3).1
    refine fin (arr.modify p fun e => { e with key := val a0, val := uv }) clock ?_ ?_ ?_
    · have hst : (Instr.keyThatStays (((arr[p]?).map (·.key)).getD (val a0)) (val a0)).run P w = .ok (val a0) w := by
        rw [p3]
        simp only [Option.map_some, Option.getD_some, hkey]
        unfold Instr.keyThatStays
        rw [if_pos (ke.bits a0 x'.1 p5), Sem.run_pure]
      simp only [Instr.mapUpdate, Sem.run_bind, run_underlying h1, Result.andThen_ok, MapKept.run_getObj_map q1, ke.chk P w _ kt a0 h2, run_findKey_now h2 p4, hst]
      simp [MapKept.run_setObj_map _ q1]
    · rw [p6 v0]
      have hb : ∀ (i : Nat) (f : MapEntry), (arr.modify p fun e => { e with key := val a0, val := uv })[i]? = some f → ∃ f', arr[i]? = some f' ∧ f'.born = f.born := fun i f h => by
        rw [Array.getElem?_modify] at h
        split at h
        · obtain ⟨f', h1, h2⟩ := Option.map_eq_some_iff.1 h
          exact ⟨f', h1, by rw [← h2]⟩
        · exact ⟨f, h, rfl⟩
      refine ⟨by simp [q2.len], fun i f h => ?_, fun i j f f2 h h' hbb => ?_⟩
      · obtain ⟨f', h3, h4⟩ := hb i f h; rw [← h4]; exact q2.born i f' h3
      · obtain ⟨f', h3, h4⟩ := hb i f h
        obtain ⟨f2', h5, h6⟩ := hb j f2 h'
        exact q2.dist i j f' f2' h3 h5 (by rw [h4, h6]; exact hbb)
    · intro i x e' hx' he
      rw [p6 v0, List.getElem?_set] at hx'
      rw [Array.getElem?_modify] at he
      by_cases hi : p = i
      · subst hi
        rw [if_pos rfl] at hx' he
        split at hx'
        · simp only [Option.some.injEq] at hx'
          rw [p3] at he
          simp only [Option.map_some, Option.some.injEq] at he
          rw [← hx', ← he]
          exact ⟨keyrv _, hr⟩
        · cases hx'
      · rw [if_neg hi] at hx' he
        obtain ⟨c1, c2⟩ := q3 i x e' hx' he
        exact ⟨by rw [c1]; exact keyrv _, c2⟩
theorem S.mapDelete (hT : TabOk P T) (ke : KeyOk kind enc val same) {tm kt et tk : TypeId} {ti ki : TI} {x y : Operand} {mi : Nat} {a0 : α} {fD : β → DV} (l0 : List (α × β)) (hti : T tm = some ti) (hd : ti.desc = .map kt et) (hki : T kt = some ki) (hkd : ki.desc = kind)
    (hx : opd n ⟨t, b, r, m⟩ x = (true, .one (.map mi))) (hy : opd n ⟨t, b, r, m⟩ y = (true, .one (.d (enc a0)))) (hm : m[mi]? = some (mapOf enc fD l0))
    {m' : List (List (DV × DV))} (hm' : m.set mi (mapOf enc fD (delL same l0 a0)) = m') (k : WL E P n ops l K ⟨t, b, r, m'⟩) : WL E P n ops (⟨none, .call ⟨.builtin .delete, #[x, y], #[tm, tk]⟩, ty, pos, after, none⟩ :: l) K ⟨t, b, r, m⟩ := by
  subst hm'
  intro g a w rel next Q hn
  have hw : Region.wanted (⟨none, .call ⟨.builtin .delete, #[x, y], #[tm, tk]⟩, ty, pos, after, none⟩ : Oper) (yielded ops a.tmps) = true := by simp [Region.wanted]
  rw [if_pos hw]
  have hp := opd_ok rel hx rfl
  have hq := opd_ok rel hy rfl
  generalize hxx : a.eval x = xv at hp
  generalize hyy : a.eval y = yv at hq
  cases hp with | one _ _ hp => cases hp with | map _ hmi =>
  have hyv : yv = val a0 := ke.eq (a := a0) hq
  subst hyv
  have h1 := (hT tm ti hti).1
  have h2 := (hT kt ki hki).1
  rw [hd] at h1; rw [hkd] at h2
  obtain ⟨arr, clock, q1, q2, q3, q4⟩ := map_find (s := ⟨t, b, r, m⟩) ke rel hm a0
  obtain ⟨A, hA⟩ : ∃ A, A = g.at_ (.m mi) := ⟨_, rfl⟩
  rw [← hA] at q1
  have keyrv : ∀ c : α, RV g (⟨t, b, r, m⟩ : St).sh w (DV.one (enc c)).v (val c) := fun c => .one _ _ (.d _ _ (valD_rd (ke.v c)))
  have fin : ∀ (arr' : Array MapEntry), (Builtin.delete_ #[tm, tk] ty #[.map (some A), val a0]).run P w = .ok (.tuple #[]) { w with heap := w.heap.setIfInBounds A (.map arr' clock) } →
      MapFit arr' clock (delL same l0 a0).length → (∀ (i : Nat) (x : α × β) (e : MapEntry), (delL same l0 a0)[i]? = some x → arr'[i]? = some e → e.key = val x.1 ∧ RV g (⟨t, b, r, m⟩ : St).sh w (fD x.2).v e.val) →
      Oper.wp P (⟨none, .call ⟨.builtin .delete, #[x, y], #[tm, tk]⟩, ty, pos, after, none⟩ : Oper) a w next Q := fun arr' hr' hfit hx' => by
    have hrun : (execOp a.eval (⟨none, .call ⟨.builtin .delete, #[x, y], #[tm, tk]⟩, ty, pos, after, none⟩ : Oper)).run P w = .ok (.value (.tuple #[])) { w with heap := w.heap.setIfInBounds A (.map arr' clock) } := by
      simp only [execOp, resolve, invoke, builtin, Sem.run_bind, Sem.run_pure, Result.andThen_ok, List.map_toArray, List.map_cons, List.map_nil, hxx, hyy, ← hA, hr']
    unfold Oper.wp
    rw [hrun]
    have := rel.setMap (es' := mapOf enc fD (delL same l0 a0)) hm (mapOf_fit hfit) (fun i x e hx'' he => by
      obtain ⟨y', h3, rfl⟩ := mapOf_get hx''
      obtain ⟨c1, c2⟩ := hx' i y' e h3 he
      exact ⟨by rw [c1]; exact keyrv _, c2⟩)
    rw [← hA] at this
    exact hn _ g _ _ k (this.put_same none (u := .junk) (.junk _))
  rcases q4 with ⟨p1, p2, _, p4, _⟩ | ⟨p1, p, x', e, p2, p3, p4, p5, _, p7, _⟩
  · rw [p4] at fin
    refine fin arr ?_ q2 q3
    simp [Builtin.delete_, MapKept.run_setObj_map _ q1, run_underlying h1, MapKept.run_getObj_map q1, ke.chk P w _ kt a0 h2, run_findKey_now h2 p2]
  · rw [p7] at fin
    have hpl : p < arr.size := (Array.getElem?_eq_some_iff.1 p3).1
    have hpl0 : p < l0.length := (List.getElem?_eq_some_iff.1 p2).1
    have hget : ∀ i, (arr.eraseIdxIfInBounds p)[i]? = if i < p then arr[i]? else arr[i + 1]? := fun i => by
      unfold Array.eraseIdxIfInBounds
      rw [dif_pos hpl, Array.getElem?_eraseIdx]
    refine fin (arr.eraseIdxIfInBounds p) ?_ ⟨?_, fun i f h => ?_, fun i j f f2 h h' hbb => ?_⟩ (fun i x f hx' he => ?_)
    · simp [Builtin.delete_, MapKept.run_setObj_map _ q1, run_underlying h1, MapKept.run_getObj_map q1, ke.chk P w _ kt a0 h2, run_findKey_now h2 p4]
    · unfold Array.eraseIdxIfInBounds
      rw [dif_pos hpl, Array.size_eraseIdx, List.length_eraseIdx, if_pos hpl0, q2.len]
    · rw [hget] at h
      split at h
      · exact q2.born _ f h
      · exact q2.born _ f h
    · rw [hget] at h h'
      split at h <;> split at h' <;> (have := q2.dist _ _ f f2 h h' hbb; omega)
    · rw [List.getElem?_eraseIdx] at hx'
      rw [hget] at he
      split at he
      · rename_i hi; rw [if_pos hi] at hx'; exact q3 i x f hx' he
      · rename_i hi; rw [if_neg hi] at hx'; exact q3 (i + 1) x f hx' he
theorem S.mapLen (hT : TabOk P T) {tm kt et : TypeId} {ti : TI} {x : Operand} {mi : Nat} {es : List (DV × DV)} (hti : T tm = some ti) (hd : ti.desc = .map kt et) (hx : opd n ⟨t, b, r, m⟩ x = (true, .one (.map mi))) (hm : m[mi]? = some es)
    {q : Int} (hq : (es.length : Int) = q) (k : WL E P n ops l K ⟨upd t i (.one (.d (.int .i64 q))), b, r, m⟩) : WL E P n ops (⟨some i, .call ⟨.builtin .len, #[x], #[tm]⟩, ty, pos, after, none⟩ :: l) K ⟨t, b, r, m⟩ := by
  subst hq
  intro g a w rel next Q hn
  have hw : Region.wanted (⟨some i, .call ⟨.builtin .len, #[x], #[tm]⟩, ty, pos, after, none⟩ : Oper) (yielded ops a.tmps) = true := by simp [Region.wanted]
  rw [if_pos hw]
  have hp := opd_ok rel hx rfl
  generalize hxx : a.eval x = xv at hp
  cases hp with | one _ _ hp => cases hp with | map _ hmi =>
  have h1 := (hT tm ti hti).1
  rw [hd] at h1
  obtain ⟨arr, clock, q1, ⟨q2, _⟩, q3⟩ := rel.heap.map mi es hm
  have hrun : (execOp a.eval (⟨some i, .call ⟨.builtin .len, #[x], #[tm]⟩, ty, pos, after, none⟩ : Oper)).run P w = .ok (.value (.int .i64 (es.length : Int))) w := by
    have hl : (Builtin.len_ #[tm] ty #[.map (some (g.at_ (.m mi)))]).run P w = .ok (.int .i64 (es.length : Int)) w := by
      simp [Builtin.len_, run_underlying h1, MapKept.run_getObj_map q1, q2.len, goInt]
    simp only [execOp, resolve, invoke, builtin, Sem.run_bind, Sem.run_pure, Result.andThen_ok, List.map_toArray, List.map_cons, List.map_nil, hxx, hl]
  unfold Oper.wp
  rw [hrun]
  exact hn _ g _ _ k (rel.put_same (some i) (.one _ _ (.d _ _ (.int _ _))))
end
end Go.Proofs.YtcchfmilleffjaaGreatDoor
namespace Go.Proofs.YtcchfmilleffjaaGreatDoor
open Go Go.RowKit
section
variable {J : Inv} {k0 : Lens} {E : Env J k0} {P : Program} {T : TypeId → Option TI} {n : Nat} {t : Nat → V} {b : List (List C)} {r : List (Option RowO)} {m : List (List (DV × DV))} {ops : Array Oper} {l : List Oper}
  {K : St → Prop} {i : Nat} {ty : TypeId} {pos : String} {after : Array Edge} {md : Region.Mode}
theorem pv_rload (hT : TabOk P T) {s : St} {o : Oper} {te : TypeId} {ti : TI} {x : Operand} {ri ver kk fo : Nat} {q : RowO} {xd : List D} {v : V} (hop : o.op = .load te x) (hti : T te = some ti) (hx : opd n s x = (true, .one (.rptr ri ver kk fo))) (hq : rowAt s ri ver = some q)
    (hk : q.xs.getD kk [] = xd) (hp : partC ti (xd.map .d) fo = some v) : Pv E P n o v s := by
  intro g a w rel
  have h := opd_ok rel hx rfl
  obtain ⟨z, h1, h2⟩ := evLoad_ok (P := P) (t := te) (u := .one (.rptr ri ver kk fo)) (r := v) hT rel.heap (by unfold evLoad; simp only [hti, hq, hk]; exact hp) h
  refine ⟨z, ?_, h2⟩
  simp only [execOp, hop, Sem.run_bind, h1, Result.andThen_ok, Sem.run_pure]
theorem S.rload (hT : TabOk P T) {te : TypeId} {ti : TI} {x : Operand} {ri ver kk fo : Nat} {q : RowO} {xd : List D} {v0 v : V} (hti : T te = some ti) (hx : opd n ⟨t, b, r, m⟩ x = (true, .one (.rptr ri ver kk fo))) (hq : rowAt ⟨t, b, r, m⟩ ri ver = some q)
    (hk : q.xs.getD kk [] = xd) (hp : partC ti (xd.map .d) fo = some v0) (hf : forceV v0 = some v) (k : WL E P n ops l K ⟨upd t i v, b, r, m⟩) : WL E P n ops (⟨some i, .load te x, ty, pos, after, none⟩ :: l) K ⟨t, b, r, m⟩ := by
  obtain rfl := forceV_eq hf
  intro g a w rel next Q hn
  have hw : Region.wanted (⟨some i, .load te x, ty, pos, after, none⟩ : Oper) (yielded ops a.tmps) = true := by simp [Region.wanted]
  rw [if_pos hw]
  obtain ⟨z, h1, h2⟩ := pv_rload (o := ⟨some i, .load te x, ty, pos, after, none⟩) hT rfl hti hx hq hk hp g a w rel
  unfold Oper.wp
  rw [h1]
  exact hn _ g _ _ k (rel.put_same (some i) h2)
theorem D.rload (hT : TabOk P T) {te : TypeId} {ti : TI} {x : Operand} {ri ver kk fo : Nat} {q : RowO} {xd : List D} {v0 v : V} (hti : T te = some ti) (hx : opd n ⟨t, b, r, m⟩ x = (true, .one (.rptr ri ver kk fo))) (hq : rowAt ⟨t, b, r, m⟩ ri ver = some q)
    (hk : q.xs.getD kk [] = xd) (hp : partC ti (xd.map .d) fo = some v0) (hf : forceV v0 = some v) (k : WD E P n ops l K ⟨upd t i v, b, r, m⟩) : WD E P n ops (⟨some i, .load te x, ty, pos, after, none⟩ :: l) K ⟨t, b, r, m⟩ := by
  obtain rfl := forceV_eq hf
  obtain ⟨o, ho⟩ : ∃ o : Oper, o = ⟨some i, .load te x, ty, pos, after, none⟩ := ⟨_, rfl⟩
  rw [← ho]
  have hop : o.op = .load te x := by rw [ho]
  have hm : x ∈ o.op.operands.toList := by rw [hop]; simp [Op.operands]
  refine ⟨v0, b, .of (.inr (by rw [hop]; rfl)) (fun t' b1 ht hb => .of_run (by rw [ho]) (.of_pv (pv_rload (ri := ri) (ver := ver) hT hop hti ?_ ?_ hk hp))), by rw [ho]; exact k⟩
  · rw [looks_opd (b := b) hm ht]; exact hx
  · exact hq
def endL : Nat → Nat → Array Bool → Array Bool
  | 0, _, listed => listed
  | f + 1, k, listed => endL f (k + 1) (listed.setIfInBounds k true)
def tailD (md : Region.Mode) (ops : Array Oper) (L1 : Array Bool) (k : Nat) : Bool := (List.range ops.size).all fun j => L1.getD j true || depB md ops ops.size j k
def seqC (md : Region.Mode) (ops : Array Oper) : Nat → Nat → Array Bool → Bool
  | 0, _, listed => (Region.ready md ops listed).isEmpty
  | f + 1, k, listed => (match Region.ready md ops listed with | [j] => Nat.beq j k | _ => false) && seqC md ops f (k + 1) (listed.setIfInBounds k true)
theorem wpAny_of_seq {K : St → Prop} {Q : Exit → Act → World → Prop} (hQ : ∀ s g a w, K s → Rel E n g s a w → Q .normal a w) :
    ∀ (l : List Oper) (k : Nat) (listed : Array Bool) (s : St) (g : Gh) (a : Act) (w : World), (∀ j, l[j]? = ops[k + j]?) → seqC md ops l.length k listed = true → Rel E n g s a w → WL E P n ops l K s → wpAny P md ops Q l.length listed a w
  | [], k, listed, s, g, a, w, hl, hB, rel, h => ⟨by simpa [seqC] using hB, hQ _ _ _ _ h rel⟩
  | o :: l, k, listed, s, g, a, w, hl, hB, rel, h => by
    have h0 : ops[k]? = some o := by simpa using (hl 0).symm
    simp only [List.length_cons, seqC, Bool.and_eq_true] at hB
    obtain ⟨hr, hB'⟩ := hB
    split at hr
    · rename_i j hj
      have hjk : j = k := Nat.eq_of_beq_eq_true hr
      subst hjk
      refine ⟨fun h0 => (by rw [hj] at h0; cases h0), fun i hi => ?_⟩
      rw [hj, List.mem_singleton] at hi
      subst hi
      unfold wpOp
      rw [h0]
      have h3 := h g a w rel (wpAny P md ops Q l.length (listed.setIfInBounds i true)) Q (fun s' g' a' w' hk rel' =>
        wpAny_of_seq hQ l (i + 1) _ s' g' a' w' (fun j => by have := hl (j + 1); simpa [Nat.add_assoc, Nat.add_comm 1 j] using this) hB' rel' hk)
      simp only
      split
      · rename_i hw; rw [if_pos hw] at h3; exact .inl h3
      · rename_i hw; rw [if_neg hw] at h3; exact h3
    · cases hr
def cutF : Nat → List Oper → Option (List Oper × List Oper)
  | 0, l => some ([], l)
  | _ + 1, [] => none
  | k + 1, x :: l => match cutF k l with | some (p, q) => some (x :: p, q) | none => none
theorem cutF_eq : ∀ {k : Nat} {l p q : List Oper}, cutF k l = some (p, q) → l = p ++ q
  | 0, l, p, q, h => by simp only [cutF, Option.some.injEq, Prod.mk.injEq] at h; obtain ⟨rfl, rfl⟩ := h; rfl
  | k + 1, [], p, q, h => by cases h
  | k + 1, x :: l, p, q, h => by
    unfold cutF at h
    split at h
    · rename_i p' q' hc
      simp only [Option.some.injEq, Prod.mk.injEq] at h
      obtain ⟨rfl, rfl⟩ := h
      rw [cutF_eq hc]; rfl
    · cases h
end
end Go.Proofs.YtcchfmilleffjaaGreatDoor
namespace Go.Proofs.YtcchfmilleffjaaGreatDoor
open Go Go.RowKit
end Go.Proofs.YtcchfmilleffjaaGreatDoor
namespace Go.Proofs.YtcchfmilleffjaaGreatDoor
open Go Go.RowKit
section
variable {J : Inv} {k0 : Lens} {E : Env J k0} {P : Program} {T : TypeId → Option TI} {n : Nat} {t : Nat → V} {b : List (List C)} {r : List (Option RowO)} {m : List (List (DV × DV))} {ops : Array Oper} {md : Region.Mode}
def HTr {J : Inv} {k0 : Lens} (E : Env J k0) (P : Program) (n : Nat) (ops : Array Oper) (o : Oper) (s : St) (Post : HPost) : Prop :=
  ∀ t', (∀ i ∈ o.looksAt ops, t' i = s.t i) → Step E P n ops o (fun s1 => ∃ v b r m, s1 = ⟨updO t' o.dst v, b, r, m⟩ ∧ Post v b r m) ⟨t', s.b, s.r, s.m⟩
def qS {J : Inv} {k0 : Lens} (E : Env J k0) (P : Program) (n : Nat) (ops : Array Oper) (i : Nat) (K : St → Prop) (s : St) : Prop :=
  match ops[i]? with
  | none => K s
  | some o => ∃ Post, HTr E P n ops o s Post ∧ ∀ v b r m, Post v b r m → K ⟨updO s.t o.dst v, b, r, m⟩
def AnyS {J : Inv} {k0 : Lens} (E : Env J k0) (P : Program) (n : Nat) (md : Region.Mode) (ops : Array Oper) (L1 : Array Bool) (K : St → Prop) : Nat → Array Bool → St → Prop
  | 0, listed, s => listed = L1 ∧ K s
  | fuel + 1, listed, s => Region.ready md ops listed ≠ [] ∧ ∀ i ∈ Region.ready md ops listed, qS E P n ops i (AnyS E P n md ops L1 K fuel (listed.setIfInBounds i true)) s
theorem wpAny_of_AnyS {f2 : Nat} {L1 : Array Bool} {K : St → Prop} {Q : Exit → Act → World → Prop} (hQ : ∀ s g a w, K s → Rel E n g s a w → wpAny P md ops Q f2 L1 a w) :
    ∀ (fuel : Nat) (listed : Array Bool) (s : St) (g : Gh) (a : Act) (w : World), Rel E n g s a w → AnyS E P n md ops L1 K fuel listed s → wpAny P md ops Q (f2 + fuel) listed a w
  | 0, listed, s, g, a, w, rel, h => by obtain ⟨rfl, h⟩ := h; exact hQ _ _ _ _ h rel
  | fuel + 1, listed, s, g, a, w, rel, h => by
    refine ⟨fun h0 => absurd h0 h.1, fun i hi => ?_⟩
    have hq := h.2 i hi
    unfold qS at hq
    unfold wpOp
    split
    · rename_i ho; simp only [ho] at hq; exact wpAny_of_AnyS hQ fuel _ s g a w rel hq
    · rename_i o ho
      simp only [ho] at hq
      obtain ⟨Post, h1, h2⟩ := hq
      have h3 := h1 s.t (fun _ _ => rfl) g a w rel (wpAny P md ops Q (f2 + fuel) (listed.setIfInBounds i true)) Q (fun s' g' a' w' ⟨v, b, r, m, he, hp⟩ rel' => wpAny_of_AnyS hQ fuel _ s' g' a' w' rel' (he ▸ h2 v b r m hp))
      split
      · rename_i hw; rw [if_pos hw] at h3; exact .inl h3
      · rename_i hw; rw [if_neg hw] at h3; exact h3
def Eag {J : Inv} {k0 : Lens} (E : Env J k0) (P : Program) (n : Nat) (ops : Array Oper) (o : Oper) (t : Nat → V) (v : V) : Prop :=
  ∀ t' b r m, (∀ i ∈ o.looksAt ops, t' i = t i) → ∀ g a w, Rel E n g ⟨t', b, r, m⟩ a w →
    if Region.wanted o (yielded ops a.tmps) then ∃ z, (execOp a.eval o).run P w = .ok (.value z) w ∧ RV g (⟨t', b, r, m⟩ : St).sh w v z else RV g (⟨t', b, r, m⟩ : St).sh w v undef
theorem Eag.agree {o : Oper} {t t2 : Nat → V} {v : V} (h : Eag E P n ops o t v) (ht : ∀ i ∈ o.looksAt ops, t2 i = t i) : Eag E P n ops o t2 v := fun t' b r m h' => h t' b r m (fun i hi => (h' i hi).trans (ht i hi))
theorem updO_put {s : St} {d : Option Nat} {v : V} : (⟨updO s.t d v, s.b, s.r, s.m⟩ : St) = s.set d v := by cases d <;> rfl
theorem Eag.htr {o : Oper} {s : St} {v : V} (h : Eag E P n ops o s.t v) : HTr E P n ops o s (fun v' b r m => v' = v ∧ b = s.b ∧ r = s.r ∧ m = s.m) := by
  intro t' ht g a w rel next Q hn
  have hz := h t' s.b s.r s.m ht g a w rel
  by_cases hw : Region.wanted o (yielded ops a.tmps) = true
  · rw [if_pos hw] at hz ⊢
    obtain ⟨z, h1, h2⟩ := hz
    unfold Oper.wp
    rw [h1]
    exact hn _ g _ _ ⟨v, s.b, s.r, s.m, rfl, rfl, rfl, rfl, rfl⟩ (by have := rel.put_same o.dst h2; rw [← updO_put] at this; exact this)
  · rw [if_neg hw] at hz ⊢
    exact hn _ g _ _ ⟨v, s.b, s.r, s.m, rfl, rfl, rfl, rfl, rfl⟩ (by have := rel.put_same o.dst hz; rw [← updO_put] at this; exact this)
theorem anyS_first {K : St → Prop} {L1 : Array Bool} {i : Nat} {oi : Oper} {v : V} (hi : ops[i]? = some oi) (hdep : ∀ j oj, ops[j]? = some oj → L1.getD j true = false → DepOn md ops j i) :
    ∀ (fuel : Nat) (listed : Array Bool) (s : St), Closed md ops listed → (∀ j oj, ops[j]? = some oj → j ≠ i → listed.getD j true = false → DepOn md ops j i ∨ oi.apart ops oj = true) →
      i ∈ Region.ready md ops listed → Eag E P n ops oi s.t v → AnyS E P n md ops L1 K fuel (listed.setIfInBounds i true) ⟨updO s.t oi.dst v, s.b, s.r, s.m⟩ → AnyS E P n md ops L1 K (fuel + 1) listed s := by
  intro fuel
  induction fuel with
  | zero =>
    intro listed s hcl hfree hr he H
    refine ⟨fun h => (by rw [h] at hr; cases hr), fun j hj => ?_⟩
    by_cases hji : j = i
    · subst hji; unfold qS; simp only [hi]; exact ⟨_, he.htr, fun v' b r m ⟨e1, e2, e3, e4⟩ => by subst e1; subst e2; subst e3; subst e4; exact H⟩
    · exfalso
      obtain ⟨hjun, oj, hoj, hall⟩ := mem_ready.1 hj
      have hiun := (mem_ready.1 hr).1
      have h1 : L1.getD j true = false := by rw [← H.1, getD_set_ne true (Ne.symm hji)]; exact hjun
      have h2 := dep_ready hcl (hdep j oj hoj h1) hj
      rcases Nat.lt_or_ge i listed.size with h' | h'
      · simp [h'] at hiun h2; rw [hiun] at h2; cases h2
      · simp [Array.getD_eq_getD_getElem?, Array.getElem?_eq_none h'] at h2
  | succ fuel ih =>
    intro listed s hcl hfree hr he H
    refine ⟨fun h => (by rw [h] at hr; cases hr), fun j hj => ?_⟩
    by_cases hji : j = i
    · subst hji; unfold qS; simp only [hi]; exact ⟨_, he.htr, fun v' b r m ⟨e1, e2, e3, e4⟩ => by subst e1; subst e2; subst e3; subst e4; exact H⟩
    · have h1 := H.2 j (ready_mono hj hji)
      obtain ⟨hjun, oj, hoj, hall⟩ := mem_ready.1 hj
      have hiun := (mem_ready.1 hr).1
      have hnd : ¬ DepOn md ops j i := fun hd => by
        have h2 := dep_ready hcl hd hj
        rcases Nat.lt_or_ge i listed.size with h' | h'
        · simp [h'] at hiun h2; rw [hiun] at h2; cases h2
        · simp [Array.getD_eq_getD_getElem?, Array.getElem?_eq_none h'] at h2
      have hap := (hfree j oj hoj hji hjun).resolve_left hnd
      obtain ⟨a1, a2, a3⟩ := Oper.apart_spec hap
      unfold qS at h1 ⊢
      simp only [hoj] at h1 ⊢
      obtain ⟨Post, hq, hK⟩ := h1
      have ag : ∀ k ∈ oj.looksAt ops, updO s.t oi.dst v k = s.t k := fun k hk => updO_ne fun d hd he => a1 d hd (he ▸ hk)
      refine ⟨Post, fun t' ht => hq t' (fun k hk => (ht k hk).trans (ag k hk).symm), fun v' b r m hp => ?_⟩
      refine ih (listed.setIfInBounds j true) ⟨updO s.t oj.dst v', b, r, m⟩ (closed_set hcl hj) (fun k ok hk hki hun => hfree k ok hk hki ?_) (ready_mono hr (Ne.symm hji)) (he.agree fun k hk => updO_ne fun d hd he => a3 d hd (he ▸ hk)) ?_
      · by_cases hjk : j = k
        · subst hjk; exact hjun
        · rwa [getD_set_ne true hjk] at hun
      · have := hK v' b r m hp
        rw [Array.setIfInBounds_comm _ _ hji]
        simp only
        rw [← updO_comm _ _ _ a2]
        exact this
def AnyZ {J : Inv} {k0 : Lens} (E : Env J k0) (P : Program) (n : Nat) (ops : Array Oper) (L1 : Array Bool) (K : St → Prop) (fuel : Nat) (listed : Array Bool) (s : St) : Prop := Closed .any ops listed → AnyS E P n .any ops L1 K fuel listed s
def freeS (ops : Array Oper) (L1 listed : Array Bool) (i : Nat) : Bool :=
  (Region.ready .any ops listed).contains i && (tailD .any ops L1 i && match ops[i]? with
  | some oi => (List.range ops.size).all fun j => match ops[j]? with
    | some oj => Nat.beq j i || listed.getD j true || depB .any ops ops.size j i || oi.apart ops oj
    | none => true
  | none => false)
theorem AnyZ.nil {L1 : Array Bool} {K : St → Prop} {listed : Array Bool} {s : St} (hl : listed = L1) (h : K s) : AnyZ E P n ops L1 K 0 listed s := fun _ => ⟨hl, h⟩
theorem AnyZ.eager {L1 : Array Bool} {K : St → Prop} {fuel : Nat} {listed : Array Bool} {s : St} (i : Nat) {oi : Oper} {v : V} (hi : ops[i]? = some oi) (hB : freeS ops L1 listed i = true) (he : Eag E P n ops oi s.t v)
    (h : AnyZ E P n ops L1 K fuel (listed.setIfInBounds i true) ⟨updO s.t oi.dst v, s.b, s.r, s.m⟩) : AnyZ E P n ops L1 K (fuel + 1) listed s := by
  intro hc
  unfold freeS at hB
  simp only [Bool.and_eq_true, hi] at hB
  obtain ⟨hr, ht, hf⟩ := hB
  have hr' : i ∈ Region.ready .any ops listed := by simpa using hr
  refine anyS_first hi (fun j oj hj hun => ?_) fuel listed s hc (fun j oj hj hji hun => ?_) hr' he (h (closed_set hc hr'))
  · unfold tailD at ht
    have := (List.all_eq_true.1 ht) j (List.mem_range.2 (Array.getElem?_eq_some_iff.1 hj).1)
    rw [hun, Bool.false_or] at this
    exact depB_dep _ _ _ this
  · have := (List.all_eq_true.1 hf) j (List.mem_range.2 (Array.getElem?_eq_some_iff.1 hj).1)
    simp only [hj, hun, Bool.or_false, Bool.or_eq_true] at this
    rcases this with (h1 | h1) | h1
    · exact absurd (Nat.eq_of_beq_eq_true h1) hji
    · exact .inl (depB_dep _ _ _ h1)
    · exact .inr h1
theorem qS_of {L1 : Array Bool} {K : St → Prop} {fuel : Nat} {listed : Array Bool} {s : St} {i : Nat} {o : Oper} (hc : Closed .any ops listed) (hr : i ∈ Region.ready .any ops listed) (ho : ops[i]? = some o) {Post : HPost} (h1 : HTr E P n ops o s Post)
    (h2 : ∀ v b r m, Post v b r m → AnyZ E P n ops L1 K fuel (listed.setIfInBounds i true) ⟨updO s.t o.dst v, b, r, m⟩) : qS E P n ops i (AnyS E P n .any ops L1 K fuel (listed.setIfInBounds i true)) s := by
  unfold qS
  rw [ho]
  exact ⟨Post, h1, fun v b r m hp => h2 v b r m hp (closed_set hc hr)⟩
def OpZ {J : Inv} {k0 : Lens} (E : Env J k0) (P : Program) (n : Nat) (ops : Array Oper) (o : Oper) (K : St → Prop) (s : St) : Prop := ∃ Post, HTr E P n ops o s Post ∧ ∀ v b r m, Post v b r m → K ⟨updO s.t o.dst v, b, r, m⟩
theorem AnyZ.one {L1 : Array Bool} {K : St → Prop} {fuel : Nat} {listed : Array Bool} {s : St} (i : Nat) {o : Oper} (hr : Region.ready .any ops listed = [i]) (ho : ops[i]? = some o)
    (h : OpZ E P n ops o (AnyZ E P n ops L1 K fuel (listed.setIfInBounds i true)) s) : AnyZ E P n ops L1 K (fuel + 1) listed s := by
  intro hc
  refine ⟨by rw [hr]; simp, fun j hj => ?_⟩
  have hj' := hj
  rw [hr, List.mem_singleton] at hj
  subst hj
  obtain ⟨Post, h1, h2⟩ := h
  exact qS_of hc hj' ho h1 h2
theorem AnyZ.two {L1 : Array Bool} {K : St → Prop} {fuel : Nat} {listed : Array Bool} {s : St} (i j : Nat) {o q : Oper} (hr : Region.ready .any ops listed = [i, j]) (ho : ops[i]? = some o) (hq : ops[j]? = some q)
    (h : OpZ E P n ops o (AnyZ E P n ops L1 K fuel (listed.setIfInBounds i true)) s) (h' : OpZ E P n ops q (AnyZ E P n ops L1 K fuel (listed.setIfInBounds j true)) s) : AnyZ E P n ops L1 K (fuel + 1) listed s := by
  intro hc
  refine ⟨by rw [hr]; simp, fun x hx => ?_⟩
  have hx' := hx
  rw [hr, List.mem_cons, List.mem_singleton] at hx
  rcases hx with rfl | rfl
  · obtain ⟨Post, h1, h2⟩ := h; exact qS_of hc hx' ho h1 h2
  · obtain ⟨Post, h1, h2⟩ := h'; exact qS_of hc hx' hq h1 h2
theorem AnyZ.three {L1 : Array Bool} {K : St → Prop} {fuel : Nat} {listed : Array Bool} {s : St} (i j k : Nat) {o q p : Oper} (hr : Region.ready .any ops listed = [i, j, k]) (ho : ops[i]? = some o) (hq : ops[j]? = some q) (hp : ops[k]? = some p)
    (h : OpZ E P n ops o (AnyZ E P n ops L1 K fuel (listed.setIfInBounds i true)) s) (h' : OpZ E P n ops q (AnyZ E P n ops L1 K fuel (listed.setIfInBounds j true)) s) (h'' : OpZ E P n ops p (AnyZ E P n ops L1 K fuel (listed.setIfInBounds k true)) s) : AnyZ E P n ops L1 K (fuel + 1) listed s := by
  intro hc
  refine ⟨by rw [hr]; simp, fun x hx => ?_⟩
  have hx' := hx
  rw [hr, List.mem_cons, List.mem_cons, List.mem_singleton] at hx
  rcases hx with rfl | rfl | rfl
  · obtain ⟨Post, h1, h2⟩ := h; exact qS_of hc hx' ho h1 h2
  · obtain ⟨Post, h1, h2⟩ := h'; exact qS_of hc hx' hq h1 h2
  · obtain ⟨Post, h1, h2⟩ := h''; exact qS_of hc hx' hp h1 h2
theorem OpZ.d {o : Oper} {K : St → Prop} {s : St} (h : WD E P n ops [o] K s) : OpZ E P n ops o K s := by
  obtain ⟨v, b', h1, h2⟩ := h
  refine ⟨fun v1 b1 r1 m1 => v1 = v ∧ b1 = b' ∧ r1 = s.r ∧ m1 = s.m, fun t' ht g a w rel next Q hn => ?_, fun v1 b1 r1 m1 ⟨e1, e2, e3, e4⟩ => by subst e1; subst e2; subst e3; subst e4; exact h2⟩
  have h3 := (h1 t' ht).2.2 g a w rel next Q (fun z g' w' hl hv => hn _ g' _ _ ⟨v, b', s.r, s.m, rfl, rfl, rfl, rfl, rfl⟩ (Tr.rel (o := o) rel hl hv))
  exact h3
theorem OpZ.hcall {i : Nat} {fo : Operand} {args : Array Operand} {ats : Array TypeId} {ty : TypeId} {pos : String} {after : Array Edge} {K : St → Prop} {u : V} {f : FuncId} {caps : List C} {us ws : List V} {rv : V} {b' : List (List C)} {r' : List (Option RowO)} {m' : List (List (DV × DV))}
    (hu : opd n ⟨t, b, r, m⟩ fo = (true, u)) (hc : calleeV u = some (f, caps)) (ha : allOpdL n ⟨t, b, r, m⟩ args.toList = (true, us)) (hw : forceVs (appL us (caps.map V.one)) = some ws) (pc : HCall P J f ws b r m (isH rv b' r' m'))
    (k : K ⟨upd t i rv, b', r', m'⟩) : OpZ E P n ops ⟨some i, .call ⟨.value fo, args, ats⟩, ty, pos, after, none⟩ K ⟨t, b, r, m⟩ := by
  obtain rfl := forceVs_eq hw
  rw [appL_eq] at pc
  obtain ⟨o, ho⟩ : ∃ o : Oper, o = ⟨some i, .call ⟨.value fo, args, ats⟩, ty, pos, after, none⟩ := ⟨_, rfl⟩
  rw [← ho]
  have hop : o.op = .call ⟨.value fo, args, ats⟩ := by rw [ho]
  have hm : o.op.operands.toList = fo :: args.toList := by rw [hop]; simp [Op.operands, Call.operands]
  refine ⟨isH rv b' r' m', fun t' ht => ?_, fun v1 b1 r1 m1 ⟨e1, e2, e3, e4⟩ => by subst e1; subst e2; subst e3; subst e4; rw [ho]; exact k⟩
  refine Step.hcall (Q := isH rv b' r' m') pc hop (by rw [ho]) ?_ hc ?_ (fun rv1 b1 r1 m1 ⟨e1, e2, e3, e4⟩ => ⟨rv, b', r', m', ?_, rfl, rfl, rfl, rfl⟩)
  · rw [looks_opd (b := b) (by rw [hm]; simp) ht]; exact hu
  · rw [← ha]; exact allOpdL_congr _ (fun p hp => looks_opd (b := b) (by rw [hm]; exact List.mem_cons_of_mem _ hp) ht)
  · subst e1; subst e2; subst e3; subst e4; rw [ho]; rfl
theorem Eag.pure (hT : TabOk P T) (hZ : ZeroOk T) {i : Nat} {op : Op} {ty : TypeId} {pos : String} {after : Array Edge} {ok : Bool} {v0 v : V} (hcl : Nat.beq (cls op) 0 = true) (he : ∀ b r m, evP T n ⟨t, b, r, m⟩ op = some (ok, v0)) (hok : ok = true) (hf : forceV v0 = some v) :
    Eag E P n ops ⟨some i, op, ty, pos, after, none⟩ t v := by
  obtain rfl := forceV_eq hf
  subst hok
  intro t' b r m ht g a w rel
  rw [if_pos (by simp [Region.wanted])]
  refine evP_ok hT hZ rel ?_
  rw [← he b r m]
  exact evP_congr op rfl (.inr rfl) (fun x hx => looks_opd (o := ⟨some i, op, ty, pos, after, none⟩) (b := b) hx ht)
theorem W.regionS {id : Nat} {l l1 l2 : List Oper} {K : Ex → St → Prop} {s : St} (k : Nat) (hm : P.follows .mixedOrders = true) (hc : cutF k l = some (l1, l2))
    (hB : seqC .any l.toArray l2.length l1.length (endL l1.length 0 (Array.replicate l.toArray.size false)) = true)
    (h : AnyZ E P n l.toArray (endL l1.length 0 (Array.replicate l.toArray.size false)) (WL E P n l.toArray l2 (K .normal)) l1.length (Array.replicate l.toArray.size false) s) : W E P n (.region id l.toArray true) K s := by
  have hl := cutF_eq hc
  intro g a w rel
  refine wp_region_any hm ?_
  have rel' := rel.drew (w.drawn + 1)
  have hcl : Closed .any l.toArray (Array.replicate l.toArray.size false) := fun j o e ho hl _ _ => by
    simp [Array.getD_eq_getD_getElem?, Array.getElem?_replicate] at hl
    split at hl <;> simp_all
  have hsz : l.toArray.size = l2.length + l1.length := by rw [hl]; simp; omega
  have key := wpAny_of_AnyS (f2 := l2.length) (Q := fun e a' w' => ∃ x s' g', e = Ex.exit' x ∧ K x s' ∧ Rel E n g' s' a' w') (fun s g a w hk rel => ?_) l1.length _ s g a _ rel' (h hcl)
  · rw [← hsz] at key; exact key
  refine wpAny_of_seq (fun s g a w hk rel => ⟨.normal, s, g, rfl, hk, rel⟩) l2 l1.length _ s g a w (fun j => ?_) hB rel hk
  simp only [List.getElem?_toArray]
  rw [hl, List.getElem?_append_right (by omega)]
  congr 1
  omega
end
end Go.Proofs.YtcchfmilleffjaaGreatDoor
namespace Go.Proofs.YtcchfmilleffjaaGreatDoor
open Go
theorem first_of {c : UInt8} {s : List UInt8} (h : c ∈ s) : ∃ x y, s = x ++ c :: y ∧ c ∉ x := by
  induction s with
  | nil => cases h
  | cons a s ih =>
    by_cases ha : a = c
    · subst ha; exact ⟨[], s, rfl, by simp⟩
    · have h' : c ∈ s := by rcases List.mem_cons.1 h with h | h; exact absurd h.symm ha; exact h
      obtain ⟨x, y, rfl, hx⟩ := ih h'
      exact ⟨a :: x, y, rfl, by simp [hx, Ne.symm ha]⟩
theorem firstNe_zero : ∀ {l : List Int}, firstNe l = 0 → ∀ x ∈ l, x = 0
  | [], _, x, hx => by cases hx
  | a :: l, h, x, hx => by
    by_cases ha : a = 0
    · subst ha
      have h' : firstNe l = 0 := by simpa [firstNe] using h
      rcases List.mem_cons.1 hx with rfl | hx
      · rfl
      · exact firstNe_zero h' x hx
    · unfold firstNe at h
      rw [List.find?_cons, show (a != 0) = true by simpa using ha] at h
      exact absurd h ha
end Go.Proofs.YtcchfmilleffjaaGreatDoor
namespace Go.Proofs.YtcchfmilleffjaaGreatDoor
open Go
end Go.Proofs.YtcchfmilleffjaaGreatDoor
namespace Go.Proofs.YtcchfmilleffjaaGreatDoor
open Go
end Go.Proofs.YtcchfmilleffjaaGreatDoor
namespace Go.Proofs.YtcchfmilleffjaaGreatDoor
open Go
def withinB (s : Sp) (v : Ver) : Bool := (!s.hf || decide (orderB v s.f ≥ 0)) && (!s.ht || decide (orderB v s.t < 0))
def namesB (h : Bool) (e v : Ver) : Bool := (((h && !(e.e == [])) && e.a == v.a) && e.b == v.b) && e.c == v.c
def hasAt (n : Nat) (v : Ver) (s : Sp) : Bool :=
  withinB s v && (((v.e == [] || (((n : Int) == 1 && !s.hf) && !s.ht)) || namesB s.hf s.f v) || namesB s.ht s.t v)
def hasB (ss : List Sp) (v : Ver) : Bool := ss.any (hasAt ss.length v)
def HasB (ss : List Sp) (v : Ver) : Bool × Int := if rangeE ss != 0 then (false, rangeE ss) else if v.check != 0 then (false, v.check) else (hasB ss v, 0)
def idxOf {α : Type} (φ : α → Bool) : List α → Int
  | [] => -1
  | x :: l => if φ x then 0 else if idxOf φ l == -1 then -1 else idxOf φ l + 1
theorem idxOf_none {α : Type} {φ : α → Bool} : ∀ {l : List α}, l.any φ = false → idxOf φ l = -1
  | [], _ => rfl
  | x :: l, h => by
    simp only [List.any_cons, Bool.or_eq_false_iff] at h
    unfold idxOf
    rw [if_neg (by simp [h.1]), idxOf_none h.2]; rfl
theorem idxOf_at {α : Type} {φ : α → Bool} {d : α} : ∀ {l : List α} {i : Nat}, i < l.length → (l.take i).any φ = false → φ (l.getD i d) = true → idxOf φ l = i
  | [], i, h, _, _ => by simp at h
  | x :: l, 0, _, _, hp => by simp at hp; simp [idxOf, hp]
  | x :: l, i + 1, h, ht, hp => by
    simp only [List.take_succ_cons, List.any_cons, Bool.or_eq_false_iff] at ht
    have ih := idxOf_at (d := d) (l := l) (i := i) (by simpa using h) ht.2 (by simpa using hp)
    unfold idxOf
    rw [if_neg (by simp [ht.1]), ih, if_neg (by rw [beq_iff_eq]; omega)]; omega
end Go.Proofs.YtcchfmilleffjaaGreatDoor
namespace Go.Proofs.YtcchfmilleffjaaGreatDoor
open Go
structure Pre {α : Type} (c : α → α → Int) : Prop where
  neg : ∀ x y, c y x = -c x y
  trans : ∀ x y z, c x y ≤ 0 → c y z ≤ 0 → c x z ≤ 0
theorem Pre.on {α β : Type} {c : β → β → Int} (h : Pre c) (f : α → β) : Pre (fun x y => c (f x) (f y)) := ⟨fun x y => h.neg _ _, fun x y z => h.trans _ _ _⟩
theorem firstB_le {a b : Int} : firstB a b ≤ 0 ↔ a < 0 ∨ (a = 0 ∧ b ≤ 0) := by
  unfold firstB
  split
  · rename_i h; simp at h; omega
  · rename_i h; simp at h; omega
theorem Pre.lex {α : Type} {c d : α → α → Int} (h : Pre c) (k : Pre d) : Pre (fun x y => firstB (c x y) (d x y)) where
  neg x y := by
    show firstB (c y x) (d y x) = -firstB (c x y) (d x y)
    rw [h.neg x y, k.neg x y]
    unfold firstB
    by_cases h0 : c x y = 0
    · rw [h0]; rfl
    · rw [if_pos (by simpa using h0), if_pos (by simpa using h0)]
  trans x y z h1 h2 := by
    have h1 := firstB_le.1 h1
    have h2 := firstB_le.1 h2
    refine firstB_le.2 ?_
    have a1 := h.trans x y z
    have a2 := h.trans y z x
    have a3 := h.trans z x y
    have a4 := k.trans x y z
    have n1 := h.neg x y
    have n2 := h.neg y z
    have n3 := h.neg x z
    omega
theorem pre_int : Pre Lib.compareInt where
  neg x y := cmpInt_neg x y
  trans x y z := by
    unfold Lib.compareInt
    repeat' split
    all_goals omega
theorem cmpInt_0 {x y : Int} (h : Lib.compareInt x y = 0) : x = y := by
  unfold Lib.compareInt at h
  split at h
  · omega
  · split at h
    · omega
    · omega
def lexL {α : Type} (c : α → α → Int) : List α → List α → Int
  | [], [] => 0
  | [], _ :: _ => -1
  | _ :: _, [] => 1
  | x :: xs, y :: ys => firstB (c x y) (lexL c xs ys)
theorem lexL_pre {α : Type} {c : α → α → Int} (h : Pre c) : Pre (lexL c) where
  neg := by
    intro xs
    induction xs with
    | nil => intro ys; cases ys <;> rfl
    | cons x xs ih =>
      intro ys
      cases ys with
      | nil => rfl
      | cons y ys =>
        show firstB (c y x) (lexL c ys xs) = -firstB (c x y) (lexL c xs ys)
        rw [h.neg x y, ih ys]
        unfold firstB
        by_cases h0 : c x y = 0
        · rw [h0]; rfl
        · rw [if_pos (by simpa using h0), if_pos (by simpa using h0)]
  trans := by
    intro xs
    induction xs with
    | nil => intro ys zs h1 h2; cases zs <;> simp [lexL]
    | cons x xs ih =>
      intro ys zs h1 h2
      cases ys with
      | nil => simp [lexL] at h1
      | cons y ys =>
        cases zs with
        | nil => simp [lexL] at h2
        | cons z zs =>
          have h1 := firstB_le.1 h1
          have h2 := firstB_le.1 h2
          refine firstB_le.2 ?_
          have a1 := h.trans x y z
          have a2 := h.trans y z x
          have a3 := h.trans z x y
          have a4 := ih ys zs
          have n1 := h.neg x y
          have n2 := h.neg y z
          have n3 := h.neg x z
          omega
theorem firstB_0 {a b : Int} (h : firstB a b = 0) : a = 0 ∧ b = 0 := by
  unfold firstB at h
  by_cases h0 : a = 0
  · subst h0; exact ⟨rfl, h⟩
  · rw [if_pos (by simpa using h0)] at h; exact absurd h h0
theorem lexL_0 {α : Type} {c : α → α → Int} (h : ∀ x y, c x y = 0 → x = y) : ∀ {xs ys : List α}, lexL c xs ys = 0 → xs = ys
  | [], [], _ => rfl
  | [], _ :: _, e => by simp [lexL] at e
  | _ :: _, [], e => by simp [lexL] at e
  | x :: xs, y :: ys, e => by
    have e := firstB_0 e
    rw [h x y e.1, lexL_0 h e.2]
theorem bytes_lex : ∀ (a b : List UInt8), Lib.compareBytes a b = lexL (fun a b => Lib.compareInt (bI a) (bI b)) a b
  | [], [] => rfl
  | [], _ :: _ => rfl
  | _ :: _, [] => rfl
  | a :: l, b :: m => by
    have ih := bytes_lex l m
    show _ = firstB (Lib.compareInt (bI a) (bI b)) _
    by_cases h1 : a < b
    · have h1' : a.toNat < b.toNat := h1
      simp only [Lib.compareBytes, h1, if_true]
      rw [cmp_lt (show bI a < bI b by unfold bI; omega)]; rfl
    · have h1' : ¬ a.toNat < b.toNat := h1
      by_cases h2 : b < a
      · have h2' : b.toNat < a.toNat := h2
        simp only [Lib.compareBytes, h1, h2, if_true, if_false]
        rw [cmp_gt (show bI b < bI a by unfold bI; omega)]; rfl
      · have h2' : ¬ b.toNat < a.toNat := h2
        simp only [Lib.compareBytes, h1, h2, if_false]
        rw [show bI a = bI b by unfold bI; omega, cmp_refl]; exact ih
theorem bI_inj {a b : UInt8} (h : bI a = bI b) : a = b := by
  unfold bI at h
  exact UInt8.toNat_inj.1 (by omega)
theorem pre_bytes : Pre Lib.compareBytes := by
  have h : Lib.compareBytes = lexL (fun a b => Lib.compareInt (bI a) (bI b)) := funext fun a => funext fun b => bytes_lex a b
  rw [h]
  exact lexL_pre (pre_int.on bI)
theorem bytes_0 {a b : List UInt8} (h : Lib.compareBytes a b = 0) : a = b := by
  rw [bytes_lex] at h
  exact lexL_0 (fun x y e => bI_inj (cmpInt_0 e)) h
def nfl (a : List UInt8) : Int := if numeralB a then 0 else 1
def nln (a : List UInt8) : Int := if numeralB a then (a.length : Int) else 0
theorem cwB_lex (a b : List UInt8) : cwB a b = firstB (Lib.compareInt (nfl a) (nfl b)) (firstB (Lib.compareInt (nln a) (nln b)) (Lib.compareBytes a b)) := by
  unfold cwB nfl nln
  cases ha : numeralB a <;> cases hb : numeralB b <;> simp only [Bool.and_true, Bool.and_false, Bool.false_and, Bool.true_and, if_true, if_false, Bool.false_eq_true]
  · rw [cmp_refl, cmp_refl]; rfl
  · rfl
  · rfl
  · rw [cmp_refl]
    by_cases h : (a.length : Int) = b.length
    · rw [h, cmp_refl]; simp [firstB]
    · rw [if_pos (by simpa using h)]
      have : Lib.compareInt a.length b.length ≠ 0 := fun e => h (cmpInt_0 e)
      unfold firstB
      rw [if_neg (by simp), if_pos (by simpa using this)]
theorem pre_cw : Pre cwB := by
  have h : cwB = fun a b => firstB (Lib.compareInt (nfl a) (nfl b)) (firstB (Lib.compareInt (nln a) (nln b)) (Lib.compareBytes a b)) := funext fun a => funext fun b => cwB_lex a b
  rw [h]
  exact (pre_int.on nfl).lex ((pre_int.on nln).lex pre_bytes)
theorem cw_0 {a b : List UInt8} (h : cwB a b = 0) : a = b := by
  rw [cwB_lex] at h
  exact bytes_0 (firstB_0 (firstB_0 h).2).2
theorem firstNe_cons (a : Int) (l : List Int) : firstNe (a :: l) = firstB a (firstNe l) := by
  unfold firstNe firstB
  rw [List.find?_cons]
  by_cases h : a = 0
  · subst h; simp
  · rw [show (a != 0) = true by simpa using h]; rfl
theorem firstB_assoc (a b c : Int) : firstB (firstB a b) c = firstB a (firstB b c) := by
  unfold firstB
  by_cases h : a = 0
  · subst h; simp
  · simp [h]
theorem rows_first (xs ys : List (List UInt8)) : rowsB xs ys = firstB (firstNe (List.zipWith cwB xs ys)) (Lib.compareInt xs.length ys.length) := rfl
theorem rows_lex : ∀ (xs ys : List (List UInt8)), rowsB xs ys = lexL cwB xs ys
  | [], [] => by decide
  | [], y :: ys => by
    rw [rows_first, List.zipWith_nil_left, show firstNe [] = 0 from rfl, cmp_lt (by simp <;> omega)]; rfl
  | x :: xs, [] => by
    rw [rows_first, List.zipWith_nil_right, show firstNe [] = 0 from rfl, cmp_gt (by simp <;> omega)]; rfl
  | x :: xs, y :: ys => by
    have ih := rows_lex xs ys
    show _ = firstB (cwB x y) (lexL cwB xs ys)
    rw [← ih, rows_first, rows_first, List.zipWith_cons_cons, firstNe_cons, firstB_assoc]
    have e2 : Lib.compareInt ((x :: xs).length : Int) ((y :: ys).length : Int) = Lib.compareInt xs.length ys.length := by
      simp only [List.length_cons]
      unfold Lib.compareInt
      repeat' split
      all_goals omega
    rw [e2]
theorem join_split1 (c : UInt8) : ∀ (n : Nat) (s : List UInt8), s.length ≤ n → Lib.join (Lib.split s [c]) [c] = s
  | n, s, hn => by
    by_cases h : c ∈ s
    · obtain ⟨x, y, e, hx⟩ := first_of h
      subst e
      rw [split_cons hx]
      match n with
      | 0 => simp at hn
      | n + 1 =>
        have ih := join_split1 c n y (by simp at hn; omega)
        have hp := split_pos y [c]
        match hq : Lib.split y [c] with
        | [] => rw [hq] at hp; simp at hp
        | p :: q =>
          rw [hq] at ih
          show Lib.join (x :: p :: q) [c] = _
          rw [show Lib.join (x :: p :: q) [c] = x ++ [c] ++ Lib.join (p :: q) [c] by simp [Lib.join, List.intercalate, List.intersperse], ih]
          simp
    · rw [split_none h]; simp [Lib.join, List.intercalate, List.intersperse]
def efl (a : List UInt8) : Int := if a == [] then 0 else 1
theorem ce_lex (a b : List UInt8) : ceB a b = firstB (Lib.compareInt (efl b) (efl a)) (rowsB (Lib.split a [46]) (Lib.split b [46])) := by
  unfold ceB efl
  by_cases h : a = b
  · subst h; rw [cmp_refl, rows_refl]; simp [firstB]
  · rw [if_neg (by simpa using h)]
    cases ha : (a == []) <;> cases hb : (b == [])
    · simp only [Bool.false_eq_true, if_false]; rw [cmp_refl]; rfl
    · rfl
    · rfl
    · exact absurd ((by simpa using ha : a = []).trans (by simpa using hb : b = []).symm) h
theorem pre_rows : Pre rowsB := by
  rw [show rowsB = lexL cwB from funext fun a => funext fun b => rows_lex a b]
  exact lexL_pre pre_cw
theorem pre_ce : Pre ceB := by
  have h : ceB = fun a b => firstB (Lib.compareInt (efl b) (efl a)) (rowsB (Lib.split a [46]) (Lib.split b [46])) := funext fun a => funext fun b => ce_lex a b
  rw [h]
  refine Pre.lex (c := fun a b => Lib.compareInt (efl b) (efl a)) ⟨fun x y => pre_int.neg _ _, fun x y z h1 h2 => pre_int.trans _ _ _ h2 h1⟩ (pre_rows.on fun a => Lib.split a [46])
theorem ce_0 {a b : List UInt8} (h : ceB a b = 0) : a = b := by
  rw [ce_lex, rows_lex] at h
  have h2 := lexL_0 (fun x y e => cw_0 e) (firstB_0 h).2
  rw [← join_split1 46 _ a (Nat.le_refl _), h2, join_split1 46 _ b (Nat.le_refl _)]
theorem order_lex (v w : Ver) : orderB v w = firstB (Lib.compareInt v.a w.a) (firstB (Lib.compareInt v.b w.b) (firstB (Lib.compareInt v.c w.c) (ceB v.e w.e))) := by
  unfold orderB
  rw [firstNe_cons, firstNe_cons, firstNe_cons, first1]
theorem pre_order : Pre orderB := by
  have h : orderB = fun v w => firstB (Lib.compareInt v.a w.a) (firstB (Lib.compareInt v.b w.b) (firstB (Lib.compareInt v.c w.c) (ceB v.e w.e))) := funext fun a => funext fun b => order_lex a b
  rw [h]
  exact (pre_int.on Ver.a).lex ((pre_int.on Ver.b).lex ((pre_int.on Ver.c).lex (pre_ce.on Ver.e)))
theorem order_0 {v w : Ver} (h : orderB v w = 0) : v = w := by
  rw [order_lex] at h
  have h1 := firstB_0 h
  have h2 := firstB_0 h1.2
  have h3 := firstB_0 h2.2
  have e1 := cmpInt_0 h1.1
  have e2 := cmpInt_0 h2.1
  have e3 := cmpInt_0 h3.1
  have e4 := ce_0 h3.2
  cases v; cases w; simp_all
theorem order_refl (v : Ver) : orderB v v = 0 := by have := pre_order.neg v v; omega
end Go.Proofs.YtcchfmilleffjaaGreatDoor
namespace Go.Proofs.YtcchfmilleffjaaGreatDoor
open Go
variable {pts : List Ver}
end Go.Proofs.YtcchfmilleffjaaGreatDoor
namespace Go.Proofs.YtcchfmilleffjaaGreatDoor
open Go
theorem take_getD {α : Type} {l : List α} {i : Nat} {d : α} (h : i < l.length) : l.take (i + 1) = l.take i ++ [l.getD i d] := by
  rw [List.take_succ_eq_append_getElem h, List.getD_eq_getElem?_getD, List.getElem?_eq_getElem h]; rfl
end Go.Proofs.YtcchfmilleffjaaGreatDoor
namespace Go.Proofs.YtcchfmilleffjaaGreatDoor
open Go
inductive CT where
  | mk (k : Int) (n v : List UInt8) (l : List CT)
mutual
def CT.d : CT → List D
  | .mk k n v l => [.int .i64 k, .str n, .str v, .vec 4 (CT.ds l)]
def CT.ds : List CT → List (List D)
  | [] => []
  | c :: l => c.d :: CT.ds l
end
theorem ds_map : ∀ (l : List CT), CT.ds l = l.map CT.d
  | [] => rfl
  | c :: l => by
    show c.d :: CT.ds l = _
    rw [ds_map l]; rfl
def CT.z : CT := .mk 0 [] [] []
def CT.k : CT → Int | .mk k _ _ _ => k
def CT.n : CT → List UInt8 | .mk _ n _ _ => n
def CT.v : CT → List UInt8 | .mk _ _ v _ => v
def CT.l : CT → List CT | .mk _ _ _ l => l
mutual
def CT.w : CT → Nat
  | .mk _ _ _ l => CT.ws l + 1
def CT.ws : List CT → Nat
  | [] => 0
  | c :: l => c.w + CT.ws l
end
theorem ws_mem : ∀ {l : List CT} {a : CT}, a ∈ l → a.w ≤ CT.ws l
  | c :: l, a, h => by
    show a.w ≤ c.w + CT.ws l
    rcases List.mem_cons.1 h with rfl | h
    · omega
    · have := ws_mem h; omega
theorem CT.sz {c a : CT} (h : a ∈ c.l) : a.w < c.w := by
  cases c with
  | mk k n v l =>
    have h2 : a.w ≤ CT.ws l := ws_mem h
    show a.w < CT.ws l + 1
    omega
theorem CT.pos (c : CT) : 0 < c.w := by cases c; show 0 < CT.ws _ + 1; omega
abbrev ctV (c : CT) : V := .agg [.d (.int .i64 c.k), .d (.str c.n), .d (.str c.v), .d (.vec 4 (CT.ds c.l))]
theorem ct_d (c : CT) : c.d = [.int .i64 c.k, .str c.n, .str c.v, .vec 4 (CT.ds c.l)] := by cases c; rfl
def partP (k : Int) (n v : List UInt8) (m : Int) : Int :=
  if decide (k < 1) || decide (k > 8) then 1
  else if (((!(decide (k ≥ 2) && decide (k ≤ 5)) && !(n == [])) || (!((decide (k ≥ 2) && decide (k ≤ 5)) && k != 4) && !(v == []))) || (!decide (k ≥ 6) && decide (m > 0))) || (k == 6 && m != 1) then 2
  else if !(decide (k ≥ 2) && decide (k ≤ 5)) then 0
  else if !(if (k == 3 || k == 4) then pathB n else nameB n) then 5
  else if !valueB v then 2
  else if k == 5 then (rangeB v).2 else 0
def CT.part (c : CT) : Int := partP c.k c.n c.v (c.l.length : Int)
def up1 (n : Int) : Int := IntKind.i64.wrap (n + 1)
def visits {S : Type} (g : CT → S → Bool × S) : List CT → S → Bool × S
  | [], s => (true, s)
  | c :: l, s => if (g c s).1 then visits g l (g c s).2 else (false, (g c s).2)
theorem visits_nil {S : Type} {g : CT → S → Bool × S} {l : List CT} {s : S} : visits g (l.take 0) s = (true, s) := rfl
theorem visits_congr {S : Type} {g g' : CT → S → Bool × S} : ∀ {l : List CT}, (∀ c ∈ l, g c = g' c) → visits g l = visits g' l
  | [], _ => rfl
  | c :: l, h => by
    funext s
    have ih := visits_congr (l := l) (fun c hc => h c (List.mem_cons_of_mem _ hc))
    unfold visits
    rw [h c List.mem_cons_self, ih]
def visitN {S : Type} (f : CT → Int → S → Bool × S) : Nat → CT → Int → S → Bool × S
  | 0, c, lv, s => (true, s)
  | fuel + 1, c, lv, s => if (f c lv s).1 then visits (fun a => visitN f fuel a (up1 lv)) c.l (f c lv s).2 else (false, (f c lv s).2)
def visit {S : Type} (f : CT → Int → S → Bool × S) (c : CT) (lv : Int) (s : S) : Bool × S := visitN f c.w c lv s
theorem visitN_fuel {S : Type} (f : CT → Int → S → Bool × S) : ∀ (n m : Nat) (c : CT) (lv : Int), c.w ≤ n → c.w ≤ m → visitN f n c lv = visitN f m c lv
  | 0, m, c, lv, h, _ => by have := c.pos; omega
  | n + 1, 0, c, lv, _, h => by have := c.pos; omega
  | n + 1, m + 1, c, lv, h, h' => by
    funext s
    show (if (f c lv s).1 then visits (fun a => visitN f n a (up1 lv)) c.l (f c lv s).2 else _) = (if (f c lv s).1 then visits (fun a => visitN f m a (up1 lv)) c.l (f c lv s).2 else _)
    rw [visits_congr (fun a ha => visitN_fuel f n m a (up1 lv) (by have := CT.sz ha; omega) (by have := CT.sz ha; omega))]
theorem visit_eq {S : Type} (f : CT → Int → S → Bool × S) (c : CT) (lv : Int) (s : S) :
    visit f c lv s = if (f c lv s).1 then visits (fun a => visit f a (up1 lv)) c.l (f c lv s).2 else (false, (f c lv s).2) := by
  unfold visit
  obtain ⟨n, hn⟩ : ∃ n, c.w = n + 1 := ⟨c.w - 1, by have := c.pos; omega⟩
  rw [hn]
  show (if (f c lv s).1 then visits (fun a => visitN f n a (up1 lv)) c.l (f c lv s).2 else _) = _
  rw [visits_congr (fun a ha => visitN_fuel f n a.w a (up1 lv) (by have := CT.sz ha; omega) (Nat.le_refl _))]
theorem visit_no {S : Type} {f : CT → Int → S → Bool × S} {c : CT} {lv : Int} {s : S} (h : (f c lv s).1 = false) : visit f c lv s = (false, (f c lv s).2) := by rw [visit_eq, h]; simp
theorem visits_snoc {S : Type} {g : CT → S → Bool × S} : ∀ {l : List CT} {a : CT} {s s' : S}, visits g l s = (true, s') → visits g (l ++ [a]) s = g a s'
  | [], a, s, s', h => by
    have h2 : s = s' := (Prod.mk.inj h).2
    subst h2
    show (if (g a s).1 then (true, (g a s).2) else (false, (g a s).2)) = g a s
    cases h : g a s with
    | mk b q => cases b <;> rfl
  | c :: l, a, s, s', h => by
    unfold visits at h
    show (if (g c s).1 then visits g (l ++ [a]) (g c s).2 else _) = _
    cases hc : (g c s).1 with
    | true => rw [hc, if_pos rfl] at h; rw [if_pos rfl]; exact visits_snoc h
    | false => rw [hc] at h; simp at h
theorem visits_stop {S : Type} {g : CT → S → Bool × S} : ∀ {l : List CT} {i : Nat} {s s' : S}, i < l.length → visits g (l.take i) s = (true, s') → (g (l.getD i CT.z) s').1 = false → visits g l s = (false, (g (l.getD i CT.z) s').2)
  | [], i, s, s', hi, _, _ => by simp at hi
  | c :: l, 0, s, s', _, h, hc => by
    have h2 : s = s' := (Prod.mk.inj h).2
    subst h2
    have hc : (g c s).1 = false := hc
    show (if (g c s).1 then _ else (false, (g c s).2)) = _
    rw [hc]; rfl
  | c :: l, i + 1, s, s', hi, h, hc => by
    have h : (if (g c s).1 then visits g (l.take i) (g c s).2 else (false, (g c s).2)) = (true, s') := h
    show (if (g c s).1 then visits g l (g c s).2 else _) = _
    cases hq : (g c s).1 with
    | true => rw [hq, if_pos rfl] at h; rw [if_pos rfl]; exact visits_stop (by simpa using hi) h hc
    | false => rw [hq] at h; simp at h
def cc1 (c : CT) (lv : Int) (s : Int × Bool) : Bool × (Int × Bool) := (decide (up1 s.1 ≤ 100), (up1 s.1, s.2 || decide (lv > 20)))
def cc2 (c : CT) (lv : Int) (s : Int) : Bool × Int := (c.part == 0, c.part)
def checkP (c : CT) : Int :=
  if decide ((visit cc1 c 0 (0, false)).2.1 > 100) then 4
  else if (visit cc2 c 0 0).2 == 0 && (visit cc1 c 0 (0, false)).2.2 then 4 else (visit cc2 c 0 0).2
theorem getD_map_ct {l : List CT} {i : Nat} (h : i < l.length) : V.one (.eptr ((l.map CT.d).getD ((i : Int)).toNat [])) = V.one (.eptr [.int .i64 (l.getD i CT.z).k, .str (l.getD i CT.z).n, .str (l.getD i CT.z).v, .vec 4 (CT.ds (l.getD i CT.z).l)]) :=
  (row_at (f := CT.d) CT.z h).trans (by rw [ct_d])
theorem take_ct {l : List CT} {i : Nat} (h : i < l.length) : l.take (i + 1) = l.take i ++ [l.getD i CT.z] := by
  rw [List.take_succ_eq_append_getElem h, List.getD_eq_getElem?_getD, List.getElem?_eq_getElem h]; rfl
theorem mem_ct {l : List CT} {i : Nat} (h : i < l.length) : l.getD i CT.z ∈ l := by
  rw [List.getD_eq_getElem?_getD, List.getElem?_eq_getElem h]; exact List.getElem_mem h
inductive CtBig : CT → Prop where
  | mk (k : Int) (n v : List UInt8) (l : List CT) (h1 : n.length < 4294967000) (h2 : v.length < 4294967000) (h3 : ∀ a ∈ l, CtBig a) (h4 : l.length < 4294967000) : CtBig (.mk k n v l)
theorem CtBig.n {c : CT} (h : CtBig c) : c.n.length < 4294967000 := by cases h; assumption
theorem CtBig.v {c : CT} (h : CtBig c) : c.v.length < 4294967000 := by cases h; assumption
theorem CtBig.ll {c : CT} (h : CtBig c) : c.l.length < 4294967000 := by cases h; assumption
theorem CtBig.l {c : CT} (h : CtBig c) : ∀ a ∈ c.l, CtBig a := by cases h; assumption
theorem visit_go {S : Type} {f : CT → Int → S → Bool × S} {c : CT} {lv : Int} {s : S} (h : (f c lv s).1 = true) : visit f c lv s = visits (fun a => visit f a (up1 lv)) c.l (f c lv s).2 := by rw [visit_eq, h]; simp
theorem visit_stop {S : Type} {f : CT → Int → S → Bool × S} {c : CT} {lv : Int} {s s' : S} {i : Nat} (h : (f c lv s).1 = true) (hi : i < c.l.length) (hv : visits (fun a => visit f a (up1 lv)) (c.l.take i) (f c lv s).2 = (true, s')) (hc : (visit f (c.l.getD i CT.z) (up1 lv) s').1 = false) :
    visit f c lv s = (false, (visit f (c.l.getD i CT.z) (up1 lv) s').2) := by rw [visit_go h]; exact visits_stop hi hv hc
theorem visit_all {S : Type} {f : CT → Int → S → Bool × S} {c : CT} {lv : Int} {s s' : S} {i : Nat} (h : (f c lv s).1 = true) (hi : c.l.length ≤ i) (hv : visits (fun a => visit f a (up1 lv)) (c.l.take i) (f c lv s).2 = (true, s')) :
    visit f c lv s = (true, s') := by rw [visit_go h, ← hv, List.take_of_length_le hi]
theorem visit_next {S : Type} {f : CT → Int → S → Bool × S} {c : CT} {lv : Int} {s s' : S} {i : Nat} (hi : i < c.l.length) (hv : visits (fun a => visit f a (up1 lv)) (c.l.take i) s = (true, s')) (hc : (visit f (c.l.getD i CT.z) (up1 lv) s').1 = true) :
    visits (fun a => visit f a (up1 lv)) (c.l.take (i + 1)) s = (true, (visit f (c.l.getD i CT.z) (up1 lv) s').2) := by
  rw [take_ct hi, visits_snoc hv]; exact Prod.ext hc rfl
theorem check_0 : checkP (.mk 1 [] [] []) = 0 := by rfl
end Go.Proofs.YtcchfmilleffjaaGreatDoor
set_option maxRecDepth 100000
set_option maxHeartbeats 4000000
namespace Go.Proofs.YtcchfmilleffjaaGreatDoor
open Go
open Go.RowKit
attribute [local irreducible] rangeB pathB nameB valueB visit visits
theorem part_eq {x : Int} {n v : List UInt8} {m : Int} {b : Bool} (c1 : (decide (x < 1) || decide (x > 8)) = false)
    (c2 : ((((!(decide (x ≥ 2) && decide (x ≤ 5)) && !(n == [])) || (!((decide (x ≥ 2) && decide (x ≤ 5)) && x != 4) && !(v == []))) || (!decide (x ≥ 6) && decide (m > 0))) || (x == 6 && m != 1)) = false)
    (c3 : (!(decide (x ≥ 2) && decide (x ≤ 5))) = false) (hb : (if (x == 3 || x == 4) = true then pathB n else nameB n) = b) : partP x n v m = if (!b) = true then 5 else if (!valueB v) = true then 2 else if (x == 5) = true then (rangeB v).2 else 0 := by
  unfold partP
  rw [if_neg (Bool.eq_false_iff.1 c1), if_neg (Bool.eq_false_iff.1 c2), if_neg (Bool.eq_false_iff.1 c3), hb]
theorem pc_ver_partFault (x : Int) (n v : List UInt8) (xs : List (List D)) (hn : n.length < 4294967000) (hv : v.length < 4294967000) :
  PureCall Tryz.prog J 219 [.agg [.d (.int .i64 x), .d (.str n), .d (.str v), .d (.vec 4 xs)]] (.one (.d (.int .i64 (partP x n v (xs.length : Int))))) := by
 refine PureCall.of_body tOk (fn := Tryz.f219) Tryz.func219 (by kernel_rfl) rfl (Nat.le_of_ble_eq_true rfl) (fun E => ?_)
 refine W.seq ?_
 refine W.region ?_
 refine S.box rfl rfl rfl rfl ?_
 refine S.pure tOk zOk rfl rfl rfl ?_
 refine thenK_n ?_
 refine W.seq ?_
 refine W.seq ?_
 refine W.region ?_
 refine S.pure tOk zOk rfl rfl rfl ?_
 refine S.pure tOk zOk rfl rfl rfl ?_
 refine S.pure tOk zOk rfl rfl rfl ?_
 refine S.pure tOk zOk rfl rfl rfl ?_
 refine S.pureG tOk zOk rfl rfl tg (fun _ => rfl) rfl ?_
 refine S.pureG tOk zOk rfl rfl tg (fun _ => rfl) rfl ?_
 refine S.pureG tOk zOk rfl rfl tg (fun _ => rfl) rfl ?_
 refine S.pickOr tOk zOk rfl rfl tg ?_
 refine thenK_n ?_
 refine W.cond rfl (fun c1 => ?_) (fun c1 => ?_)
 ·skip
  refine W.seq ?_
  refine W.region ?_
  refine S.pure tOk zOk rfl rfl rfl ?_
  refine thenK_n ?_
  refine W.ret ?_
  refine thenK_r ?_
  exact ⟨_, rfl, rfl, LeV.of_force rfl (congrArg (fun x : Int => V.one (C.d (D.int .i64 x))) ((if_pos c1) : partP x n v (xs.length : Int) = _)).symm⟩
 ·skip
  refine W.skip ?_
  refine thenK_n ?_
  refine W.seq ?_
  refine W.region ?_
  refine S.pure tOk zOk rfl rfl rfl ?_
  refine S.pure tOk zOk rfl rfl rfl ?_
  refine S.pure tOk zOk rfl rfl rfl ?_
  refine S.pure tOk zOk rfl rfl rfl ?_
  refine S.pureG tOk zOk rfl rfl tg (fun _ => rfl) rfl ?_
  refine S.pureG tOk zOk rfl rfl tg (fun _ => rfl) rfl ?_
  refine S.pureG tOk zOk rfl rfl tg (fun _ => rfl) rfl ?_
  refine S.pickAnd tOk zOk rfl rfl tg ?_
  refine S.pure tOk zOk rfl rfl rfl ?_
  refine thenK_n ?_
  refine W.seq ?_
  refine W.region ?_
  refine S.pure tOk zOk rfl rfl rfl ?_
  refine S.pure tOk zOk rfl rfl rfl ?_
  refine S.pureG tOk zOk rfl rfl tg (fun _ => rfl) rfl ?_
  refine S.pureG tOk zOk rfl rfl tg (fun _ => rfl) rfl ?_
  refine S.pureG tOk zOk rfl rfl tg (fun _ => rfl) rfl ?_
  refine S.pickAnd tOk zOk rfl rfl tg ?_
  refine S.pure tOk zOk rfl rfl rfl ?_
  refine thenK_n ?_
  refine W.seq ?_
  refine W.region ?_
  refine S.pure tOk zOk rfl rfl rfl ?_
  refine S.pure tOk zOk rfl rfl rfl ?_
  refine S.pure tOk zOk rfl rfl rfl ?_
  refine S.pure tOk zOk rfl rfl rfl ?_
  refine thenK_n ?_
  refine W.seq ?_
  refine W.seq ?_
  refine W.region ?_
  refine S.pure tOk zOk rfl rfl rfl ?_
  refine S.pure tOk zOk rfl rfl rfl ?_
  refine S.pure tOk zOk rfl rfl rfl ?_
  refine S.pureG tOk zOk rfl rfl tg (fun _ => rfl) rfl ?_
  refine S.pureG tOk zOk rfl rfl tg (fun _ => rfl) rfl ?_
  refine S.pureG tOk zOk rfl rfl tg (fun _ => rfl) rfl ?_
  refine S.pickAnd tOk zOk rfl rfl tg ?_
  refine S.pure tOk zOk rfl rfl rfl ?_
  refine S.pureG tOk zOk rfl rfl tg (fun _ => rfl) rfl ?_
  refine S.pureG tOk zOk rfl rfl tg (fun _ => rfl) rfl ?_
  refine S.pureG tOk zOk rfl rfl tg (fun _ => rfl) rfl ?_
  refine S.pureG tOk zOk rfl rfl tg (fun _ => rfl) rfl ?_
  refine S.pureG tOk zOk rfl rfl tg (fun _ => rfl) rfl ?_
  refine S.pureG tOk zOk rfl rfl tg (fun _ => rfl) rfl ?_
  refine S.pickAndG tOk zOk rfl rfl rfl tg tg ?_
  refine S.pickOr tOk zOk rfl rfl tg ?_
  refine S.pure tOk zOk rfl rfl rfl ?_
  refine S.pureG tOk zOk rfl rfl tg (fun _ => rfl) rfl ?_
  refine S.pureG tOk zOk rfl rfl tg (fun _ => rfl) rfl ?_
  refine S.pureG tOk zOk rfl rfl tg (fun _ => rfl) rfl ?_
  refine S.pureG tOk zOk rfl rfl tg (fun _ => rfl) rfl ?_
  refine S.pureG tOk zOk rfl rfl tg (fun _ => rfl) rfl ?_
  refine S.pureG tOk zOk rfl rfl tg (fun _ => rfl) rfl ?_
  refine S.pureG tOk zOk rfl rfl tg (fun _ => rfl) rfl ?_
  refine S.pickAndG tOk zOk rfl rfl rfl tg tg ?_
  refine S.pickOr tOk zOk rfl rfl tg ?_
  refine S.pure tOk zOk rfl rfl rfl ?_
  refine S.pureG tOk zOk rfl rfl tg (fun _ => rfl) rfl ?_
  refine S.pureG tOk zOk rfl rfl tg (fun _ => rfl) rfl ?_
  refine S.pureG tOk zOk rfl rfl tg (fun _ => rfl) rfl ?_
  refine S.pureG tOk zOk rfl rfl tg (fun _ => rfl) rfl ?_
  refine S.pureG tOk zOk rfl rfl tg (fun _ => rfl) rfl ?_
  refine S.pureG tOk zOk rfl rfl tg (fun _ => rfl) rfl ?_
  refine S.pureG tOk zOk rfl rfl tg (fun _ => rfl) rfl ?_
  refine S.pureG tOk zOk rfl rfl tg (fun _ => rfl) rfl ?_
  refine S.pickAndG tOk zOk rfl rfl rfl tg tg ?_
  refine S.pickOr tOk zOk rfl rfl tg ?_
  refine thenK_n ?_
  refine W.cond rfl (fun c2 => ?_) (fun c2 => ?_)
  ·skip
   refine W.seq ?_
   refine W.region ?_
   refine S.pure tOk zOk rfl rfl rfl ?_
   refine thenK_n ?_
   refine W.ret ?_
   refine thenK_r ?_
   exact ⟨_, rfl, rfl, LeV.of_force rfl (congrArg (fun x : Int => V.one (C.d (D.int .i64 x))) (((if_neg (Bool.eq_false_iff.1 c1)).trans (if_pos c2)) : partP x n v (xs.length : Int) = _)).symm⟩
  ·skip
   refine W.skip ?_
   refine thenK_n ?_
   refine W.seq ?_
   refine W.seq ?_
   refine W.region ?_
   refine S.pure tOk zOk rfl rfl rfl ?_
   refine S.pure tOk zOk rfl rfl rfl ?_
   refine thenK_n ?_
   refine W.cond rfl (fun c3 => ?_) (fun c3 => ?_)
   ·skip
    refine W.seq ?_
    refine W.region ?_
    refine S.pure tOk zOk rfl rfl rfl ?_
    refine thenK_n ?_
    refine W.ret ?_
    refine thenK_r ?_
    exact ⟨_, rfl, rfl, LeV.of_force rfl (congrArg (fun x : Int => V.one (C.d (D.int .i64 x))) (((if_neg (Bool.eq_false_iff.1 c1)).trans ((if_neg (Bool.eq_false_iff.1 c2)).trans (if_pos c3))) : partP x n v (xs.length : Int) = _)).symm⟩
   ·skip
    refine W.skip ?_
    refine thenK_n ?_
    refine W.seq ?_
    refine W.region ?_
    refine S.pure tOk zOk rfl rfl rfl ?_
    refine thenK_n ?_
    refine W.seq ?_
    refine W.seq ?_
    refine W.region ?_
    refine S.pure tOk zOk rfl rfl rfl ?_
    refine S.pure tOk zOk rfl rfl rfl ?_
    refine S.pure tOk zOk rfl rfl rfl ?_
    refine S.pure tOk zOk rfl rfl rfl ?_
    refine S.pureG tOk zOk rfl rfl tg (fun _ => rfl) rfl ?_
    refine S.pureG tOk zOk rfl rfl tg (fun _ => rfl) rfl ?_
    refine S.pureG tOk zOk rfl rfl tg (fun _ => rfl) rfl ?_
    refine S.pickOr tOk zOk rfl rfl tg ?_
    refine thenK_n ?_
    refine W.cond rfl (fun c4 => ?_) (fun c4 => ?_)
    ·skip
     refine W.region ?_
     refine S.pure tOk zOk rfl rfl rfl ?_
     refine thenK_n ?_
     refine W.seq ?_
     refine W.seq ?_
     refine W.region ?_
     refine S.pure tOk zOk rfl rfl rfl ?_
     refine S.pure tOk zOk rfl rfl rfl ?_
     refine S.pure tOk zOk rfl rfl rfl ?_
     refine S.call rfl rfl rfl rfl rfl (pc_ver_IsPath n (by omega)) ?_
     refine S.pure tOk zOk rfl rfl rfl ?_
     refine thenK_n ?_
     refine W.cond rfl (fun c5 => ?_) (fun c5 => ?_)
     ·skip
      refine W.seq ?_
      refine W.region ?_
      refine S.pure tOk zOk rfl rfl rfl ?_
      refine thenK_n ?_
      refine W.ret ?_
      refine thenK_r ?_
      exact ⟨_, rfl, rfl, LeV.of_force rfl (by rw [part_eq c1 c2 c3 (if_pos c4), if_pos c5] <;> rfl)⟩
     ·skip
      refine W.skip ?_
      refine thenK_n ?_
      refine W.seq ?_
      refine W.seq ?_
      refine W.region ?_
      refine S.pure tOk zOk rfl rfl rfl ?_
      refine S.pure tOk zOk rfl rfl rfl ?_
      refine S.call rfl rfl rfl rfl rfl (pc_ver_IsValue v (by omega)) ?_
      refine S.pure tOk zOk rfl rfl rfl ?_
      refine thenK_n ?_
      refine W.cond rfl (fun c6 => ?_) (fun c6 => ?_)
      ·skip
       refine W.seq ?_
       refine W.region ?_
       refine S.pure tOk zOk rfl rfl rfl ?_
       refine thenK_n ?_
       refine W.ret ?_
       refine thenK_r ?_
       exact ⟨_, rfl, rfl, LeV.of_force rfl (by rw [part_eq c1 c2 c3 (if_pos c4), if_neg (Bool.eq_false_iff.1 c5), if_pos c6] <;> rfl)⟩
      ·skip
       refine W.skip ?_
       refine thenK_n ?_
       refine W.seq ?_
       refine W.seq ?_
       refine W.region ?_
       refine S.pure tOk zOk rfl rfl rfl ?_
       refine S.pure tOk zOk rfl rfl rfl ?_
       refine S.pure tOk zOk rfl rfl rfl ?_
       refine thenK_n ?_
       refine W.cond rfl (fun c7 => ?_) (fun c7 => ?_)
       ·skip
        refine W.seq ?_
        refine W.region ?_
        refine S.pure tOk zOk rfl rfl rfl ?_
        refine S.pure tOk zOk rfl rfl rfl ?_
        refine S.call rfl rfl rfl rfl rfl (pc_ver_ParseRange v hv) ?_
        refine S.pure tOk zOk rfl rfl rfl ?_
        refine S.pure tOk zOk rfl rfl rfl ?_
        refine S.pure tOk zOk rfl rfl rfl ?_
        refine S.alloc tOk rfl rfl rfl rfl ?_
        refine S.store tOk rfl rfl rfl rfl rfl rfl rfl rfl ?_
        refine S.pure tOk zOk rfl rfl rfl ?_
        refine thenK_n ?_
        refine W.seq ?_
        refine W.region ?_
        refine S.pure tOk zOk rfl rfl rfl ?_
        refine S.pure tOk zOk rfl rfl rfl ?_
        refine thenK_n ?_
        refine W.ret ?_
        refine thenK_r ?_
        exact ⟨_, rfl, rfl, LeV.of_force rfl (by rw [part_eq c1 c2 c3 (if_pos c4), if_neg (Bool.eq_false_iff.1 c5), if_neg (Bool.eq_false_iff.1 c6), if_pos c7] <;> rfl)⟩
       ·skip
        refine W.skip ?_
        refine thenK_n ?_
        refine W.seq ?_
        refine W.region ?_
        refine S.pure tOk zOk rfl rfl rfl ?_
        refine thenK_n ?_
        refine W.ret ?_
        exact ⟨_, rfl, rfl, LeV.of_force rfl (by rw [part_eq c1 c2 c3 (if_pos c4), if_neg (Bool.eq_false_iff.1 c5), if_neg (Bool.eq_false_iff.1 c6), if_neg (Bool.eq_false_iff.1 c7)] <;> rfl)⟩
    ·skip
     refine W.skip ?_
     refine thenK_n ?_
     refine W.seq ?_
     refine W.seq ?_
     refine W.region ?_
     refine S.pure tOk zOk rfl rfl rfl ?_
     refine S.pure tOk zOk rfl rfl rfl ?_
     refine S.pure tOk zOk rfl rfl rfl ?_
     refine S.call rfl rfl rfl rfl rfl (pc_ver_IsName n (by omega)) ?_
     refine S.pure tOk zOk rfl rfl rfl ?_
     refine thenK_n ?_
     refine W.cond rfl (fun c8 => ?_) (fun c8 => ?_)
     ·skip
      refine W.seq ?_
      refine W.region ?_
      refine S.pure tOk zOk rfl rfl rfl ?_
      refine thenK_n ?_
      refine W.ret ?_
      refine thenK_r ?_
      exact ⟨_, rfl, rfl, LeV.of_force rfl (by rw [part_eq c1 c2 c3 (if_neg (Bool.eq_false_iff.1 c4)), if_pos c8] <;> rfl)⟩
     ·skip
      refine W.skip ?_
      refine thenK_n ?_
      refine W.seq ?_
      refine W.seq ?_
      refine W.region ?_
      refine S.pure tOk zOk rfl rfl rfl ?_
      refine S.pure tOk zOk rfl rfl rfl ?_
      refine S.call rfl rfl rfl rfl rfl (pc_ver_IsValue v (by omega)) ?_
      refine S.pure tOk zOk rfl rfl rfl ?_
      refine thenK_n ?_
      refine W.cond rfl (fun c9 => ?_) (fun c9 => ?_)
      ·skip
       refine W.seq ?_
       refine W.region ?_
       refine S.pure tOk zOk rfl rfl rfl ?_
       refine thenK_n ?_
       refine W.ret ?_
       refine thenK_r ?_
       exact ⟨_, rfl, rfl, LeV.of_force rfl (by rw [part_eq c1 c2 c3 (if_neg (Bool.eq_false_iff.1 c4)), if_neg (Bool.eq_false_iff.1 c8), if_pos c9] <;> rfl)⟩
      ·skip
       refine W.skip ?_
       refine thenK_n ?_
       refine W.seq ?_
       refine W.seq ?_
       refine W.region ?_
       refine S.pure tOk zOk rfl rfl rfl ?_
       refine S.pure tOk zOk rfl rfl rfl ?_
       refine S.pure tOk zOk rfl rfl rfl ?_
       refine thenK_n ?_
       refine W.cond rfl (fun c10 => ?_) (fun c10 => ?_)
       ·skip
        refine W.seq ?_
        refine W.region ?_
        refine S.pure tOk zOk rfl rfl rfl ?_
        refine S.pure tOk zOk rfl rfl rfl ?_
        refine S.call rfl rfl rfl rfl rfl (pc_ver_ParseRange v hv) ?_
        refine S.pure tOk zOk rfl rfl rfl ?_
        refine S.pure tOk zOk rfl rfl rfl ?_
        refine S.pure tOk zOk rfl rfl rfl ?_
        refine S.alloc tOk rfl rfl rfl rfl ?_
        refine S.store tOk rfl rfl rfl rfl rfl rfl rfl rfl ?_
        refine S.pure tOk zOk rfl rfl rfl ?_
        refine thenK_n ?_
        refine W.seq ?_
        refine W.region ?_
        refine S.pure tOk zOk rfl rfl rfl ?_
        refine S.pure tOk zOk rfl rfl rfl ?_
        refine thenK_n ?_
        refine W.ret ?_
        refine thenK_r ?_
        exact ⟨_, rfl, rfl, LeV.of_force rfl (by rw [part_eq c1 c2 c3 (if_neg (Bool.eq_false_iff.1 c4)), if_neg (Bool.eq_false_iff.1 c8), if_neg (Bool.eq_false_iff.1 c9), if_pos c10] <;> rfl)⟩
       ·skip
        refine W.skip ?_
        refine thenK_n ?_
        refine W.seq ?_
        refine W.region ?_
        refine S.pure tOk zOk rfl rfl rfl ?_
        refine thenK_n ?_
        refine W.ret ?_
        exact ⟨_, rfl, rfl, LeV.of_force rfl (by rw [part_eq c1 c2 c3 (if_neg (Bool.eq_false_iff.1 c4)), if_neg (Bool.eq_false_iff.1 c8), if_neg (Bool.eq_false_iff.1 c9), if_neg (Bool.eq_false_iff.1 c10)] <;> rfl)⟩
theorem pc_cc1 (x : Int) (n v : List UInt8) (xs : List (List D)) (lv p : Int) (d : Bool) :
  HCall Tryz.prog J 217 ([.agg [.d (.int .i64 x), .d (.str n), .d (.str v), .d (.vec 4 xs)], .one (.d (.int .i64 lv)), .one (.ptr 0 0), .one (.ptr 1 0)]) ([[.d (.int .i64 p)], [.d (.bool d)]]) ([]) ([]) (isH (.one (.d (.bool (decide (up1 p ≤ 100))))) ([[.d (.int .i64 (up1 p))], [.d (.bool (d || decide (lv > 20)))]]) ([]) ([])) := by
 refine HCall.ofD tOk ⟨2, 0, 0⟩ (fn := Tryz.f217) Tryz.func217 (by kernel_rfl) rfl (Nat.le_of_ble_eq_true rfl) (fun E => ?_)
 refine W.seq ?_
 refine W.region ?_
 refine S.box rfl rfl rfl rfl ?_
 refine S.pure tOk zOk rfl rfl rfl ?_
 refine thenK_n ?_
 refine W.seq ?_
 refine W.region ?_
 refine S.pure tOk zOk rfl rfl rfl ?_
 refine S.pure tOk zOk rfl rfl rfl ?_
 refine S.store tOk rfl rfl rfl rfl rfl rfl rfl rfl ?_
 refine thenK_n ?_
 refine W.seq ?_
 refine W.region ?_
 refine S.pure tOk zOk rfl rfl rfl ?_
 refine S.pure tOk zOk rfl rfl rfl ?_
 refine S.pureG tOk zOk rfl rfl tg (fun _ => rfl) rfl ?_
 refine S.pureG tOk zOk rfl rfl tg (fun _ => rfl) rfl ?_
 refine S.pickOr tOk zOk rfl rfl tg ?_
 refine S.store tOk rfl rfl rfl rfl rfl rfl rfl rfl ?_
 refine thenK_n ?_
 refine W.seq ?_
 refine W.region ?_
 refine S.pure tOk zOk rfl rfl rfl ?_
 refine S.pure tOk zOk rfl rfl rfl ?_
 refine S.pure tOk zOk rfl rfl rfl ?_
 refine thenK_n ?_
 refine W.ret ?_
 exact ⟨_, rfl, rfl, LeG.refl _, rfl, rfl, rfl⟩
theorem pc_cc2 (x : Int) (n v : List UInt8) (xs : List (List D)) (hn : n.length < 4294967000) (hv : v.length < 4294967000) (lv e : Int) :
  HCall Tryz.prog J 218 ([.agg [.d (.int .i64 x), .d (.str n), .d (.str v), .d (.vec 4 xs)], .one (.d (.int .i64 lv)), .one (.ptr 0 0)]) ([[.d (.int .i64 e)]]) ([]) ([]) (isH (.one (.d (.bool (partP x n v (xs.length : Int) == 0)))) ([[.d (.int .i64 (partP x n v (xs.length : Int)))]]) ([]) ([])) := by
 refine HCall.ofD tOk ⟨1, 0, 0⟩ (fn := Tryz.f218) Tryz.func218 (by kernel_rfl) rfl (Nat.le_of_ble_eq_true rfl) (fun E => ?_)
 refine W.seq ?_
 refine W.region ?_
 refine S.box rfl rfl rfl rfl ?_
 refine S.pure tOk zOk rfl rfl rfl ?_
 refine thenK_n ?_
 refine W.seq ?_
 refine W.region ?_
 refine S.pure tOk zOk rfl rfl rfl ?_
 refine S.call rfl rfl rfl rfl rfl (pc_ver_partFault x n v xs hn hv) ?_
 refine S.store tOk rfl rfl rfl rfl rfl rfl rfl rfl ?_
 refine thenK_n ?_
 refine W.seq ?_
 refine W.region ?_
 refine S.pure tOk zOk rfl rfl rfl ?_
 refine S.pure tOk zOk rfl rfl rfl ?_
 refine S.pure tOk zOk rfl rfl rfl ?_
 refine thenK_n ?_
 refine W.ret ?_
 exact ⟨_, rfl, rfl, LeG.refl _, rfl, rfl, rfl⟩
theorem pc_walk1s (c : CT) (lv : Int) (p : Int) (d : Bool) (hc : CtBig c) (ih : ∀ a ∈ c.l, ∀ (lv  : Int) (p : Int) (d : Bool), CtBig a → HCall Tryz.prog J 216 [ctV a, .one (.d (.int .i64 lv)), .one (.clo 217 [.ptr 0 0, .ptr 1 0])] [[.d (.int .i64 p)], [.d (.bool d)]] [] [] (isH (.one (.d (.bool (visit cc1 a lv (p, d)).1))) [[.d (.int .i64 (visit cc1 a lv (p, d)).2.1)], [.d (.bool (visit cc1 a lv (p, d)).2.2)]] [] [])) :
  HCall Tryz.prog J 216 ([ctV c, .one (.d (.int .i64 lv)), .one (.clo 217 [.ptr 0 0, .ptr 1 0])]) ([[.d (.int .i64 p)], [.d (.bool d)]]) ([]) ([]) (isH (.one (.d (.bool (visit cc1 c lv (p, d)).1))) ([[.d (.int .i64 (visit cc1 c lv (p, d)).2.1)], [.d (.bool (visit cc1 c lv (p, d)).2.2)]]) ([]) ([])) := by
 unfold ctV
 rw [ds_map]
 have hlen : ((c.l.map CT.d).length : Int) = (c.l.length : Int) := by rw [List.length_map]
 refine HCall.ofD tOk ⟨2, 0, 0⟩ (fn := Tryz.f216) Tryz.func216 (by kernel_rfl) rfl (Nat.le_of_ble_eq_true rfl) (fun E => ?_)
 refine W.seq ?_
 refine W.region ?_
 refine S.box rfl rfl rfl rfl ?_
 refine S.pure tOk zOk rfl rfl rfl ?_
 refine thenK_n ?_
 refine W.seq ?_
 refine W.seq ?_
 refine W.region ?_
 refine S.pure tOk zOk rfl rfl rfl ?_
 refine S.pure tOk zOk rfl rfl rfl ?_
 refine S.pure tOk zOk rfl rfl rfl ?_
 refine S.hcallD rfl rfl rfl rfl ((pc_cc1 c.k c.n c.v _ lv p d).frameD [0, 1] [] [] rfl rfl rfl rfl rfl rfl rfl rfl rfl) ?_
 refine S.pure tOk zOk rfl rfl rfl ?_
 refine thenK_n ?_
 refine W.cond rfl (fun c1 => ?_) (fun c1 => ?_)
 ·skip
  have hf : (cc1 c lv (p, d)).1 = false := by simpa [cc1, CT.part, hlen] using c1
  have hv := visit_no hf
  refine W.seq ?_
  refine W.region ?_
  refine S.pure tOk zOk rfl rfl rfl ?_
  refine thenK_n ?_
  refine W.ret ?_
  refine thenK_r ?_
  exact ⟨_, rfl, rfl, (by rw [hv]; exact LeG.refl _), (by rw [hv]; rfl), rfl, rfl⟩
 ·skip
  have hf : (cc1 c lv (p, d)).1 = true := by simpa [cc1, CT.part, hlen] using c1
  have hbig := hc.ll
  refine W.skip ?_
  refine thenK_n ?_
  refine W.seq ?_
  refine W.seq ?_
  refine W.region ?_
  refine S.pure tOk zOk rfl rfl rfl ?_
  refine S.pure tOk zOk rfl rfl rfl ?_
  refine S.pure tOk zOk rfl rfl rfl ?_
  refine S.pure tOk zOk rfl rfl rfl ?_
  refine thenK_n ?_
  refine W.block ?_
  refine W.loop (fun k st => ∃ i : Nat, ∃ p1 : Int, ∃ d1 : Bool, i ≤ c.l.length ∧ visits (fun a => visit cc1 a (up1 lv)) (c.l.take i) (cc1 c lv (p, d)).2 = (true, (p1, d1)) ∧ k = c.l.length - i ∧ ∃ t b2 r2 m2, st = ⟨t, [[.d (.int .i64 p1)], [.d (.bool d1)], [.d (.int .i64 c.k), .d (.str c.n), .d (.str c.v), .d (.vec 4 (c.l.map CT.d))]] ++ b2, [] ++ r2, [] ++ m2⟩ ∧ holdsL t [(1, .one (.d (.int .i64 lv))), (2, .one (.clo 217 [.ptr 0 0, .ptr 1 0])), (15, .one (.d (.vec 4 (c.l.map CT.d)))), (16, .one (.d (.int .i64 ((c.l.map CT.d).length : Int)))), (17, .one (.d (.int .i64 (i : Int))))]) (c.l.length) ⟨0, _, _, Nat.zero_le _, visits_nil, rfl, _, _, _, _, rfl, rfl, rfl, rfl, rfl, rfl, trivial⟩ ?_
  rintro k0 _ ⟨i, p1, d1, f0_0, f0_1, rfl, t0, bb0, rr0, mm0, rfl, hh0⟩
  refine W.keepR _ _ _ _ _ _ _ hh0 rfl ?_
  refine W.seq ?_
  refine W.region ?_
  refine S.pure tOk zOk rfl rfl rfl ?_
  refine thenK_n ?_
  refine W.seq ?_
  refine W.cond rfl (fun c2 => ?_) (fun c2 => ?_)
  ·skip
   have hi := row_lt c2
   refine W.skip ?_
   refine thenK_n ?_
   refine W.seq ?_
   refine W.block ?_
   refine W.seq ?_
   refine W.region ?_
   refine S.pureE tOk zOk rfl (row_ok hi) (getD_map_ct hi) rfl ?_
   refine S.pure tOk zOk rfl rfl rfl ?_
   refine S.alloc tOk rfl rfl rfl rfl ?_
   refine S.store tOk rfl rfl rfl rfl rfl rfl rfl rfl ?_
   refine thenK_n ?_
   refine W.seq ?_
   refine W.region ?_
   refine S.pure tOk zOk rfl rfl rfl ?_
   refine S.pure tOk zOk rfl rfl rfl ?_
   refine S.pure tOk zOk rfl rfl rfl ?_
   refine S.pure tOk zOk rfl rfl rfl ?_
   refine S.hcallD rfl rfl rfl rfl ((ih (c.l.getD i CT.z) (mem_ct hi) (up1 lv) p1 d1 (hc.l _ (mem_ct hi))).frameD [0, 1] [] [] rfl rfl rfl rfl rfl rfl rfl rfl rfl) ?_
   refine S.pure tOk zOk rfl rfl rfl ?_
   refine thenK_n ?_
   refine W.cond rfl (fun c3 => ?_) (fun c3 => ?_)
   ·skip
    have hv := visit_stop hf hi f0_1 (by simpa using c3)
    refine W.seq ?_
    refine W.region ?_
    refine S.pure tOk zOk rfl rfl rfl ?_
    refine thenK_n ?_
    refine W.ret ?_
    refine blockK_r ?_
    refine thenK_r ?_
    refine thenK_r ?_
    refine blockK_r ?_
    refine thenK_r ?_
    exact ⟨_, rfl, rfl, (by rw [hv]; exact LeG.refl _), (by rw [hv]; rfl), rfl, rfl⟩
   ·skip
    refine W.skip ?_
    refine blockK_n ?_
    refine thenK_n ?_
    refine W.region ?_
    refine S.pure tOk zOk rfl rfl rfl ?_
    refine S.pure tOk zOk rfl rfl rfl ?_
    refine loop_n (c.l.length - (i + 1)) (by omega) ⟨i + 1, _, _, hi, visit_next hi f0_1 (by simpa using c3), rfl, _, _, _, _, rfl, rfl, rfl, rfl, rfl, inc_i64 (by omega), trivial⟩
  ·skip
   have hi := row_ge c2
   have hv := visit_all hf hi f0_1
   refine W.exit ?_
   refine thenK_e ?_
   refine thenK_e ?_
   refine blockK_x ?_
   refine thenK_n ?_
   refine W.seq ?_
   refine W.region ?_
   refine S.pure tOk zOk rfl rfl rfl ?_
   refine thenK_n ?_
   refine W.ret ?_
   exact ⟨_, rfl, rfl, (by rw [hv]; exact LeG.refl _), (by rw [hv]; rfl), rfl, rfl⟩
theorem pc_walk1 : ∀ (n : Nat) (c : CT), c.w ≤ n → ∀ (lv : Int) (p : Int) (d : Bool), CtBig c → HCall Tryz.prog J 216 [ctV c, .one (.d (.int .i64 lv)), .one (.clo 217 [.ptr 0 0, .ptr 1 0])] [[.d (.int .i64 p)], [.d (.bool d)]] [] [] (isH (.one (.d (.bool (visit cc1 c lv (p, d)).1))) [[.d (.int .i64 (visit cc1 c lv (p, d)).2.1)], [.d (.bool (visit cc1 c lv (p, d)).2.2)]] [] [])
  | 0, c, h => by have := c.pos; omega
  | n + 1, c, h => fun lv p d hc => pc_walk1s c lv p d hc (fun a ha => pc_walk1 n a (by have := CT.sz ha; omega))
theorem pc_walk2s (c : CT) (lv : Int) (e : Int) (hc : CtBig c) (ih : ∀ a ∈ c.l, ∀ (lv  : Int) (e : Int), CtBig a → HCall Tryz.prog J 216 [ctV a, .one (.d (.int .i64 lv)), .one (.clo 218 [.ptr 0 0])] [[.d (.int .i64 e)]] [] [] (isH (.one (.d (.bool (visit cc2 a lv e).1))) [[.d (.int .i64 (visit cc2 a lv e).2)]] [] [])) :
  HCall Tryz.prog J 216 ([ctV c, .one (.d (.int .i64 lv)), .one (.clo 218 [.ptr 0 0])]) ([[.d (.int .i64 e)]]) ([]) ([]) (isH (.one (.d (.bool (visit cc2 c lv e).1))) ([[.d (.int .i64 (visit cc2 c lv e).2)]]) ([]) ([])) := by
 unfold ctV
 rw [ds_map]
 have hlen : ((c.l.map CT.d).length : Int) = (c.l.length : Int) := by rw [List.length_map]
 have hcl2 := pc_cc2 c.k c.n c.v (c.l.map CT.d) hc.n hc.v lv e
 rw [hlen] at hcl2
 refine HCall.ofD tOk ⟨1, 0, 0⟩ (fn := Tryz.f216) Tryz.func216 (by kernel_rfl) rfl (Nat.le_of_ble_eq_true rfl) (fun E => ?_)
 refine W.seq ?_
 refine W.region ?_
 refine S.box rfl rfl rfl rfl ?_
 refine S.pure tOk zOk rfl rfl rfl ?_
 refine thenK_n ?_
 refine W.seq ?_
 refine W.seq ?_
 refine W.region ?_
 refine S.pure tOk zOk rfl rfl rfl ?_
 refine S.pure tOk zOk rfl rfl rfl ?_
 refine S.pure tOk zOk rfl rfl rfl ?_
 refine S.hcallD rfl rfl rfl rfl (hcl2.frameD [0] [] [] rfl rfl rfl rfl rfl rfl rfl rfl rfl) ?_
 refine S.pure tOk zOk rfl rfl rfl ?_
 refine thenK_n ?_
 refine W.cond rfl (fun c1 => ?_) (fun c1 => ?_)
 ·skip
  have hf : (cc2 c lv e).1 = false := by simpa [cc2, CT.part, hlen] using c1
  have hv := visit_no hf
  refine W.seq ?_
  refine W.region ?_
  refine S.pure tOk zOk rfl rfl rfl ?_
  refine thenK_n ?_
  refine W.ret ?_
  refine thenK_r ?_
  exact ⟨_, rfl, rfl, (by rw [hv]; exact LeG.refl _), (by rw [hv]; rfl), rfl, rfl⟩
 ·skip
  have hf : (cc2 c lv e).1 = true := by simpa [cc2, CT.part, hlen] using c1
  have hbig := hc.ll
  refine W.skip ?_
  refine thenK_n ?_
  refine W.seq ?_
  refine W.seq ?_
  refine W.region ?_
  refine S.pure tOk zOk rfl rfl rfl ?_
  refine S.pure tOk zOk rfl rfl rfl ?_
  refine S.pure tOk zOk rfl rfl rfl ?_
  refine S.pure tOk zOk rfl rfl rfl ?_
  refine thenK_n ?_
  refine W.block ?_
  refine W.loop (fun k st => ∃ i : Nat, ∃ e1 : Int, i ≤ c.l.length ∧ visits (fun a => visit cc2 a (up1 lv)) (c.l.take i) (cc2 c lv e).2 = (true, e1) ∧ k = c.l.length - i ∧ ∃ t b2 r2 m2, st = ⟨t, [[.d (.int .i64 e1)], [.d (.int .i64 c.k), .d (.str c.n), .d (.str c.v), .d (.vec 4 (c.l.map CT.d))]] ++ b2, [] ++ r2, [] ++ m2⟩ ∧ holdsL t [(1, .one (.d (.int .i64 lv))), (2, .one (.clo 218 [.ptr 0 0])), (15, .one (.d (.vec 4 (c.l.map CT.d)))), (16, .one (.d (.int .i64 ((c.l.map CT.d).length : Int)))), (17, .one (.d (.int .i64 (i : Int))))]) (c.l.length) ⟨0, _, Nat.zero_le _, visits_nil, rfl, _, _, _, _, rfl, rfl, rfl, rfl, rfl, rfl, trivial⟩ ?_
  rintro k0 _ ⟨i, e1, f0_0, f0_1, rfl, t0, bb0, rr0, mm0, rfl, hh0⟩
  refine W.keepR _ _ _ _ _ _ _ hh0 rfl ?_
  refine W.seq ?_
  refine W.region ?_
  refine S.pure tOk zOk rfl rfl rfl ?_
  refine thenK_n ?_
  refine W.seq ?_
  refine W.cond rfl (fun c2 => ?_) (fun c2 => ?_)
  ·skip
   have hi := row_lt c2
   refine W.skip ?_
   refine thenK_n ?_
   refine W.seq ?_
   refine W.block ?_
   refine W.seq ?_
   refine W.region ?_
   refine S.pureE tOk zOk rfl (row_ok hi) (getD_map_ct hi) rfl ?_
   refine S.pure tOk zOk rfl rfl rfl ?_
   refine S.alloc tOk rfl rfl rfl rfl ?_
   refine S.store tOk rfl rfl rfl rfl rfl rfl rfl rfl ?_
   refine thenK_n ?_
   refine W.seq ?_
   refine W.region ?_
   refine S.pure tOk zOk rfl rfl rfl ?_
   refine S.pure tOk zOk rfl rfl rfl ?_
   refine S.pure tOk zOk rfl rfl rfl ?_
   refine S.pure tOk zOk rfl rfl rfl ?_
   refine S.hcallD rfl rfl rfl rfl ((ih (c.l.getD i CT.z) (mem_ct hi) (up1 lv) e1 (hc.l _ (mem_ct hi))).frameD [0] [] [] rfl rfl rfl rfl rfl rfl rfl rfl rfl) ?_
   refine S.pure tOk zOk rfl rfl rfl ?_
   refine thenK_n ?_
   refine W.cond rfl (fun c3 => ?_) (fun c3 => ?_)
   ·skip
    have hv := visit_stop hf hi f0_1 (by simpa using c3)
    refine W.seq ?_
    refine W.region ?_
    refine S.pure tOk zOk rfl rfl rfl ?_
    refine thenK_n ?_
    refine W.ret ?_
    refine blockK_r ?_
    refine thenK_r ?_
    refine thenK_r ?_
    refine blockK_r ?_
    refine thenK_r ?_
    exact ⟨_, rfl, rfl, (by rw [hv]; exact LeG.refl _), (by rw [hv]; rfl), rfl, rfl⟩
   ·skip
    refine W.skip ?_
    refine blockK_n ?_
    refine thenK_n ?_
    refine W.region ?_
    refine S.pure tOk zOk rfl rfl rfl ?_
    refine S.pure tOk zOk rfl rfl rfl ?_
    refine loop_n (c.l.length - (i + 1)) (by omega) ⟨i + 1, _, hi, visit_next hi f0_1 (by simpa using c3), rfl, _, _, _, _, rfl, rfl, rfl, rfl, rfl, inc_i64 (by omega), trivial⟩
  ·skip
   have hi := row_ge c2
   have hv := visit_all hf hi f0_1
   refine W.exit ?_
   refine thenK_e ?_
   refine thenK_e ?_
   refine blockK_x ?_
   refine thenK_n ?_
   refine W.seq ?_
   refine W.region ?_
   refine S.pure tOk zOk rfl rfl rfl ?_
   refine thenK_n ?_
   refine W.ret ?_
   exact ⟨_, rfl, rfl, (by rw [hv]; exact LeG.refl _), (by rw [hv]; rfl), rfl, rfl⟩
theorem pc_walk2 : ∀ (n : Nat) (c : CT), c.w ≤ n → ∀ (lv : Int) (e : Int), CtBig c → HCall Tryz.prog J 216 [ctV c, .one (.d (.int .i64 lv)), .one (.clo 218 [.ptr 0 0])] [[.d (.int .i64 e)]] [] [] (isH (.one (.d (.bool (visit cc2 c lv e).1))) [[.d (.int .i64 (visit cc2 c lv e).2)]] [] [])
  | 0, c, h => by have := c.pos; omega
  | n + 1, c, h => fun lv e hc => pc_walk2s c lv e hc (fun a ha => pc_walk2 n a (by have := CT.sz ha; omega))
theorem pc_ver_CheckCond (c : CT) (hc : CtBig c) :
  PureCall Tryz.prog J 177 [ctV c] (.one (.d (.int .i64 (checkP c)))) := by
 refine PureCall.of_body tOk (fn := Tryz.f177) Tryz.func177 (by kernel_rfl) rfl (Nat.le_of_ble_eq_true rfl) (fun E => ?_)
 refine W.seq ?_
 refine W.region ?_
 refine S.box rfl rfl rfl rfl ?_
 refine S.pure tOk zOk rfl rfl rfl ?_
 refine thenK_n ?_
 refine W.seq ?_
 refine W.region ?_
 refine S.alloc tOk rfl rfl rfl rfl ?_
 refine S.alloc tOk rfl rfl rfl rfl ?_
 refine S.store tOk rfl rfl rfl rfl rfl rfl rfl rfl ?_
 refine S.store tOk rfl rfl rfl rfl rfl rfl rfl rfl ?_
 refine thenK_n ?_
 refine W.seq ?_
 refine W.region ?_
 refine S.pure tOk zOk rfl rfl rfl ?_
 refine S.makeFunc rfl rfl rfl ?_
 refine S.hcallD rfl rfl rfl rfl ((pc_walk1 c.w c (Nat.le_refl _) 0 0 false hc).frameD [1, 2] [] [] rfl rfl rfl rfl rfl rfl rfl rfl rfl) ?_
 refine thenK_n ?_
 refine W.seq ?_
 refine W.seq ?_
 refine W.region ?_
 refine S.pure tOk zOk rfl rfl rfl ?_
 refine S.pure tOk zOk rfl rfl rfl ?_
 refine thenK_n ?_
 refine W.cond rfl (fun c1 => ?_) (fun c1 => ?_)
 ·skip
  refine W.seq ?_
  refine W.region ?_
  refine S.pure tOk zOk rfl rfl rfl ?_
  refine thenK_n ?_
  refine W.ret ?_
  refine thenK_r ?_
  exact ⟨_, rfl, rfl, LeV.of_force rfl (by (try simp only [List.toList_toArray, Int.toNat_zero] at c1); simp only [checkP, c1, Bool.false_eq_true, if_false, if_true, reduceIte] <;> rfl)⟩
 ·skip
  refine W.skip ?_
  refine thenK_n ?_
  refine W.seq ?_
  refine W.region ?_
  refine S.alloc tOk rfl rfl rfl rfl ?_
  refine S.store tOk rfl rfl rfl rfl rfl rfl rfl rfl ?_
  refine thenK_n ?_
  refine W.seq ?_
  refine W.region ?_
  refine S.pure tOk zOk rfl rfl rfl ?_
  refine S.makeFunc rfl rfl rfl ?_
  refine S.hcallD rfl rfl rfl rfl ((pc_walk2 c.w c (Nat.le_refl _) 0 0 hc).frameD [3] [] [] rfl rfl rfl rfl rfl rfl rfl rfl rfl) ?_
  refine thenK_n ?_
  refine W.seq ?_
  refine W.seq ?_
  refine W.region ?_
  refine S.pure tOk zOk rfl rfl rfl ?_
  refine S.pure tOk zOk rfl rfl rfl ?_
  refine S.pure tOk zOk rfl rfl rfl ?_
  refine S.pureG tOk zOk rfl rfl tg (fun _ => rfl) rfl ?_
  refine S.pickAnd tOk zOk rfl rfl tg ?_
  refine thenK_n ?_
  refine W.cond rfl (fun c2 => ?_) (fun c2 => ?_)
  ·skip
   refine W.seq ?_
   refine W.region ?_
   refine S.pure tOk zOk rfl rfl rfl ?_
   refine thenK_n ?_
   refine W.ret ?_
   refine thenK_r ?_
   exact ⟨_, rfl, rfl, LeV.of_force rfl (by (try simp only [List.toList_toArray, Int.toNat_zero] at c1 c2); simp only [checkP, c1, c2, Bool.false_eq_true, if_false, if_true, reduceIte] <;> rfl)⟩
  ·skip
   refine W.skip ?_
   refine thenK_n ?_
   refine W.seq ?_
   refine W.region ?_
   refine S.pure tOk zOk rfl rfl rfl ?_
   refine S.pure tOk zOk rfl rfl rfl ?_
   refine thenK_n ?_
   refine W.ret ?_
   exact ⟨_, rfl, rfl, LeV.of_force rfl (by (try simp only [List.toList_toArray, Int.toNat_zero] at c1 c2); simp only [checkP, c1, c2, Bool.false_eq_true, if_false, if_true, reduceIte] <;> rfl)⟩
end Go.Proofs.YtcchfmilleffjaaGreatDoor
namespace Go.Proofs.YtcchfmilleffjaaGreatDoor
open Go
structure Stg where
  k : List UInt8
  v : List UInt8
def Stg.z : Stg := ⟨[], []⟩
def stgD (s : Stg) : List D := [.str s.k, .str s.v]
def leS (a b : List UInt8) : Bool := Op.bytesLess a b || a == b
def stgAt (names : List UInt8 → Bool) (l : List Stg) (i : Nat) : Int :=
  if !names (l.getD i Stg.z).k then 5 else if !valueB (l.getD i Stg.z).v then 2 else if decide ((i : Int) > 0) && leS (l.getD i Stg.z).k (l.getD (i - 1) Stg.z).k then 7 else 0
def listE (names : List UInt8 → Bool) (l : List Stg) : Int := firstNe ((List.range l.length).map (stgAt names l))
theorem range_take {l : List Stg} {f : Nat → Int} {i : Nat} (hi : i < l.length) (h : (((List.range l.length).map f).take i).all (· == 0) = true) (c : f i = 0) : (((List.range l.length).map f).take (i + 1)).all (· == 0) = true :=
  all_take_succ (d := 0) (by simpa using hi) h (by simp [List.getD_eq_getElem?_getD, hi, c])
theorem listE_hit {names : List UInt8 → Bool} {l : List Stg} {i : Nat} {e : Int} (hi : i < l.length) (h : (((List.range l.length).map (stgAt names l)).take i).all (· == 0) = true) (c : stgAt names l i = e) (he : e ≠ 0) : listE names l = e := by
  have hg : ((List.range l.length).map (stgAt names l)).getD i 0 = e := by simp [List.getD_eq_getElem?_getD, hi, c]
  unfold listE
  rw [firstNe_hit (by simpa using hi) h (by rw [hg]; exact he), hg]
theorem listE_none {names : List UInt8 → Bool} {l : List Stg} {i : Nat} (hi : l.length ≤ i) (h : (((List.range l.length).map (stgAt names l)).take i).all (· == 0) = true) : listE names l = 0 := firstNe_none (by simpa using hi) h
abbrev Tab := List (List UInt8 × List UInt8)
def beqS (a b : List UInt8) : Bool := a == b
def tabTo (l : List Stg) : Nat → Tab
  | 0 => []
  | i + 1 => setL beqS (tabTo l i) (l.getD i Stg.z).k (l.getD i Stg.z).v
def tabOf (l : List Stg) : Tab := tabTo l l.length
def tabD (t : Tab) : List (DV × DV) := mapOf D.str (fun v : List UInt8 => DV.one (.str v)) t
theorem keyS : KeyOk .string D.str (fun s : List UInt8 => Value.string ⟨s.toArray⟩) beqS := keyStr
end Go.Proofs.YtcchfmilleffjaaGreatDoor
namespace Go.Proofs.YtcchfmilleffjaaGreatDoor
open Go
open Go.RowKit
attribute [local irreducible] rangeB pathB nameB valueB visit visits checkP
theorem stg_at {l : List Stg} {i : Nat} (hi : i < l.length) : l.getD i Stg.z ∈ l := by
  rw [List.getD_eq_getElem?_getD, List.getElem?_eq_getElem hi]; exact List.getElem_mem hi
theorem stg_5 {φ : List UInt8 → Bool} {l : List Stg} {i : Nat} (h : (!φ (l.getD i Stg.z).k) = true) : stgAt φ l i = 5 := if_pos h
theorem stg_2 {φ : List UInt8 → Bool} {l : List Stg} {i : Nat} (h : (!φ (l.getD i Stg.z).k) = false) (h2 : (!valueB (l.getD i Stg.z).v) = true) : stgAt φ l i = 2 := by
  unfold stgAt; rw [if_neg (by rw [h]; simp), if_pos h2]
theorem stg_7 {φ : List UInt8 → Bool} {l : List Stg} {i : Nat} (h : (!φ (l.getD i Stg.z).k) = false) (h2 : (!valueB (l.getD i Stg.z).v) = false) (h3 : (decide ((i : Int) > 0) && leS (l.getD i Stg.z).k (l.getD (i - 1) Stg.z).k) = true) : stgAt φ l i = 7 := by
  unfold stgAt; rw [if_neg (by rw [h]; simp), if_neg (by rw [h2]; simp), if_pos h3]
theorem stg_0 {φ : List UInt8 → Bool} {l : List Stg} {i : Nat} (h : (!φ (l.getD i Stg.z).k) = false) (h2 : (!valueB (l.getD i Stg.z).v) = false) (h3 : (decide ((i : Int) > 0) && leS (l.getD i Stg.z).k (l.getD (i - 1) Stg.z).k) = false) : stgAt φ l i = 0 := by
  unfold stgAt; rw [if_neg (by rw [h]; simp), if_neg (by rw [h2]; simp), if_neg (by rw [h3]; simp)]
theorem pc_sF (φ : List UInt8 → Bool) (f : Nat) (hf : ∀ s : List UInt8, s.length < 4294967000 → PureCall Tryz.prog J f [.one (.d (.str s))] (.one (.d (.bool (φ s))))) (l : List Stg) (hn : l.length ≤ 4294967000) (hs : ∀ s ∈ l, s.k.length < 4294967000 ∧ s.v.length < 4294967000) :
  PureCall Tryz.prog J 178 [.one (.d (.vec 2 (l.map stgD))), .one (.d (.fn f))] (.one (.d (.int .i64 (listE φ l)))) := by
 refine PureCall.of_body tOk (fn := Tryz.f178) Tryz.func178 (by kernel_rfl) rfl (Nat.le_of_ble_eq_true rfl) (fun E => ?_)
 refine W.seq ?_
 refine W.region ?_
 refine S.pure tOk zOk rfl rfl rfl ?_
 refine thenK_n ?_
 refine W.seq ?_
 refine W.seq ?_
 refine W.region ?_
 refine S.pure tOk zOk rfl rfl rfl ?_
 refine S.pure tOk zOk rfl rfl rfl ?_
 refine S.pure tOk zOk rfl rfl rfl ?_
 refine thenK_n ?_
 refine W.block ?_
 refine W.loop (fun k st => ∃ i : Nat, i ≤ l.length ∧ (((List.range l.length).map (stgAt φ l)).take i).all (· == 0) = true ∧ k = l.length - i ∧ ∃ t b2 r2 m2, st = ⟨t, [] ++ b2, [] ++ r2, [] ++ m2⟩ ∧ holdsL t [(0, .one (.d (.vec 2 (l.map stgD)))), (1, .one (.d (.fn f))), (7, .one (.d (.vec 2 (l.map stgD)))), (8, .one (.d (.int .i64 ((l.map stgD).length : Int)))), (9, .one (.d (.int .i64 (i : Int))))]) (l.length) ⟨0, Nat.zero_le _, by simp, rfl, _, _, _, _, rfl, rfl, rfl, rfl, rfl, rfl, trivial⟩ ?_
 rintro k0 _ ⟨i, f0_0, f0_1, rfl, t0, bb0, rr0, mm0, rfl, hh0⟩
 refine W.keepR _ _ _ _ _ _ _ hh0 rfl ?_
 refine W.seq ?_
 refine W.region ?_
 refine S.pure tOk zOk rfl rfl rfl ?_
 refine thenK_n ?_
 refine W.seq ?_
 refine W.cond rfl (fun c1 => ?_) (fun c1 => ?_)
 ·skip
  have hi := row_lt c1
  have hx := hs _ (stg_at hi)
  refine W.skip ?_
  refine thenK_n ?_
  refine W.seq ?_
  refine W.block ?_
  refine W.seq ?_
  refine W.region ?_
  refine S.pure tOk zOk rfl rfl rfl ?_
  refine S.pureE tOk zOk rfl (row_ok hi) (row_at Stg.z hi) rfl ?_
  refine S.pure tOk zOk rfl rfl rfl ?_
  refine S.alloc tOk rfl rfl rfl rfl ?_
  refine S.pure tOk zOk rfl rfl rfl ?_
  refine S.store tOk rfl rfl rfl rfl rfl rfl rfl rfl ?_
  refine thenK_n ?_
  refine W.block ?_
  refine W.seq ?_
  refine W.region ?_
  refine S.pure tOk zOk rfl rfl rfl ?_
  refine S.pure tOk zOk rfl rfl rfl ?_
  refine S.pure tOk zOk rfl rfl rfl ?_
  refine S.call rfl rfl rfl rfl rfl (hf (l.getD i Stg.z).k hx.1) ?_
  refine S.pure tOk zOk rfl rfl rfl ?_
  refine S.pure tOk zOk rfl rfl rfl ?_
  refine thenK_n ?_
  refine W.cond rfl (fun c2 => ?_) (fun c2 => ?_)
  ·skip
   refine W.seq ?_
   refine W.region ?_
   refine S.pure tOk zOk rfl rfl rfl ?_
   refine thenK_n ?_
   refine W.ret ?_
   refine blockK_r ?_
   refine blockK_r ?_
   refine thenK_r ?_
   refine thenK_r ?_
   refine blockK_r ?_
   refine thenK_r ?_
   exact ⟨_, rfl, rfl, LeV.of_eq (congrArg (fun x => V.one (C.d (D.int .i64 x))) (listE_hit hi f0_1 (stg_5 c2) (by decide)).symm)⟩
  ·skip
   refine W.seq ?_
   refine W.region ?_
   refine S.pure tOk zOk rfl rfl rfl ?_
   refine S.pure tOk zOk rfl rfl rfl ?_
   refine S.call rfl rfl rfl rfl rfl (pc_ver_IsValue (l.getD i Stg.z).v (by omega)) ?_
   refine S.pure tOk zOk rfl rfl rfl ?_
   refine S.pure tOk zOk rfl rfl rfl ?_
   refine thenK_n ?_
   refine W.cond rfl (fun c3 => ?_) (fun c3 => ?_)
   ·skip
    refine W.seq ?_
    refine W.region ?_
    refine S.pure tOk zOk rfl rfl rfl ?_
    refine thenK_n ?_
    refine W.ret ?_
    refine blockK_r ?_
    refine blockK_r ?_
    refine thenK_r ?_
    refine thenK_r ?_
    refine blockK_r ?_
    refine thenK_r ?_
    exact ⟨_, rfl, rfl, LeV.of_eq (congrArg (fun x => V.one (C.d (D.int .i64 x))) (listE_hit hi f0_1 (stg_2 c2 c3) (by decide)).symm)⟩
   ·skip
    refine W.seq ?_
    refine W.regionD mixed (by kernel_rfl) ?_
    refine D.pure tOk zOk rfl rfl rfl rfl ?_
    refine D.pure tOk zOk rfl rfl rfl rfl ?_
    refine D.pure tOk zOk rfl rfl rfl rfl ?_
    refine D.pureG tOk zOk rfl rfl rfl tg (fun _ => rfl) rfl ?_
    refine D.pureG tOk zOk rfl rfl rfl tg (fun _ => rfl) rfl ?_
    refine D.pureG tOk zOk rfl rfl rfl tg (fun _ => rfl) rfl ?_
    refine D.pureG tOk zOk rfl rfl rfl tg (fun _ => rfl) rfl ?_
    refine D.pureG tOk zOk rfl rfl rfl tg (fun _ => rfl) rfl ?_
    refine D.pureEG tOk zOk rfl rfl rfl tg (fun h => pred_ok h hi (by omega)) (row_pred Stg.z hi (by omega)) rfl ?_
    refine D.pureG tOk zOk rfl rfl rfl tg (fun _ => rfl) rfl ?_
    refine D.pureG tOk zOk rfl rfl rfl tg (fun _ => rfl) rfl ?_
    refine D.pureG tOk zOk rfl rfl rfl tg (fun _ => rfl) rfl ?_
    refine D.pickAnd tOk zOk rfl rfl tg ?_
    refine D.pure tOk zOk rfl rfl rfl rfl ?_
    refine thenK_n ?_
    refine W.cond rfl (fun c4 => ?_) (fun c4 => ?_)
    ·skip
     refine W.seq ?_
     refine W.region ?_
     refine S.pure tOk zOk rfl rfl rfl ?_
     refine thenK_n ?_
     refine W.ret ?_
     refine blockK_r ?_
     refine blockK_r ?_
     refine thenK_r ?_
     refine thenK_r ?_
     refine blockK_r ?_
     refine thenK_r ?_
     exact ⟨_, rfl, rfl, LeV.of_eq (congrArg (fun x => V.one (C.d (D.int .i64 x))) (listE_hit hi f0_1 (stg_7 c2 c3 c4) (by decide)).symm)⟩
    ·skip
     refine W.skip ?_
     refine blockK_n ?_
     refine blockK_n ?_
     refine thenK_n ?_
     refine W.region ?_
     refine S.pure tOk zOk rfl rfl rfl ?_
     refine S.pure tOk zOk rfl rfl rfl ?_
     refine loop_n (l.length - (i + 1)) (by omega) ⟨i + 1, hi, range_take hi f0_1 (stg_0 c2 c3 c4), rfl, _, _, _, _, rfl, rfl, rfl, rfl, rfl, inc_i64 (by omega), trivial⟩
 ·skip
  have hi := row_ge c1
  refine W.exit ?_
  refine thenK_e ?_
  refine thenK_e ?_
  refine blockK_x ?_
  refine thenK_n ?_
  refine W.seq ?_
  refine W.region ?_
  refine S.pure tOk zOk rfl rfl rfl ?_
  refine thenK_n ?_
  refine W.ret ?_
  exact ⟨_, rfl, rfl, LeV.of_eq (congrArg (fun x => V.one (C.d (D.int .i64 x))) (listE_none hi f0_1).symm)⟩
theorem pc_sF_nil (f : Nat) :
  PureCall Tryz.prog J 178 [.one (.d .nilsl), .one (.d (.fn f))] (.one (.d (.int .i64 0))) := by
 refine PureCall.of_body tOk (fn := Tryz.f178) Tryz.func178 (by kernel_rfl) rfl (Nat.le_of_ble_eq_true rfl) (fun E => ?_)
 refine W.seq ?_
 refine W.region ?_
 refine S.pure tOk zOk rfl rfl rfl ?_
 refine thenK_n ?_
 refine W.seq ?_
 refine W.seq ?_
 refine W.region ?_
 refine S.pure tOk zOk rfl rfl rfl ?_
 refine S.pure tOk zOk rfl rfl rfl ?_
 refine S.pure tOk zOk rfl rfl rfl ?_
 refine thenK_n ?_
 refine W.block ?_
 refine W.rounds 1 ?_
 refine WR.succ ?_
 refine W.seq ?_
 refine W.region ?_
 refine S.pure tOk zOk rfl rfl rfl ?_
 refine thenK_n ?_
 refine W.seq ?_
 refine W.condF rfl rfl ?_
 refine W.exit ?_
 refine thenK_e ?_
 refine thenK_e ?_
 refine blockK_x ?_
 refine thenK_n ?_
 refine W.seq ?_
 refine W.region ?_
 refine S.pure tOk zOk rfl rfl rfl ?_
 refine thenK_n ?_
 refine W.ret ?_
 exact ⟨_, rfl, rfl, LeV.refl _⟩
theorem LeV.aggLast (a b c : C) (sz : Nat) : LeV (.agg [a, b, c, .d .nilsl]) (.agg [a, b, c, .d (.vec sz [])]) := fun im w v h => by
  cases h with | agg _ vs hl hx =>
  refine .agg _ _ hl (fun i q v hc hv => ?_)
  match i with
  | 0 => exact hx 0 q v hc hv
  | 1 => exact hx 1 q v hc hv
  | 2 => exact hx 2 q v hc hv
  | 3 =>
    simp at hc; subst hc
    have h1 := hx 3 _ v rfl hv
    cases h1 with | d _ _ h1 => cases h1 with | nilsl => exact .d _ _ (.empty _ _ _)
  | i + 4 => simp at hc
theorem PureCall.arg0 {P : Program} {J : Inv} {f : FuncId} {a a' r : V} {l : List V} (pc : PureCall P J f (a :: l) r) (h : LeV a' a) : PureCall P J f (a' :: l) r :=
  ⟨pc.enter, fun im w vs h1 h2 h3 h4 => pc.calls im w vs h1 h2 (by simpa using h3) (fun i u v hu hv => by
    cases i with
    | zero => simp at hu; subst hu; exact h im w v (h4 0 a' v rfl hv)
    | succ i => exact h4 (i + 1) u v (by simpa using hu) hv)⟩
theorem pc_CheckCond0 : PureCall Tryz.prog J 177 [.agg [.d (.int .i64 1), .d (.str []), .d (.str []), .d .nilsl]] (.one (.d (.int .i64 0))) := by
  have h := pc_ver_CheckCond (.mk 1 [] [] []) (.mk 1 [] [] [] (by decide) (by decide) (fun a ha => by cases ha) (by decide))
  rw [check_0] at h
  exact h.arg0 (LeV.aggLast _ _ _ 4)
theorem pc_Holds1 (x : D) :
  HCall Tryz.prog J 179 ([.one (.d x)]) ([]) ([]) ([]) (isH (.one (.clo 180 [.ptr 0 0])) ([[.d x]]) ([]) ([])) := by
 refine HCall.ofD tOk ⟨1, 0, 0⟩ (fn := Tryz.f179) Tryz.func179 (by kernel_rfl) rfl (Nat.le_of_ble_eq_true rfl) (fun E => ?_)
 refine W.seq ?_
 refine W.region ?_
 refine S.box rfl rfl rfl rfl ?_
 refine S.pure tOk zOk rfl rfl rfl ?_
 refine thenK_n ?_
 refine W.seq ?_
 refine W.region ?_
 refine S.makeFunc rfl rfl rfl ?_
 refine S.pure tOk zOk rfl rfl rfl ?_
 refine thenK_n ?_
 refine W.ret ?_
 exact ⟨_, rfl, rfl, LeG.refl _, rfl, rfl, rfl⟩
theorem pc_holds0 (l : List Stg) :
  HCall Tryz.prog J 182 ([.agg [.d (.int .i64 1), .d (.str []), .d (.str []), .d .nilsl], .one (.clo 180 [.ptr 0 0]), .one (.clo 180 [.ptr 1 0])]) ([[.d .nilsl], [.d (.vec 2 (l.map stgD))]]) ([]) ([]) (isH (.one (.d (.bool true))) ([[.d .nilsl], [.d (.vec 2 (l.map stgD))]]) ([]) ([])) := by
 refine HCall.ofD tOk ⟨2, 0, 0⟩ (fn := Tryz.f182) Tryz.func182 (by kernel_rfl) rfl (Nat.le_of_ble_eq_true rfl) (fun E => ?_)
 refine W.seq ?_
 refine W.region ?_
 refine S.box rfl rfl rfl rfl ?_
 refine S.box rfl rfl rfl rfl ?_
 refine S.box rfl rfl rfl rfl ?_
 refine S.pure tOk zOk rfl rfl rfl ?_
 refine thenK_n ?_
 refine W.seq ?_
 refine W.region ?_
 refine S.makeFunc rfl rfl rfl ?_
 refine S.alloc tOk rfl rfl rfl rfl ?_
 refine S.store tOk rfl rfl rfl rfl rfl rfl rfl rfl ?_
 refine thenK_n ?_
 refine W.seq ?_
 refine W.seq ?_
 refine W.region ?_
 refine S.pure tOk zOk rfl rfl rfl ?_
 refine S.pure tOk zOk rfl rfl rfl ?_
 refine thenK_n ?_
 refine W.block ?_
 refine W.seq ?_
 refine W.region ?_
 refine S.pure tOk zOk rfl rfl rfl ?_
 refine S.pure tOk zOk rfl rfl rfl ?_
 refine thenK_n ?_
 refine W.condF rfl rfl ?_
 refine W.seq ?_
 refine W.region ?_
 refine S.pure tOk zOk rfl rfl rfl ?_
 refine S.pure tOk zOk rfl rfl rfl ?_
 refine thenK_n ?_
 refine W.condF rfl rfl ?_
 refine W.seq ?_
 refine W.region ?_
 refine S.pure tOk zOk rfl rfl rfl ?_
 refine S.pure tOk zOk rfl rfl rfl ?_
 refine thenK_n ?_
 refine W.condF rfl rfl ?_
 refine W.seq ?_
 refine W.region ?_
 refine S.pure tOk zOk rfl rfl rfl ?_
 refine S.pure tOk zOk rfl rfl rfl ?_
 refine thenK_n ?_
 refine W.condF rfl rfl ?_
 refine W.seq ?_
 refine W.region ?_
 refine S.pure tOk zOk rfl rfl rfl ?_
 refine S.pure tOk zOk rfl rfl rfl ?_
 refine thenK_n ?_
 refine W.condF rfl rfl ?_
 refine W.seq ?_
 refine W.region ?_
 refine S.pure tOk zOk rfl rfl rfl ?_
 refine S.pure tOk zOk rfl rfl rfl ?_
 refine thenK_n ?_
 refine W.condF rfl rfl ?_
 refine W.seq ?_
 refine W.region ?_
 refine S.pure tOk zOk rfl rfl rfl ?_
 refine S.pure tOk zOk rfl rfl rfl ?_
 refine thenK_n ?_
 refine W.condF rfl rfl ?_
 refine W.skip ?_
 refine blockK_n ?_
 refine thenK_n ?_
 refine W.seq ?_
 refine W.region ?_
 refine S.pure tOk zOk rfl rfl rfl ?_
 refine thenK_n ?_
 refine W.ret ?_
 exact ⟨_, rfl, rfl, LeG.refl _, rfl, rfl, rfl⟩
theorem pc_Holds0 (l : List Stg) (hn : l.length ≤ 4294967000) (hs : ∀ s ∈ l, s.k.length < 4294967000 ∧ s.v.length < 4294967000) :
  PureCall Tryz.prog J 129 [.agg [.d (.int .i64 1), .d (.str []), .d (.str []), .d .nilsl], .one (.d .nilsl), .one (.d (.vec 2 (l.map stgD)))] (.tup [.one (.d (.bool (!(listE pathB l != 0)))), .one (.d (.int .i64 (listE pathB l)))]) := by
 refine PureCall.of_body tOk (fn := Tryz.f129) Tryz.func129 (by kernel_rfl) rfl (Nat.le_of_ble_eq_true rfl) (fun E => ?_)
 refine W.seq ?_
 refine W.region ?_
 refine S.box rfl rfl rfl rfl ?_
 refine S.pure tOk zOk rfl rfl rfl ?_
 refine S.pure tOk zOk rfl rfl rfl ?_
 refine thenK_n ?_
 refine W.seq ?_
 refine W.seq ?_
 refine W.region ?_
 refine S.pure tOk zOk rfl rfl rfl ?_
 refine S.call rfl rfl rfl rfl rfl (pc_CheckCond0) ?_
 refine S.pure tOk zOk rfl rfl rfl ?_
 refine thenK_n ?_
 refine W.seq ?_
 refine W.region ?_
 refine S.pure tOk zOk rfl rfl rfl ?_
 refine S.pure tOk zOk rfl rfl rfl ?_
 refine thenK_n ?_
 refine W.condF rfl rfl ?_
 refine W.skip ?_
 refine thenK_n ?_
 refine W.seq ?_
 refine W.seq ?_
 refine W.region ?_
 refine S.pure tOk zOk rfl rfl rfl ?_
 refine S.call rfl rfl rfl rfl rfl (pc_sF_nil _) ?_
 refine S.pure tOk zOk rfl rfl rfl ?_
 refine thenK_n ?_
 refine W.seq ?_
 refine W.region ?_
 refine S.pure tOk zOk rfl rfl rfl ?_
 refine S.pure tOk zOk rfl rfl rfl ?_
 refine thenK_n ?_
 refine W.condF rfl rfl ?_
 refine W.skip ?_
 refine thenK_n ?_
 refine W.seq ?_
 refine W.seq ?_
 refine W.region ?_
 refine S.pure tOk zOk rfl rfl rfl ?_
 refine S.call rfl rfl rfl rfl rfl (pc_sF pathB 45 (fun s h => pc_ver_IsPath s (by omega)) l hn hs) ?_
 refine S.pure tOk zOk rfl rfl rfl ?_
 refine thenK_n ?_
 refine W.seq ?_
 refine W.region ?_
 refine S.pure tOk zOk rfl rfl rfl ?_
 refine S.pure tOk zOk rfl rfl rfl ?_
 refine thenK_n ?_
 refine W.cond rfl (fun c3 => ?_) (fun c3 => ?_)
 ·skip
  refine W.seq ?_
  refine W.region ?_
  refine S.pure tOk zOk rfl rfl rfl ?_
  refine S.pure tOk zOk rfl rfl rfl ?_
  refine S.pure tOk zOk rfl rfl rfl ?_
  refine thenK_n ?_
  refine W.ret ?_
  refine thenK_r ?_
  exact ⟨_, rfl, rfl, LeV.of_force rfl (by rw [show (listE pathB l != 0) = true from c3]; rfl)⟩
 ·skip
  refine W.skip ?_
  refine thenK_n ?_
  refine W.seq ?_
  refine W.region ?_
  refine S.pure tOk zOk rfl rfl rfl ?_
  refine thenK_n ?_
  refine W.seq ?_
  refine W.regionS 7 mixed rfl (by kernel_rfl) ?_
  refine AnyZ.eager 1 rfl (by kernel_rfl) (Eag.pure tOk zOk rfl (fun _ _ _ => rfl) rfl rfl) ?_
  refine AnyZ.eager 2 rfl (by kernel_rfl) (Eag.pure tOk zOk rfl (fun _ _ _ => rfl) rfl rfl) ?_
  refine AnyZ.eager 4 rfl (by kernel_rfl) (Eag.pure tOk zOk rfl (fun _ _ _ => rfl) rfl rfl) ?_
  refine AnyZ.eager 5 rfl (by kernel_rfl) (Eag.pure tOk zOk rfl (fun _ _ _ => rfl) rfl rfl) ?_
  refine AnyZ.two 0 3 (by kernel_rfl) rfl rfl ?_ ?_
  ·skip
   refine OpZ.d ?_
   refine D.pure tOk zOk rfl rfl rfl rfl ?_
   refine WD.nil ?_
   refine AnyZ.one 3 (by kernel_rfl) rfl ?_
   refine OpZ.hcall rfl rfl rfl rfl ((pc_Holds1 .nilsl).frameD [] [] [] rfl rfl rfl rfl rfl rfl rfl rfl rfl) ?_
   refine AnyZ.one 6 (by kernel_rfl) rfl ?_
   refine OpZ.hcall rfl rfl rfl rfl ((pc_Holds1 (.vec 2 (l.map stgD))).frameD [] [] [] rfl rfl rfl rfl rfl rfl rfl rfl rfl) ?_
   refine AnyZ.nil (by kernel_rfl) ?_
   refine S.hcallD rfl rfl rfl rfl ((pc_holds0 l).frameD [1, 2] [] [] rfl rfl rfl rfl rfl rfl rfl rfl rfl) ?_
   refine S.pure tOk zOk rfl rfl rfl ?_
   refine S.pure tOk zOk rfl rfl rfl ?_
   refine thenK_n ?_
   refine W.ret ?_
   exact ⟨_, rfl, rfl, LeV.of_force rfl (by rw [show listE pathB l = 0 from by simpa using c3]; rfl)⟩
  ·skip
   refine OpZ.hcall rfl rfl rfl rfl ((pc_Holds1 .nilsl).frameD [] [] [] rfl rfl rfl rfl rfl rfl rfl rfl rfl) ?_
   refine AnyZ.two 0 6 (by kernel_rfl) rfl rfl ?_ ?_
   ·skip
    refine OpZ.d ?_
    refine D.pure tOk zOk rfl rfl rfl rfl ?_
    refine WD.nil ?_
    refine AnyZ.one 6 (by kernel_rfl) rfl ?_
    refine OpZ.hcall rfl rfl rfl rfl ((pc_Holds1 (.vec 2 (l.map stgD))).frameD [] [] [] rfl rfl rfl rfl rfl rfl rfl rfl rfl) ?_
    refine AnyZ.nil (by kernel_rfl) ?_
    refine S.hcallD rfl rfl rfl rfl ((pc_holds0 l).frameD [1, 2] [] [] rfl rfl rfl rfl rfl rfl rfl rfl rfl) ?_
    refine S.pure tOk zOk rfl rfl rfl ?_
    refine S.pure tOk zOk rfl rfl rfl ?_
    refine thenK_n ?_
    refine W.ret ?_
    exact ⟨_, rfl, rfl, LeV.of_force rfl (by rw [show listE pathB l = 0 from by simpa using c3]; rfl)⟩
   ·skip
    refine OpZ.hcall rfl rfl rfl rfl ((pc_Holds1 (.vec 2 (l.map stgD))).frameD [] [] [] rfl rfl rfl rfl rfl rfl rfl rfl rfl) ?_
    refine AnyZ.one 0 (by kernel_rfl) rfl ?_
    refine OpZ.d ?_
    refine D.pure tOk zOk rfl rfl rfl rfl ?_
    refine WD.nil ?_
    refine AnyZ.nil (by kernel_rfl) ?_
    refine S.hcallD rfl rfl rfl rfl ((pc_holds0 l).frameD [1, 2] [] [] rfl rfl rfl rfl rfl rfl rfl rfl rfl) ?_
    refine S.pure tOk zOk rfl rfl rfl ?_
    refine S.pure tOk zOk rfl rfl rfl ?_
    refine thenK_n ?_
    refine W.ret ?_
    exact ⟨_, rfl, rfl, LeV.of_force rfl (by rw [show listE pathB l = 0 from by simpa using c3]; rfl)⟩
end Go.Proofs.YtcchfmilleffjaaGreatDoor
namespace Go.Proofs.YtcchfmilleffjaaGreatDoor
open Go Go.RowKit
variable {J : Inv} {k0 : Lens} {E : Env J k0} {P : Program} {T : TypeId → Option TI} {n : Nat} {t : Nat → V} {b : List (List C)} {r : List (Option RowO)} {m : List (List (DV × DV))} {ops : Array Oper} {l : List Oper}
  {K : St → Prop} {i : Nat} {ty : TypeId} {pos : String} {after : Array Edge}
def Gh.rowNew (g : Gh) (l b len : Nat) : Gh := { g with at_ := fun x => if x = .r l then b else g.at_ x, off := fun x => if x = l then 0 else g.off x, cap := fun x => if x = l then len else g.cap x }
theorem Rel.newOwn {s : St} {g : Gh} {a : Act} {w : World} (r : Rel E n g s a w) (d : Option Nat) {sz len : Nat} {xs : List (List D)} {us : List Value} {te : TypeId} (hxl : xs.length = len) (hus : us.length = len * sz) (hle : len ≤ maxLen)
    (hxs : ∀ x ∈ xs, x.length = sz) (hrd : ∀ (i j : Nat) (x : List D) (dd : D) (v : Value), xs[i]? = some x → x[j]? = some dd → us[i * sz + j]? = some v → RD g.im w dd v) :
    Rel E n (g.rowNew s.r.length w.heap.size len) ((⟨s.t, s.b, s.r ++ [some ⟨true, 0, sz, te, xs⟩], s.m⟩ : St).set d (.one (.row s.r.length 0 0 len))) (a.put d (.slice (some ⟨w.heap.size, 0, none⟩) len len)) (w.alloc (.cells us.toArray te)) := by
  obtain ⟨s1, hs1⟩ : ∃ s1 : St, s1 = ⟨s.t, s.b, s.r ++ [some ⟨true, 0, sz, te, xs⟩], s.m⟩ := ⟨_, rfl⟩
  have hsz : (w.alloc (.cells us.toArray te)).heap.size = w.heap.size + 1 := by simp
  have hold : ∀ k, k < w.heap.size → (w.alloc (.cells us.toArray te)).heap[k]? = w.heap[k]? := fun k hk => Below.heap_alloc w _ k hk
  have hnew : (w.alloc (.cells us.toArray te)).heap[w.heap.size]? = some (.cells us.toArray te (0, 0)) := by show (w.heap.push _)[w.heap.size]? = _; simp
  have e : Ext g s.sh w (g.rowNew s.r.length w.heap.size len) s1.sh (w.alloc (.cells us.toArray te)) := by
    subst hs1
    refine ⟨fun _ h => h, fun b hb => hold b (r.imlt b hb), Nat.le_refl _, Nat.le_refl _, by simp [St.sh], fun _ _ => by simp [Gh.rowNew], fun l hl => by simp [Gh.rowNew], fun q al ver sz' len' hq h => ⟨al, ver, sz', len', ?_, Nat.le_refl _, fun _ => ?_⟩⟩
    · have hq' : q < s.r.length := by simpa [St.sh] using hq
      simpa [St.sh, List.getElem?_append_left hq', List.getElem?_append_left (show q < (s.r.map (·.map RowO.form)).length by simpa using hq')] using h
    · have hq' : q < s.r.length := by simpa [St.sh] using hq
      have hne : q ≠ s.r.length := by omega
      exact ⟨rfl, rfl, Nat.le_refl _, by simp [Gh.rowNew, hne], by simp [Gh.rowNew, hne], by simp [Gh.rowNew, hne]⟩
  have hat : ∀ x, s.live x → (g.rowNew s.r.length w.heap.size len).at_ x = g.at_ x := fun x hx => by
    have : x ≠ .r s.r.length := by
      rintro rfl
      obtain ⟨o, ho, _⟩ := hx
      exact absurd (List.getElem?_eq_some_iff.1 ho).1 (Nat.lt_irrefl _)
    simp [Gh.rowNew, this]
  have hlive : ∀ x, s1.live x → s.live x ∨ x = .r s.r.length := fun x hx => by
    subst hs1
    cases x with
    | m l => exact .inl hx
    | b l => exact .inl hx
    | r l =>
      obtain ⟨o, ho, hal⟩ := hx
      have ho : (s.r ++ [some ⟨true, 0, sz, te, xs⟩])[l]? = some (some o) := ho
      rcases Nat.lt_or_ge l s.r.length with h | h
      · rw [List.getElem?_append_left h] at ho; exact .inl ⟨o, ho, hal⟩
      · have h4 := (List.getElem?_eq_some_iff.1 ho).1
        right; congr 1; simp at h4; omega
  have hnewat : (g.rowNew s.r.length w.heap.size len).at_ (.r s.r.length) = w.heap.size := by simp [Gh.rowNew]
  have hheap : Heap (g.rowNew s.r.length w.heap.size len) s1 (w.alloc (.cells us.toArray te)) := by
    refine ⟨fun x hx => ?_, fun x hx => ?_, fun x y hx hy he => ?_, fun l cs' hl' => ?_, fun l o ho => ?_, fun l es hes => ?_⟩
    · rcases hlive x hx with h | rfl
      · rw [hat x h, hsz]; exact Nat.lt_succ_of_lt (r.heap.lt x h)
      · rw [hnewat, hsz]; exact Nat.lt_succ_self _
    · rcases hlive x hx with h | rfl
      · rw [hat x h]; exact r.heap.new x h
      · rw [hnewat]; exact fun hi => absurd (r.imlt _ hi) (Nat.lt_irrefl _)
    · rcases hlive x hx with h | rfl <;> rcases hlive y hy with h' | rfl
      · rw [hat x h, hat y h'] at he; exact r.heap.inj x y h h' he
      · rw [hat x h, hnewat] at he; exact absurd (r.heap.lt x h) (by omega)
      · rw [hat y h', hnewat] at he; exact absurd (r.heap.lt y h') (by omega)
      · rfl
    · have hl2 : s.b[l]? = some cs' := by subst hs1; exact hl'
      obtain ⟨vs', t', h1, h2, h3⟩ := r.heap.box l cs' hl2
      have hlv : s.live (.b l) := (List.getElem?_eq_some_iff.1 hl2).1
      rw [hat (.b l) hlv]
      exact ⟨vs', t', by rw [hold _ (r.heap.lt (.b l) hlv)]; exact h1, h2, fun j c v hc hv => (h3 j c v hc hv).mono e⟩
    · have ho' : (s.r ++ [some ⟨true, 0, sz, te, xs⟩])[l]? = some (some o) := by subst hs1; exact ho
      rcases Nat.lt_or_ge l s.r.length with h | h
      · rw [List.getElem?_append_left h] at ho'
        have hne : l ≠ s.r.length := by omega
        have := r.heap.row l o ho'
        by_cases hal : o.al = true
        · rw [if_pos hal] at this ⊢
          obtain ⟨vs', t', h1, h2, h3, h4, h5, h6⟩ := this
          have ho2 : (g.rowNew s.r.length w.heap.size len).off l = g.off l := by simp [Gh.rowNew, hne]
          have hc2 : (g.rowNew s.r.length w.heap.size len).cap l = g.cap l := by simp [Gh.rowNew, hne]
          rw [hat (.r l) ⟨o, ho', hal⟩, ho2, hc2]
          exact ⟨vs', t', by rw [hold _ (r.heap.lt (.r l) ⟨o, ho', hal⟩)]; exact h1, h2, h3, h4, h5, fun i j x d v p q u => (h6 i j x d v p q u).mono e.im e.same⟩
        · rw [if_neg hal] at this ⊢; exact this
      · have h4 := (List.getElem?_eq_some_iff.1 ho').1
        obtain rfl : l = s.r.length := by simp at h4; omega
        rw [List.getElem?_append_right (Nat.le_refl _)] at ho'
        simp at ho'
        subst ho'
        have ho2 : (g.rowNew s.r.length w.heap.size len).off s.r.length = 0 := by simp [Gh.rowNew]
        have hc2 : (g.rowNew s.r.length w.heap.size len).cap s.r.length = len := by simp [Gh.rowNew]
        rw [if_pos rfl, hnewat, ho2, hc2]
        refine ⟨us.toArray, te, hnew, ⟨by simp [hus], rfl, rfl, hle⟩, by simp [hxl], hxs, fun _ _ => trivial, fun i j x dd v p q u => ?_⟩
        have u : us[i * sz + j]? = some v := by simpa using u
        exact (hrd i j x dd v p q u).mono e.im e.same
    · have hl2 : s.m[l]? = some es := by subst hs1; exact hes
      have hlv : s.live (.m l) := (List.getElem?_eq_some_iff.1 hl2).1
      obtain ⟨arr, clock, h1, h2, h3⟩ := r.heap.map l es hl2
      rw [hat (.m l) hlv]
      exact ⟨arr, clock, by rw [hold _ (r.heap.lt (.m l) hlv)]; exact h1, h2, fun i x y hx hy => ⟨(h3 i x y hx hy).1.mono e, (h3 i x y hx hy).2.mono e⟩⟩
  have hbelow : BelowX E.lent E.w0 (w.alloc (.cells us.toArray te)) := r.below.then ((Below.refl _ _).alloc (Nat.le_refl _) _)
  have rel1 : Rel E n (g.rowNew s.r.length w.heap.size len) s1 a (w.alloc (.cells us.toArray te)) := by
    refine ⟨hbelow, r.ext.trans e, fun b hb => by rw [hsz]; exact Nat.lt_succ_of_lt (r.imlt b hb), r.imold, fun x hx => ?_, hheap, r.size, r.defers, fun i hi => ?_⟩
    · rcases hlive x hx with h | rfl
      · rw [hat x h]; exact r.own x h
      · rw [hnewat]; exact .inr r.below.size
    · have := (r.tmps i hi).mono e
      subst hs1; exact this
  have := rel1.put_same d (u := .one (.row s.r.length 0 0 len)) (v := .slice (some ⟨w.heap.size, 0, none⟩) len len) (by
    refine .one _ _ (.row _ _ _ _ _ rfl (by subst hs1; simp [St.sh]) (fun al ver' sz' len' hh => ?_))
    have : (some (some (al, ver', sz', len')) : Option (Option _)) = some (some (true, 0, sz, len)) := by rw [← hh]; subst hs1; simp [St.sh, RowO.form, hxl]
    simp only [Option.some.injEq, Prod.mk.injEq] at this
    obtain ⟨rfl, rfl, rfl, rfl⟩ := this
    refine ⟨Nat.le_refl _, fun _ => ⟨by omega, ?_⟩⟩
    simp [Gh.rowNew])
  subst hs1
  exact this
theorem S.sliceOwn (hT : TabOk P T) {te : TypeId} {len sz : Nat} {parts : Array (Nat × Operand)} {us : List (Nat × V)} {xs : List (List D)} {e : TypeId} {ti : TI} {r' : List (Option RowO)} (hti : T te = some ti) (hd : ti.desc = .slice e)
    (hp : allOpd n ⟨t, b, r, m⟩ parts.toList = (true, us)) (hx : evBS T te len us = some (sz, xs)) (hl : Nat.ble len 1000000 = true) (hr : appL r [some ⟨true, 0, sz, e, xs⟩] = r')
    (k : WL E P n ops l K ⟨upd t i (.one (.row r.length 0 0 len)), b, r', m⟩) : WL E P n ops (⟨some i, .buildSlice te len parts, ty, pos, after, none⟩ :: l) K ⟨t, b, r, m⟩ := by
  subst hr
  rw [appL_eq] at k
  intro g a w rel next Q hn
  have hw : Region.wanted (⟨some i, .buildSlice te len parts, ty, pos, after, none⟩ : Oper) (yielded ops a.tmps) = true := by simp [Region.wanted]
  rw [if_pos hw]
  obtain ⟨hl0, hpv⟩ := allOpd_ok rel _ _ _ hp rfl
  unfold evBS at hx
  rw [hti] at hx
  obtain ⟨desc, tsz, tz, tby⟩ := ti
  obtain rfl : desc = .slice e := hd
  simp only at hx
  split at hx
  · rename_i j hj
    split at hx
    · rename_i z hz
      split at hx
      · rename_i hc
        split at hx
        · rename_i out hf
          split at hx
          · rename_i ds hds
            split at hx
            · rename_i hlen
              obtain ⟨rfl, rfl⟩ : j.size = sz ∧ chunk j.size len ds = xs := by simpa using hx
              have hout := allDs_eq hds
              obtain ⟨zs, q1, q2, q3⟩ := zeroCells_ok (h := (⟨t, b, r, m⟩ : St).sh) hz (len * j.size) hc.2 g w
              have hjunk : ∀ (i : Nat) (c : C) (v : Value), (List.replicate (len * j.size) C.junk)[i]? = some c → zs[i]? = some v → RC g (⟨t, b, r, m⟩ : St).sh w c v := fun i c v h1 h2 => by
                rw [List.getElem?_replicate] at h1
                split at h1
                · rename_i hi
                  cases h1
                  refine .junk _ (q3 ?_ v (List.mem_of_getElem? h2))
                  rcases Nat.eq_zero_or_pos j.size with h0 | h0
                  · rw [h0, Nat.mul_zero] at hi; omega
                  · exact h0
                · cases h1
              obtain ⟨vs, f1, f2, f3⟩ := fillC_ok (h := (⟨t, b, r, m⟩ : St).sh) (fun i => some (i * j.size, j.size)) us (parts.toList.map fun (i, x) => (i, a.eval x)) _ out zs (by simp [hl0]) hpv (by simp [q2]) hjunk hf
              have e1 : (parts.map fun (i, x) => (i, a.eval x)) = (parts.toList.map fun (i, x) => (i, a.eval x)).toArray := Array.toList_inj.1 (by simp)
              have hrun : (execOp a.eval (⟨some i, .buildSlice te len parts, ty, pos, after, none⟩ : Oper)).run P w = .ok (.value (.slice (some ⟨w.heap.size, 0, none⟩) len len)) (w.alloc (.cells vs.toArray e)) := by
                have := run_buildSlice (w := w) (pv := parts.map fun (i, x) => (i, a.eval x)) (len := len) hT hti rfl hj (by have := hc.1; omega) q1 (by rw [e1]; simpa using f1)
                simp only [execOp, Sem.run_bind, this, Result.andThen_ok, Sem.run_pure]
              unfold Oper.wp
              rw [hrun]
              refine hn _ _ _ _ k (rel.newOwn (some i) (te := e) (chunk_length j.size len ds) (by rw [f2, hout]; simp [hlen]) (by have := Nat.le_of_ble_eq_true hl; simp only [maxLen]; omega) (chunk_sz j.size len ds hlen) (fun i k x d v h1 h2 h3 => ?_))
              have h4 := chunk_get j.size len ds i k x d h1 h2
              have h5 := f3 (i * j.size + k) (.d d) v (by rw [hout]; simp [h4]) h3
              cases h5 with | d _ _ q => exact q
            · cases hx
          · cases hx
        · cases hx
      · cases hx
    · cases hx
  · cases hx
end Go.Proofs.YtcchfmilleffjaaGreatDoor
namespace Go.Proofs.YtcchfmilleffjaaGreatDoor
open Go Go.RowKit
variable {J : Inv} {k0 : Lens} {E : Env J k0} {P : Program} {T : TypeId → Option TI} {n : Nat} {t : Nat → V} {b : List (List C)} {r : List (Option RowO)} {m : List (List (DV × DV))} {ops : Array Oper} {l : List Oper}
  {K : St → Prop} {i : Nat} {ty : TypeId} {pos : String} {after : Array Edge}
end Go.Proofs.YtcchfmilleffjaaGreatDoor
namespace Go.Proofs.YtcchfmilleffjaaGreatDoor
open Go Go.RowKit
variable {J : Inv} {k0 : Lens} {E : Env J k0} {P : Program} {T : TypeId → Option TI} {n : Nat} {t : Nat → V} {b : List (List C)} {r : List (Option RowO)} {m : List (List (DV × DV))} {ops : Array Oper} {l : List Oper}
  {K : St → Prop} {i : Nat} {ty : TypeId} {pos : String} {after : Array Edge}
end Go.Proofs.YtcchfmilleffjaaGreatDoor
namespace Go.Proofs.YtcchfmilleffjaaGreatDoor
open Go Go.RowKit Go.Maps Go.Sort
def SortedOk (P : Program) (fS gI : FuncId) (tk : TypeId) : Prop :=
  ∀ (b nn Bm : Nat) (D0 : DataW Unit) (R : Value → Option (DataW Unit × List MemPlace)) (w : World), Bm < w.heap.size → w.cell? ⟨Bm, 0, none⟩ = some (.map (some b)) → w.ownsMap P tk R b nn D0 → Maps.size D0 ≤ maxLen → Maps.size D0 * 16 ≤ 140737488355328 →
    Calls P fS #[.func (.func gI) #[] #[.pointer (some ⟨Bm, 0, none⟩)]] w fun e w' => ∃ (v : Value) (ss : List (List UInt8)), e = .returned v ∧ ss.Perm (strKeys D0) ∧
      w'.ownsRow w.heap.size tk 1 v ss.length ((ss.mergeSort leB).map encStr) ∧ Below w.heap.size w w'
def sortS (l : List (List UInt8)) : List (List UInt8) := l.mergeSort leB
def strsD (l : List (List UInt8)) : D := .vec 1 (l.map fun s => [.str s])
theorem map_reads {β : Type} {P : Program} {tk : TypeId} (hk : P.underlying tk = some .string) {tab : List (List UInt8 × β)} {arr : Array MapEntry} {clock : Nat} {b : Nat} {w : World}
    (hb : w.heap[b]? = some (.map arr clock)) (hf : MapFit arr clock tab.length) (hkey : ∀ (i : Nat) (x : List UInt8 × β) (e : MapEntry), tab[i]? = some x → arr[i]? = some e → e.key = encStr x.1)
    (hn : tab.length ≤ maxLen) (hl : ∀ x ∈ tab, x.1.length ≤ maxLen) (hd : (tab.map (·.1)).Nodup) :
    ∃ D0 : DataW Unit, w.ownsMap P tk (fun _ => some (.nil, [])) b tab.length D0 ∧ (strKeys D0).Perm (tab.map (·.1)) ∧ Maps.size D0 = tab.length := by
  have hkeys : arr.toList.map (·.key) = (tab.map (·.1)).map encStr := by
    apply List.ext_getElem? ; intro i
    simp only [List.getElem?_map, Array.getElem?_toList]
    by_cases hi : i < tab.length
    · have h1 : tab[i]? = some tab[i] := List.getElem?_eq_getElem hi
      have h2 : arr[i]? = some (arr[i]'(by rw [hf.len]; exact hi)) := Array.getElem?_eq_getElem _
      rw [h1, h2]
      simp only [Option.map_some, Option.some.injEq]
      exact hkey i _ _ h1 h2
    · rw [List.getElem?_eq_none (by omega), Array.getElem?_eq_none (by rw [hf.len]; omega)]
      rfl
  have hko : ∀ s : List UInt8, s.length ≤ maxLen → keyOf P tk (encStr s) = some (.string s) := fun s hs => by
    have : (ByteArray.mk s.toArray).size ≤ maxLen := by simpa [ByteArray.size] using hs
    simp [keyOf, hk, mapKey, encStr, this]
  have hmem : ∀ x ∈ arr.toList, ∃ s : List UInt8, x.key = encStr s ∧ s.length ≤ maxLen := fun x hx => by
    have h1 : x.key ∈ arr.toList.map (·.key) := List.mem_map.2 ⟨x, hx, rfl⟩
    rw [hkeys] at h1
    obtain ⟨s, h2, h3⟩ := List.mem_map.1 h1
    obtain ⟨y, h4, h5⟩ := List.mem_map.1 h2
    exact ⟨s, h3.symm, by rw [← h5]; exact hl y h4⟩
  have hrd : ∀ x ∈ arr.toList, ∀ s, x.key = encStr s → s.length ≤ maxLen → Go.WideElems.rd (H := Unit) P tk (fun _ => some (.nil, [])) x = some (.string s, .nil) := fun x hx s h1 h2 => by
    simp [Go.WideElems.rd, h1, hko s h2]
  have hfit : Go.WideElems.Fit (H := Unit) P tk (fun _ => some (.nil, [])) arr clock := by
    refine ⟨by rw [hf.len]; exact hn, ⟨fun x hx => ?_, ?_, ?_⟩, fun x hx => ?_⟩
    · obtain ⟨i, hi, he⟩ := List.getElem_of_mem hx
      exact hf.born i x (by rw [← Array.getElem?_toList, List.getElem?_eq_getElem hi, he])
    · rw [List.nodup_iff_pairwise_ne] at *
      refine List.pairwise_map.2 (List.pairwise_iff_getElem.2 fun i j hi hj hij he => ?_)
      have := hf.dist i j _ _ (by rw [← Array.getElem?_toList, List.getElem?_eq_getElem hi]) (by rw [← Array.getElem?_toList, List.getElem?_eq_getElem hj]) he
      omega
    · rw [hkeys]
      rw [List.nodup_iff_pairwise_ne] at *
      exact List.pairwise_map.2 (hd.imp fun hne he => hne (encStr_inj he))
    · obtain ⟨s, h1, h2⟩ := hmem x hx
      exact ⟨_, hrd x hx s h1 h2⟩
  refine ⟨_, ⟨arr, clock, hb, hfit, by rw [hf.len]; exact Nat.le_refl _, rfl⟩, ?_, ?_⟩
  · have h1 : strKeys (DataW.map ((arr.toList.map (Go.WideElems.rg (H := Unit) P tk fun _ => some (.nil, []))).foldr DataW.insert [])) = ((arr.toList.map (Go.WideElems.rg (H := Unit) P tk fun _ => some (.nil, []))).foldr DataW.insert []).map fun p => strOf p.1 := rfl
    rw [h1]
    refine ((Go.WideShapes.sorted_perm _).map _).trans (List.Perm.of_eq ?_)
    rw [List.map_map]
    have h2 : (arr.toList.map (·.key)).map (fun v => match v with | .string s => s.data.toList | _ => []) = tab.map (·.1) := by
      rw [hkeys, List.map_map]
      conv => rhs; rw [← List.map_id (tab.map (·.1))]
      rfl
    rw [← h2, List.map_map]
    refine List.map_congr_left fun x hx => ?_
    obtain ⟨s, h3, h4⟩ := hmem x hx
    simp [Go.WideElems.rg, hrd x hx s h3 h4, h3, strOf, encStr]
  · show ((arr.toList.map _).foldr DataW.insert []).length = _
    rw [DataW.length_sorted, List.length_map, Array.length_toList, hf.len]
theorem HCall.fresh {P : Program} {J : Inv} {f : FuncId} {args : List V} {b : List (List C)} {r : List (Option RowO)} {m : List (List (DV × DV))} {u : V} {Q : HPost} {fn : Func} (hf : P.funcs[f]? = some fn) (h0 : (fn.name == "runtime.NumGoroutine") = false) (hb : fn.body.isNone = false)
    (h : ∀ (g : Gh) (w : World) (vs : List Value), J.I w → Heap g (hst b r m) w → vs.length = args.length → (∀ (i : Nat) (u : V) (v : Value), args[i]? = some u → vs[i]? = some v → RV g (hst b r m).sh w u v) →
      Calls P f vs.toArray w fun e w' => ∃ v, e = .returned v ∧ Below w.heap.size w w' ∧ RV (noGh fun k => w.heap.size ≤ k ∧ k < w'.heap.size) noSh w' u v) (hq : Q u b r m) : HCall P J f args b r m Q := by
  refine ⟨⟨fn, hf, h0, hb⟩, fun g w vs h1 h2 h3 h4 h5 h6 => ?_⟩
  refine (h g w vs h1 h3 h5 h6).mono fun e w' ⟨v, he, hB, hr⟩ => ?_
  have ext : Ext g (hst b r m).sh w { g with im := fun k => g.im k ∨ (w.heap.size ≤ k ∧ k < w'.heap.size) } (hst b r m).sh w' := .of (fun _ h => .inl h) (fun k hk => hB.block k (h2 k hk)) rfl rfl rfl
  refine ⟨v, { g with im := fun k => g.im k ∨ (w.heap.size ≤ k ∧ k < w'.heap.size) }, u, b, r, m, he, BelowX.of hB |>.trans (BelowX.refl (fun _ => False) _) (fun _ h => h.elim), ext, fun k hk => ?_, fun k hk => ?_, fun x hx => .inl ⟨x, hx, rfl⟩, ?_, ?_, hq⟩
  · rcases hk with h | h
    · exact Nat.lt_of_lt_of_le (h2 k h) hB.size
    · exact h.2
  · rcases hk with h | h
    · exact .inl h
    · exact .inr (.inr h.1)
  · refine h3.mono ext hB.size (fun x hx hi => ?_) rfl rfl rfl (fun x hx => hB.block _ (h3.lt x hx))
    rcases hi with h | h
    · exact h3.new x hx h
    · exact absurd (h3.lt x hx) (by omega)
  · have hsh : RV (noGh fun k => w.heap.size ≤ k ∧ k < w'.heap.size) noSh w' u v := hr
    exact RV.mono (g := noGh fun k => w.heap.size ≤ k ∧ k < w'.heap.size) (h := noSh) (w := w')
      ⟨fun k (hk : w.heap.size ≤ k ∧ k < w'.heap.size) => Or.inr hk, fun _ _ => rfl, Nat.zero_le _, Nat.zero_le _, Nat.zero_le _, fun l hl => absurd hl (Nat.not_lt_zero _), fun l hl => absurd hl (Nat.not_lt_zero _), fun q _ _ _ _ hq _ => absurd hq (Nat.not_lt_zero _)⟩ hsh
theorem HCall.sorted {β : Type} {P : Program} {J : Inv} {fS gI : FuncId} {tk : TypeId} (hs : SortedOk P fS gI tk) (hk : P.underlying tk = some .string) {fn : Func} (hf : P.funcs[fS]? = some fn) (h0 : (fn.name == "runtime.NumGoroutine") = false) (hb : fn.body.isNone = false)
    {fD : β → DV} (tab : List (List UInt8 × β)) (hn : tab.length * 16 ≤ 140737488355328) (hl : ∀ x ∈ tab, x.1.length ≤ maxLen) (hd : (tab.map (·.1)).Nodup) :
    HCall P J fS [.one (.clo gI [.ptr 0 0])] [[.map 0]] [] [mapOf D.str fD tab] fun rv b' r' m' => rv = .one (.d (strsD (sortS (tab.map (·.1))))) ∧ b' = [[.map 0]] ∧ r' = [] ∧ m' = [mapOf D.str fD tab] := by
  refine HCall.fresh hf h0 hb (fun g w vs h1 h3 h5 h6 => ?_) ⟨rfl, rfl, rfl, rfl⟩
  obtain ⟨bvs, bt, q1, q2, q3⟩ := h3.box 0 [.map 0] rfl
  obtain ⟨arr, clock, p1, p2, p3⟩ := h3.map 0 _ rfl
  have hl1 : bvs.size = 1 := by simpa using q2
  have hlive : (hst [[.map 0]] [] [mapOf D.str fD tab]).live (.b 0) := by show 0 < 1; omega
  have hc0 : w.cell? ⟨g.at_ (.b 0), 0, none⟩ = some (.map (some (g.at_ (.m 0)))) := by
    have h2 : bvs[0]? = some (bvs[0]'(by omega)) := Array.getElem?_eq_getElem _
    have := q3 0 _ _ rfl h2
    cases this' : bvs[0]'(by omega) <;> rw [this'] at this h2 <;> cases this
    simp [World.cell?, q1, h2]
  have hvs : vs = [.func (.func gI) #[] #[.pointer (some ⟨g.at_ (.b 0), 0, none⟩)]] := by
    match vs, h5 with
    | [v], _ =>
      have := h6 0 _ v rfl rfl
      cases this with | one _ _ h => cases h with | clo _ _ ws hwl hx =>
      match ws, hwl with
      | [x], _ =>
        have := hx 0 _ x rfl rfl
        cases this
        rfl
  subst hvs
  have hkey : ∀ (i : Nat) (x : List UInt8 × β) (e : MapEntry), tab[i]? = some x → arr[i]? = some e → e.key = encStr x.1 := fun i x e hx he => by
    have h7 : (mapOf D.str fD tab)[i]? = some (DV.one (.str x.1), fD x.2) := by unfold mapOf; rw [List.getElem?_map, hx]; rfl
    have := (p3 i _ e h7 he).1
    obtain ⟨key, _, _⟩ := e
    cases this with | one _ _ h => cases h with | d _ _ h => cases h; rfl
  have hlen : (mapOf D.str fD tab).length = tab.length := by unfold mapOf; rw [List.length_map]
  have hfit := p2.1
  rw [hlen] at hfit
  have hmx : tab.length ≤ maxLen := Nat.le_trans (by omega : tab.length ≤ 140737488355328) (by decide)
  obtain ⟨D0, d1, d2, d3⟩ := map_reads hk p1 hfit hkey hmx hl hd
  refine (hs _ _ _ D0 _ w (h3.lt _ hlive) hc0 d1 (by rw [d3]; exact hmx) (by rw [d3]; exact hn)).mono fun e w' ⟨v, ss, he, hp, hrow, hB⟩ => ⟨v, he, hB, ?_⟩
  have hss : ss.mergeSort leB = sortS (tab.map (·.1)) := mergeSort_of_perm (hp.trans d2)
  have hlen2 : ss.length = (sortS (tab.map (·.1))).length := by rw [← hss, List.length_mergeSort]
  rw [hss, hlen2] at hrow
  obtain ⟨l, hle⟩ : ∃ l, l = sortS (tab.map (·.1)) := ⟨_, rfl⟩
  rw [← hle] at hrow ⊢
  refine .one _ _ (.d _ _ ?_)
  unfold strsD
  rcases hrow.2 with ⟨rfl, hz⟩ | ⟨gb, cap, cur, rfl, hbase, hgb, r1, r2, r3, r4⟩
  · rw [List.eq_nil_of_length_eq_zero hz]
    exact .empty _ _ _
  · by_cases hnil : l = []
    · subst hnil; exact .empty _ _ _
    · have hgl : gb < w'.heap.size := (Array.getElem?_eq_some_iff.1 hgb).1
      have := RD.vec (im := fun k => w.heap.size ≤ k ∧ k < w'.heap.size) (w := w') 1 (l.map fun s => [D.str s]) gb 0 cap (fun i j => encStr (l.getD i [])) (by simpa using hnil) (by simpa using r1) ⟨hbase, hgl⟩ (by simp) (fun i j x d hx hd' => ?_) (fun i j x d hx hd' => ?_)
      · simpa [noGh] using this
      · rw [List.getElem?_map] at hx
        cases hi : l[i]? with
        | none => rw [hi] at hx; cases hx
        | some s =>
          rw [hi] at hx
          obtain rfl : [D.str s] = x := by simpa using hx
          have hj : j = 0 := by have := (List.getElem?_eq_some_iff.1 hd').1; simp at this; exact this
          subst hj
          have hil := (List.getElem?_eq_some_iff.1 hi).1
          have h8 : cur.toList[i]? = some (encStr s) := by
            have h9 := congrArg (fun q => q[i]?) r4
            simp only [List.getElem?_take, List.getElem?_map, hi, Option.map_some] at h9
            rw [if_pos (by omega)] at h9
            exact h9
          have h10 : cur[i]? = some (encStr s) := by rw [← Array.getElem?_toList]; exact h8
          simp [World.cell?, hgb, hi, h10]
      · rw [List.getElem?_map] at hx
        cases hi : l[i]? with
        | none => rw [hi] at hx; cases hx
        | some s =>
          rw [hi] at hx
          obtain rfl : [D.str s] = x := by simpa using hx
          have hj : j = 0 := by have := (List.getElem?_eq_some_iff.1 hd').1; simp at this; exact this
          subst hj
          obtain rfl : D.str s = d := by simpa using hd'
          simp [hi, encStr]
          exact .str s
end Go.Proofs.YtcchfmilleffjaaGreatDoor
namespace Go.Proofs.YtcchfmilleffjaaGreatDoor
open Go
abbrev L8 := List UInt8
abbrev Fm := L8 → Option L8
def lk : Tab → Fm
  | [], _ => none
  | x :: l, k => if k == x.1 then some x.2 else lk l k
def ndT (t : Tab) : Prop := (t.map (·.1)).Nodup
theorem nd_nil : ndT [] := List.nodup_nil
theorem nd_cons {x : L8 × L8} {l : Tab} : ndT (x :: l) ↔ x.1 ∉ l.map (·.1) ∧ ndT l := by unfold ndT; rw [List.map_cons, List.nodup_cons]
theorem lk_none {t : Tab} {k : L8} : lk t k = none ↔ k ∉ t.map (·.1) := by
  induction t with
  | nil => simp [lk]
  | cons x l ih =>
    unfold lk
    by_cases h : (k == x.1) = true
    · rw [if_pos h]; simp [beq_iff_eq.1 h]
    · rw [if_neg h, ih]
      simp at h
      simp [h]
theorem has_lk (t : Tab) (k : L8) : hasL beqS t k = (lk t k).isSome := by
  induction t with
  | nil => rfl
  | cons x l ih =>
    unfold lk hasL
    by_cases h : (k == x.1) = true
    · rw [if_pos h]; simp [beqS, h]
    · rw [if_neg h]
      simp only [List.any_cons, beqS, h, Bool.false_or]
      exact ih
theorem get_lk (t : Tab) (k : L8) : getL beqS [] t k = (lk t k).getD [] := by
  induction t with
  | nil => rfl
  | cons x l ih =>
    unfold lk getL
    by_cases h : (k == x.1) = true
    · rw [if_pos h]; simp [beqS, h]
    · rw [if_neg h]; simp [beqS, h, ih]
def setF (f : Fm) (k v : L8) : Fm := fun q => if q == k then some v else f q
def delF (f : Fm) (k : L8) : Fm := fun q => if q == k then none else f q
theorem lk_set (t : Tab) (k v : L8) : lk (setL beqS t k v) = setF (lk t) k v := by
  funext q
  induction t with
  | nil => simp [setL, lk, setF]
  | cons x l ih =>
    unfold setL
    by_cases h : (k == x.1) = true
    · simp only [beqS, h, cond_true]
      have hk := beq_iff_eq.1 h
      unfold lk setF
      simp only
      by_cases hq : (q == k) = true
      · rw [if_pos hq, if_pos hq]
      · rw [if_neg hq, if_neg hq]
        rw [hk] at hq
        conv => rhs; unfold lk
        rw [if_neg hq]
    · simp only [beqS, h, cond_false]
      unfold lk
      by_cases hq : (q == x.1) = true
      · rw [if_pos hq]
        unfold setF
        have : ¬ (q == k) = true := fun hqk => h (by rw [← beq_iff_eq.1 hqk]; exact hq)
        rw [if_neg this]
        conv => rhs; unfold lk
        rw [if_pos hq]
      · rw [if_neg hq, ih]
        unfold setF
        by_cases hqk : (q == k) = true
        · rw [if_pos hqk, if_pos hqk]
        · rw [if_neg hqk, if_neg hqk]
          conv => rhs; unfold lk
          rw [if_neg hq]
theorem keys_set (t : Tab) (k v : L8) : ∀ q, q ∈ (setL beqS t k v).map (·.1) ↔ q = k ∨ q ∈ t.map (·.1) := fun q => by
  have h1 := lk_none (t := setL beqS t k v) (k := q)
  have h2 := lk_none (t := t) (k := q)
  rw [lk_set] at h1
  unfold setF at h1
  by_cases hq : (q == k) = true
  · rw [if_pos hq] at h1
    simp at h1
    have := beq_iff_eq.1 hq
    exact ⟨fun _ => .inl this, fun _ => by simpa using h1⟩
  · rw [if_neg hq] at h1
    have hne : q ≠ k := fun h => hq (by simp [h])
    have h3 := not_congr (h1.symm.trans h2)
    simp only [Classical.not_not] at h3
    exact h3.trans ⟨.inr, fun h => h.resolve_left hne⟩
theorem nd_set {t : Tab} (h : ndT t) (k v : L8) : ndT (setL beqS t k v) := by
  induction t with
  | nil => simp [setL, ndT]
  | cons x l ih =>
    unfold setL
    obtain ⟨h1, h2⟩ := nd_cons.1 h
    by_cases hk : (k == x.1) = true
    · simp only [beqS, hk, cond_true]
      exact nd_cons.2 ⟨by rw [beq_iff_eq.1 hk]; exact h1, h2⟩
    · simp only [beqS, hk, cond_false]
      refine nd_cons.2 ⟨fun hm => ?_, ih h2⟩
      rcases (keys_set l k v x.1).1 hm with h3 | h3
      · exact hk (by simp [h3])
      · exact h1 h3
theorem del_sub (t : Tab) (k : L8) : (delL beqS t k).Sublist t := by
  induction t with
  | nil => exact List.Sublist.refl _
  | cons x l ih =>
    unfold delL
    by_cases h : (k == x.1) = true
    · simp only [beqS, h, cond_true]; exact List.sublist_cons_self _ _
    · simp only [beqS, h, cond_false]; exact ih.cons_cons _
theorem nd_sub {t t' : Tab} (h : ndT t) (hs : t'.Sublist t) : ndT t' := (hs.map _).nodup h
theorem nd_del {t : Tab} (h : ndT t) (k : L8) : ndT (delL beqS t k) := nd_sub h (del_sub t k)
theorem lk_del {t : Tab} (h : ndT t) (k : L8) : lk (delL beqS t k) = delF (lk t) k := by
  funext q
  induction t with
  | nil => simp [delL, lk, delF]
  | cons x l ih =>
    obtain ⟨h1, h2⟩ := nd_cons.1 h
    unfold delL
    by_cases hk : (k == x.1) = true
    · simp only [beqS, hk, cond_true]
      unfold delF
      by_cases hq : (q == k) = true
      · rw [if_pos hq]
        refine lk_none.2 ?_
        rw [beq_iff_eq.1 hq, beq_iff_eq.1 hk]; exact h1
      · rw [if_neg hq]
        rw [beq_iff_eq.1 hk] at hq
        conv => rhs; unfold lk
        rw [if_neg hq]
    · simp only [beqS, hk, cond_false]
      unfold lk
      by_cases hq : (q == x.1) = true
      · rw [if_pos hq]
        unfold delF
        have : ¬ (q == k) = true := fun hqk => hk (by rw [← beq_iff_eq.1 hqk]; exact hq)
        rw [if_neg this]
        conv => rhs; unfold lk
        rw [if_pos hq]
      · rw [if_neg hq, ih h2]
        unfold delF
        by_cases hqk : (q == k) = true
        · rw [if_pos hqk, if_pos hqk]
        · rw [if_neg hqk, if_neg hqk]
          conv => rhs; unfold lk
          rw [if_neg hq]
theorem lk_mem {t : Tab} (h : ndT t) {k v : L8} : lk t k = some v ↔ (k, v) ∈ t := by
  induction t with
  | nil => simp [lk]
  | cons x l ih =>
    obtain ⟨h1, h2⟩ := nd_cons.1 h
    unfold lk
    by_cases hk : (k == x.1) = true
    · rw [if_pos hk]
      have hk := beq_iff_eq.1 hk
      constructor
      · intro e
        have : x.2 = v := by simpa using e
        rw [hk, ← this]; exact List.mem_cons_self
      · intro e
        rcases List.mem_cons.1 e with e | e
        · rw [← e]
        · exact absurd (List.mem_map.2 ⟨_, e, rfl⟩) (by rw [hk]; exact h1)
    · rw [if_neg hk, ih h2]
      constructor
      · exact List.mem_cons_of_mem _
      · intro e
        rcases List.mem_cons.1 e with e | e
        · exact absurd (by rw [← e]; simp) hk
        · exact e
theorem nd_pairs {t : Tab} (h : ndT t) : t.Nodup := by
  unfold ndT at h
  exact (List.pairwise_map.1 h).imp fun hne he => hne (by rw [he])
theorem perm_lk {t t' : Tab} (h : ndT t) (h' : ndT t') (e : lk t = lk t') : t.Perm t' := by
  refine (List.perm_ext_iff_of_nodup (nd_pairs h) (nd_pairs h')).2 fun x => ?_
  obtain ⟨k, v⟩ := x
  rw [← lk_mem h, ← lk_mem h', e]
theorem lk_perm {t t' : Tab} (h : ndT t) (h' : ndT t') (e : t.Perm t') : lk t = lk t' := by
  funext k
  cases hk : lk t' k with
  | none =>
    rw [lk_none] at hk ⊢
    exact fun hm => hk ((e.map _).mem_iff.1 hm)
  | some v => rw [lk_mem h'] at hk; rw [lk_mem h]; exact e.mem_iff.2 hk
theorem nd_perm {t t' : Tab} (h : ndT t) (e : t.Perm t') : ndT t' := (e.map _).nodup_iff.1 h
def listT (t : Tab) : List Stg := (sortS (t.map (·.1))).map fun k => ⟨k, getL beqS [] t k⟩
theorem listT_lk {t t' : Tab} (h : ndT t) (h' : ndT t') (e : lk t = lk t') : listT t = listT t' := by
  have hp := perm_lk h h' e
  have h1 : sortS (t.map (·.1)) = sortS (t'.map (·.1)) := mergeSort_of_perm (hp.map _)
  unfold listT
  rw [h1]
  refine List.map_congr_left fun k _ => ?_
  rw [get_lk, get_lk, e]
theorem tabTo_nd (l : List Stg) : ∀ i, ndT (tabTo l i)
  | 0 => nd_nil
  | i + 1 => nd_set (tabTo_nd l i) _ _
def tailOf (a top : L8) : Option L8 := if a == top then some [] else if Lib.hasPrefix a (top ++ [47]) then some (a.drop top.length) else none
theorem hasPrefix_iff {a b : L8} : Lib.hasPrefix a b = true ↔ ∃ s, a = b ++ s := by
  unfold Lib.hasPrefix
  constructor
  · intro h
    have := List.isPrefixOf_iff_prefix.1 h
    obtain ⟨s, hs⟩ := this
    exact ⟨s, hs.symm⟩
  · rintro ⟨s, rfl⟩
    exact List.isPrefixOf_iff_prefix.2 (List.prefix_append _ _)
theorem tail_some {a top s : L8} : tailOf a top = some s ↔ a = top ++ s ∧ (s = [] ∨ s.head? = some 47) := by
  unfold tailOf
  by_cases h : (a == top) = true
  · rw [if_pos h]
    have h := beq_iff_eq.1 h
    subst h
    constructor
    · intro e
      have : [] = s := by simpa using e
      subst this; exact ⟨by simp, .inl rfl⟩
    · rintro ⟨e, _⟩
      have : s = [] := by simpa using e
      rw [this]
  · rw [if_neg h]
    have hne : a ≠ top := fun e => h (by simp [e])
    by_cases hp : Lib.hasPrefix a (top ++ [47]) = true
    · rw [if_pos hp]
      obtain ⟨z, rfl⟩ := hasPrefix_iff.1 hp
      have hd : (top ++ [47] ++ z).drop top.length = 47 :: z := by simp
      rw [hd]
      constructor
      · intro e
        have : 47 :: z = s := by simpa using e
        subst this; exact ⟨by simp, .inr rfl⟩
      · rintro ⟨e, _⟩
        rw [List.append_assoc] at e
        have := List.append_cancel_left e
        rw [← this]; rfl
    · rw [if_neg hp]
      constructor
      · intro e; cases e
      · rintro ⟨rfl, h1 | h1⟩
        · exact absurd (by simp [h1]) hne
        · cases s with
          | nil => cases h1
          | cons c z =>
            have : c = 47 := by simpa using h1
            subst this
            exact absurd (hasPrefix_iff.2 ⟨z, by simp⟩) hp
def movF (f : Fm) (key tu : L8) : Fm := fun n => match tailOf n tu with | some s => f (key ++ s) | none => none
def offF (f : Fm) (key : L8) : Fm := fun n => if (tailOf n key).isSome then none else f n
def orF (f g : Fm) : Fm := fun n => match f n with | some v => some v | none => g n
def prefF (f : Fm) (key tu : L8) : Fm := orF (movF f key tu) (offF f key)
end Go.Proofs.YtcchfmilleffjaaGreatDoor
namespace Go.Proofs.YtcchfmilleffjaaGreatDoor
open Go
theorem lk_app (t u : Tab) : lk (t ++ u) = orF (lk t) (lk u) := by
  funext k
  induction t with
  | nil => rfl
  | cons x l ih =>
    unfold orF at ih ⊢
    by_cases h : (k == x.1) = true
    · rw [List.cons_append]
      conv => lhs; unfold lk
      rw [if_pos h]
      have : lk (x :: l) k = some x.2 := by unfold lk; rw [if_pos h]
      rw [this]
    · rw [List.cons_append]
      conv => lhs; unfold lk
      rw [if_neg h, ih]
      have : lk (x :: l) k = lk l k := by conv => lhs; unfold lk
                                          rw [if_neg h]
      rw [this]
theorem nd_app {t u : Tab} (h : ndT (t ++ u)) : ndT t ∧ ndT u ∧ ∀ k, k ∈ t.map (·.1) → k ∉ u.map (·.1) := by
  unfold ndT at h ⊢
  rw [List.map_append, List.nodup_append] at h
  exact ⟨h.1, h.2.1, fun k h1 h2 => h.2.2 k h1 k h2 rfl⟩
theorem lk_snoc {dn : Tab} {x : L8 × L8} (h : ndT (dn ++ [x])) : lk (dn ++ [x]) = setF (lk dn) x.1 x.2 := by
  obtain ⟨h1, _, h3⟩ := nd_app h
  rw [lk_app]
  funext k
  unfold orF setF
  by_cases hk : (k == x.1) = true
  · rw [if_pos hk]
    have hk := beq_iff_eq.1 hk
    subst hk
    have : lk dn x.1 = none := lk_none.2 fun hm => h3 _ hm (by simp)
    rw [this]
    simp [lk]
  · rw [if_neg hk]
    cases lk dn k with
    | none => simp only [lk]; rw [if_neg hk]
    | some v => rfl
theorem nd_part {l0 dn rest : Tab} {y : L8 × L8} (h : ndT l0) (hp : l0.Perm (dn ++ y :: rest)) : ndT (dn ++ [y]) := by
  have := nd_perm h hp
  rw [show dn ++ y :: rest = (dn ++ [y]) ++ rest by simp] at this
  exact (nd_app this).1
theorem mov_t {dn : Tab} {x : L8 × L8} {moved : Tab} {key tu s : L8} (h : ndT (dn ++ [x])) (hm : lk moved = movF (lk dn) key tu) (ht : tailOf x.1 key = some s) : lk (setL beqS moved (tu ++ s) x.2) = movF (lk (dn ++ [x])) key tu := by
  rw [lk_set, hm, lk_snoc h]
  have hx := (tail_some.1 ht).1
  funext n
  unfold setF movF
  by_cases hn : (n == tu ++ s) = true
  · rw [if_pos hn]
    have hn := beq_iff_eq.1 hn
    have : tailOf n tu = some s := tail_some.2 ⟨hn, (tail_some.1 ht).2⟩
    rw [this]
    simp [hx]
  · rw [if_neg hn]
    cases hq : tailOf n tu with
    | none => rfl
    | some s' =>
      simp only
      have hn' := (tail_some.1 hq).1
      rw [if_neg]
      intro he
      have he := beq_iff_eq.1 he
      rw [hx] at he
      have := List.append_cancel_left he
      subst this
      exact hn (by simp [hn'])
theorem mov_f {dn : Tab} {x : L8 × L8} {moved : Tab} {key tu : L8} (h : ndT (dn ++ [x])) (hm : lk moved = movF (lk dn) key tu) (ht : tailOf x.1 key = none) : lk moved = movF (lk (dn ++ [x])) key tu := by
  rw [hm, lk_snoc h]
  funext n
  unfold movF setF
  cases hq : tailOf n tu with
  | none => rfl
  | some s' =>
    simp only
    rw [if_neg]
    intro he
    have he := beq_iff_eq.1 he
    have : tailOf x.1 key = some s' := tail_some.2 ⟨he.symm, (tail_some.1 hq).2⟩
    rw [ht] at this; cases this
theorem copy_t {dn dst t0 : Tab} {x : L8 × L8} (h : ndT (dn ++ [x])) (hm : lk dst = orF (lk dn) (lk t0)) : lk (setL beqS dst x.1 x.2) = orF (lk (dn ++ [x])) (lk t0) := by
  rw [lk_set, hm, lk_snoc h]
  funext k
  unfold setF orF
  by_cases hk : (k == x.1) = true
  · rw [if_pos hk]; simp [hk]
  · rw [if_neg hk]; simp [hk]
theorem lk_filter {t : Tab} (h : ndT t) (p : L8 → Bool) : lk (t.filter fun x => p x.1) = fun k => if p k then lk t k else none := by
  funext k
  induction t with
  | nil => simp [lk]
  | cons x l ih =>
    obtain ⟨h1, h2⟩ := nd_cons.1 h
    rw [List.filter_cons]
    by_cases hp : p x.1 = true
    · rw [if_pos hp]
      conv => lhs; unfold lk
      by_cases hk : (k == x.1) = true
      · rw [if_pos hk]
        rw [beq_iff_eq.1 hk, if_pos hp]
        unfold lk; simp
      · rw [if_neg hk, ih h2]
        have : lk (x :: l) k = lk l k := by conv => lhs; unfold lk
                                            rw [if_neg hk]
        rw [this]
    · rw [if_neg hp, ih h2]
      by_cases hk : (k == x.1) = true
      · rw [beq_iff_eq.1 hk, if_neg hp, if_neg hp]
      · have : lk (x :: l) k = lk l k := by conv => lhs; unfold lk
                                            rw [if_neg hk]
        rw [this]
theorem off_filter {t : Tab} (h : ndT t) (key : L8) : lk (t.filter fun x => (tailOf x.1 key).isNone) = offF (lk t) key := by
  rw [lk_filter h fun k => (tailOf k key).isNone]
  funext k
  unfold offF
  cases tailOf k key <;> rfl
theorem nd_filter {t : Tab} (h : ndT t) (p : L8 × L8 → Bool) : ndT (t.filter p) := nd_sub h (List.filter_sublist)
theorem off_end {l0 dn tab : Tab} {key : L8} (h : ndT l0) (hp : l0.Perm dn) (hk : tab.Perm (dn.filter fun x => (tailOf x.1 key).isNone)) : ndT tab ∧ lk tab = offF (lk l0) key := by
  have h1 := nd_perm h hp
  have h2 : ndT (dn.filter fun x => (tailOf x.1 key).isNone) := nd_filter h1 _
  have h3 := nd_perm h2 hk.symm
  exact ⟨h3, by rw [lk_perm h3 h2 hk, off_filter h1, lk_perm h h1 hp]⟩
theorem kept_t {dn : Tab} {y : L8 × L8} {key : L8} {s : L8} (h : tailOf y.1 key = some s) : (dn ++ [y]).filter (fun x => (tailOf x.1 key).isNone) = dn.filter fun x => (tailOf x.1 key).isNone := by
  rw [List.filter_append]; simp [h]
theorem kept_f {dn : Tab} {y : L8 × L8} {key : L8} (h : tailOf y.1 key = none) : (dn ++ [y]).filter (fun x => (tailOf x.1 key).isNone) = (dn.filter fun x => (tailOf x.1 key).isNone) ++ [y] := by
  rw [List.filter_append]; simp [h]
theorem any_perm {α : Type} {l l' : List α} (p : α → Bool) (h : l.Perm l') : l.any p = l'.any p := by
  rw [Bool.eq_iff_iff, List.any_eq_true, List.any_eq_true]
  exact ⟨fun ⟨x, h1, h2⟩ => ⟨x, h.mem_iff.1 h1, h2⟩, fun ⟨x, h1, h2⟩ => ⟨x, h.mem_iff.2 h1, h2⟩⟩
structure Rul where
  kd : Int
  k : L8
  tu : L8
  old : L8
  nu : L8
def Rul.z : Rul := ⟨0, [], [], [], []⟩
def rulD (r : Rul) : List D := [.int .i64 r.kd, .str r.k, .str r.tu, .str r.old, .str r.nu]
structure EqT (t u : Tab) : Prop where
  l : ndT t
  r : ndT u
  e : lk t = lk u
theorem EqT.refl {t : Tab} (h : ndT t) : EqT t t := ⟨h, h, rfl⟩
theorem EqT.perm {t u : Tab} (h : EqT t u) : t.Perm u := perm_lk h.l h.r h.e
theorem EqT.len {t u : Tab} (h : EqT t u) : t.length = u.length := h.perm.length_eq
theorem EqT.trans {t u v : Tab} (h : EqT t u) (k : EqT u v) : EqT t v := ⟨h.l, k.r, h.e.trans k.e⟩
def movT (t : Tab) (key tu : L8) : Tab := t.filterMap fun x => (tailOf x.1 key).map fun s => (tu ++ s, x.2)
def copyT (t u : Tab) : Tab := t.foldl (fun a x => setL beqS a x.1 x.2) u
def prefT (t : Tab) (key tu : L8) : Tab := copyT (movT t key tu) (t.filter fun x => (tailOf x.1 key).isNone)
theorem mov_keys {t : Tab} {key tu k : L8} : k ∈ (movT t key tu).map (·.1) ↔ ∃ x ∈ t, ∃ s, tailOf x.1 key = some s ∧ k = tu ++ s := by
  unfold movT
  rw [List.mem_map]
  constructor
  · rintro ⟨y, hy, rfl⟩
    obtain ⟨x, hx, he⟩ := List.mem_filterMap.1 hy
    obtain ⟨s, hs, rfl⟩ := Option.map_eq_some_iff.1 he
    exact ⟨x, hx, s, hs, rfl⟩
  · rintro ⟨x, hx, s, hs, rfl⟩
    exact ⟨(tu ++ s, x.2), List.mem_filterMap.2 ⟨x, hx, by rw [hs]; rfl⟩, rfl⟩
theorem nd_mov {t : Tab} (h : ndT t) (key tu : L8) : ndT (movT t key tu) := by
  induction t with
  | nil => exact nd_nil
  | cons x l ih =>
    obtain ⟨h1, h2⟩ := nd_cons.1 h
    unfold movT
    rw [List.filterMap_cons]
    cases ht : tailOf x.1 key with
    | none => exact ih h2
    | some s =>
      refine nd_cons.2 ⟨fun hm => h1 ?_, ih h2⟩
      obtain ⟨y, hy, s', hs', he⟩ := mov_keys.1 hm
      have := List.append_cancel_left he
      subst this
      rw [(tail_some.1 ht).1, ← (tail_some.1 hs').1]
      exact List.mem_map.2 ⟨y, hy, rfl⟩
theorem lk_mov {t : Tab} (h : ndT t) (key tu : L8) : lk (movT t key tu) = movF (lk t) key tu := by
  funext n
  have hm := nd_mov h key tu
  cases hv : movF (lk t) key tu n with
  | some v =>
    unfold movF at hv
    cases hq : tailOf n tu with
    | none => rw [hq] at hv; cases hv
    | some s =>
      rw [hq] at hv
      have h1 := (lk_mem h).1 hv
      refine (lk_mem hm).2 (List.mem_filterMap.2 ⟨_, h1, ?_⟩)
      have h2 : tailOf (key ++ s) key = some s := tail_some.2 ⟨rfl, (tail_some.1 hq).2⟩
      simp [h2, (tail_some.1 hq).1]
  | none =>
    refine lk_none.2 fun hk => ?_
    obtain ⟨x, hx, s, hs, rfl⟩ := mov_keys.1 hk
    have h2 : tailOf (tu ++ s) tu = some s := tail_some.2 ⟨rfl, (tail_some.1 hs).2⟩
    unfold movF at hv
    rw [h2] at hv
    simp only at hv
    rw [lk_none] at hv
    exact hv (by rw [← (tail_some.1 hs).1]; exact List.mem_map.2 ⟨x, hx, rfl⟩)
theorem nd_copy : ∀ (t : Tab) {u : Tab}, ndT u → ndT (copyT t u)
  | [], u, h => h
  | x :: t, u, h => nd_copy t (nd_set h _ _)
theorem lk_copy : ∀ (t : Tab) {u : Tab}, ndT t → lk (copyT t u) = orF (lk t) (lk u)
  | [], u, _ => rfl
  | x :: t, u, h => by
    obtain ⟨h1, h2⟩ := nd_cons.1 h
    show lk (copyT t (setL beqS u x.1 x.2)) = _
    rw [lk_copy t h2, lk_set]
    funext k
    unfold orF setF
    by_cases hk : (k == x.1) = true
    · rw [if_pos hk]
      have : lk t k = none := lk_none.2 (by rw [beq_iff_eq.1 hk]; exact h1)
      have h3 : lk (x :: t) k = some x.2 := by unfold lk; rw [if_pos hk]
      rw [this, h3]
    · rw [if_neg hk]
      have h3 : lk (x :: t) k = lk t k := by conv => lhs; unfold lk
                                             rw [if_neg hk]
      rw [h3]
theorem nd_pref {t : Tab} (h : ndT t) (key tu : L8) : ndT (prefT t key tu) := nd_copy _ (nd_filter h _)
theorem lk_pref {t : Tab} (h : ndT t) (key tu : L8) : lk (prefT t key tu) = prefF (lk t) key tu := by
  unfold prefT prefF
  rw [lk_copy _ (nd_mov h key tu), lk_mov h, off_filter h]
def doT (t : Tab) (r : Rul) : Tab :=
  if r.kd == 1 then (if hasL beqS t r.k then setL beqS (delL beqS t r.k) r.tu (getL beqS [] t r.k) else t)
  else if r.kd == 2 then prefT t r.k r.tu
  else if r.kd == 3 then (if hasL beqS t r.k then setL beqS t r.tu (getL beqS [] t r.k) else t)
  else if r.kd == 4 then setL beqS t r.k r.nu
  else if r.kd == 5 then (if hasL beqS t r.k then t else setL beqS t r.k r.nu)
  else if r.kd == 6 then delL beqS t r.k
  else if hasL beqS t r.k && getL beqS [] t r.k == r.old then setL beqS t r.k r.nu
  else if hasL beqS t r.k && getL beqS [] t r.k == r.nu && r.kd == 8 then setL beqS t r.k r.old
  else t
theorem nd_do {t : Tab} (h : ndT t) (r : Rul) : ndT (doT t r) := by
  unfold doT
  repeat' split
  all_goals first | exact h | exact nd_set (nd_del h _) _ _ | exact nd_pref h _ _ | exact nd_set h _ _ | exact nd_del h _
theorem EqT.has {t u : Tab} (h : EqT t u) (k : L8) : hasL beqS t k = hasL beqS u k := by rw [has_lk, has_lk, h.e]
theorem EqT.get {t u : Tab} (h : EqT t u) (k : L8) : getL beqS [] t k = getL beqS [] u k := by rw [get_lk, get_lk, h.e]
theorem EqT.set {t u : Tab} (h : EqT t u) (k v : L8) : EqT (setL beqS t k v) (setL beqS u k v) := ⟨nd_set h.l _ _, nd_set h.r _ _, by rw [lk_set, lk_set, h.e]⟩
theorem EqT.del {t u : Tab} (h : EqT t u) (k : L8) : EqT (delL beqS t k) (delL beqS u k) := ⟨nd_del h.l _, nd_del h.r _, by rw [lk_del h.l, lk_del h.r, h.e]⟩
theorem EqT.pref {t u : Tab} (h : EqT t u) (key tu : L8) : EqT (prefT t key tu) (prefT u key tu) := ⟨nd_pref h.l _ _, nd_pref h.r _ _, by rw [lk_pref h.l, lk_pref h.r, h.e]⟩
theorem EqT.do {t u : Tab} (h : EqT t u) (r : Rul) : EqT (doT t r) (doT u r) := by
  unfold doT
  simp only [h.has, h.get]
  repeat' split
  all_goals first | exact h | exact (h.del _).set _ _ | exact h.pref _ _ | exact h.set _ _ | exact h.del _
theorem EqT.any {t u : Tab} (h : EqT t u) (p : L8 × L8 → Bool) : t.any p = u.any p := any_perm p h.perm
theorem EqT.list {t u : Tab} (h : EqT t u) : listT t = listT u := listT_lk h.l h.r h.e
end Go.Proofs.YtcchfmilleffjaaGreatDoor
