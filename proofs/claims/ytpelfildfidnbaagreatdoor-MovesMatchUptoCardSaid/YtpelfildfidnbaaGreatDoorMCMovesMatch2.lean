/- Part 2 of a proof: A43, A44, A62, Sh, A20, Shelf, P0, L1, V1, W1, V2, L2, W2, V3, W3, P1, V4, W4, V5, W5, V6, L3, W6, W7, V7, W8, V8, W9, V9, W10, W11, V10, V11, V12, V13, V14, V15, V16, V21, W30, V20. -/
import Derived.Shelf.Strings.Builder1
import Derived.Shelf.Strings.Builder2
import Derived.Shelf.Strings.Trim
import Derived.Shelf.Small.Utf8
import Derived.Shelf.Small.Bits
import Derived.Shelf.Small.Strs
import Derived.Shelf.Small.Wraps
import Derived.Shelf.Strings.BuilderF
import Derived.Shelf.Strings.BuilderK
import Derived.Shelf.Utf8.RuneCount
import Derived.Shelf.Strings.Builder2Cap
import Derived.Shelf.Strconv.Atoi
import Derived.Shelf.Strconv.Itoa0
import Derived.Shelf.Strconv.Itoa1
import Derived.Shelf.LaysM
import Derived.Shelf.Strconv.Itoa2
import Derived.Shelf.Strconv.Itoa3
import Derived.Shelf.Strconv.AtoiErrFast
import Derived.Shelf.Strconv.ParseIntEmpty
import Derived.Shelf.Strconv.AtoiFail
import Derived.Shelf.Strconv.Clone
import Derived.Shelf.Strconv.SyntaxError
import Derived.Shelf.LaysC
import Derived.Shelf.Strconv.ToError
import Derived.Shelf.Strconv.Lower
import Derived.Shelf.Strconv.ParseUint10
import Derived.Shelf.Strconv.ParseUint10Empty
import Derived.Shelf.Strconv.ParseUint10Any
import Derived.Shelf.Strconv.ParseInt10
import Derived.Shelf.Strconv.AtoiLong
import Derived.Shelf.Strconv.AtoiInnerAll
import Derived.Shelf.Strconv.RangeError
import Derived.Shelf.Strconv.ToErrorRange
import Derived.Shelf.Strconv.AtoiAll
import Derived.Shelf.Strconv.ErrVarAll
import Derived.Shelf.Strconv.ParseUintEmpty
import Derived.Shelf.Strconv.ParseUint10b64
import Derived.Shelf.Strconv.ParseUint10b32
import Derived.Shelf.Strconv.ParseUint10b16
import Derived.Shelf.Strconv.ParseUint10b8
import Derived.Shelf.Strings.Search1
import Derived.Shelf.Strings.Search2
import Derived.Shelf.Strings.Search3
import Derived.Shelf.Strings.Cut
import Derived.Shelf.Strings.Count
import Derived.Shelf.Strings.Shaped
import Derived.Shelf.Sort.Plain
import Derived.Shelf.Strings.Prefix
import Derived.Shelf.Strings.Split
import Derived.Shelf.Strings.Replace
import Derived.Shelf.Strings.SplitShaped
import Derived.Shelf.Unicode.Decode
import Derived.Shelf.Strings.Runes
import Derived.Shelf.Strings.RuneCount
import Derived.Shelf.Strings.AsciiSet
import Derived.Shelf.Strings.Explode
import Derived.Shelf.Unicode.DecodeSlow
import Derived.Shelf.Unicode.DecodeAny
import Derived.Shelf.Unicode.DecodeLast
import Derived.Shelf.Slices.Turned
import Derived.Shelf.Slices.Equal
import Derived.Ground.Names2Prog
import Derived.Shelf.Slices.Clone
import Derived.Shelf.Slices.SearchI
import Derived.Shelf.Slices.In.SortNone
import Derived.Shelf.Slices.Empties2
import Derived.Ground.SlgnProg
import Derived.Shelf.SlicesE.Clone
import Derived.Test.YtpelfildfidnbaaGreatDoorProg
import Derived.Lib.SplitLaws
import Derived.Lib.ItoaNum
import Derived.Lib.AtoiAll
import Derived.Shelf.Strings.SlTrimAscii
import Derived.Lib.TrailingZeros
import Derived.Lib.Small
import Derived.Lib.Bytealg
import Derived.Lib.IndexMore
import Derived.Lib.ItoaLen
import Derived.Lib.SlTrimSet
import Derived.Lib.AtoiTie
import Derived.Lib.Join
import Derived.Test.YtpelfildfidnbaaGreatDoorMCMovesMatch1
set_option linter.unusedVariables false
set_option linter.unusedSimpArgs false
set_option maxRecDepth 100000
set_option maxHeartbeats 4000000
namespace Go.Proofs.YtpelfildfidnbaaGreatDoor
section
open Go Go.RowKit
def isX {X : Type} (φ : X → Prop) (rv : X → V) (b : X → List (List C)) (r : X → List (Option RowO)) (m : X → List (List (DV × DV))) : HPost := fun rv' b' r' m' => ∃ x, φ x ∧ isH (rv x) (b x) (r x) (m x) rv' b' r' m'
section
variable {J : Inv} {P : Program} {f : FuncId} {args : List V} {b : List (List C)} {r : List (Option RowO)} {m : List (List (DV × DV))} {B : List (List C)} {R : List (Option RowO)} {M : List (List (DV × DV))} {X : Type} {φ : X → Prop}
theorem HCall.frameX {rv Rv : X → V} {b' B' : X → List (List C)} {r' R' : X → List (Option RowO)} {m' M' : X → List (List (DV × DV))} (pc : HCall P J f args b r m (isX φ rv b' r' m')) (ρb ρr ρm : List Nat) {Args : List V}
  (hA : renVs (renOf ρb ρr ρm B.length R.length M.length) args = Args)
  (hb : pickL B ρb = some (renB (renOf ρb ρr ρm B.length R.length M.length) b)) (hr : pickL R ρr = some r) (hm : pickL M ρm = some m)
  (hok : ((nodupB ρb && (nodupB ρr && nodupB ρm)) && ((allLt ρb B.length && (allLt ρr R.length && allLt ρm M.length)) && (loVs b.length r.length m.length args && loB b.length r.length m.length b))) = true)
  (h1 : ∀ x, renV (renOf ρb ρr ρm B.length R.length M.length) (rv x) = Rv x) (h2 : ∀ x, putL B ρb (renB (renOf ρb ρr ρm B.length R.length M.length) (b' x)) = B' x) (h3 : ∀ x, putL R ρr (r' x) = R' x) (h4 : ∀ x, putL M ρm (m' x) = M' x) :
  HCall P J f Args B R M (isX φ Rv B' R' M') :=
 (pc.frame ρb ρr ρm hA hb hr hm hok).mono fun rv B' R' M' ⟨rv0, b0, r0, m0, ⟨x, hx, e1, e2, e3, e4⟩, e5, e6, e7, e8⟩ => by
  subst e1; subst e2; subst e3; subst e4
  exact ⟨x, hx, e5.trans (h1 x), e6.trans (h2 x), e7.trans (h3 x), e8.trans (h4 x)⟩
def HEndsX (k0 : Lens) (k1 : X → Lens) (T : TypeId → Option TI) (fn : Func) (φ : X → Prop) (rv : X → V) (b' : X → List (List C)) (r' : X → List (Option RowO)) (m' : X → List (List (DV × DV))) : Ex → St → Prop :=
 fun e s => ∃ x, φ x ∧ HEndsD k0 (k1 x) T fn (rv x) (b' x) (r' x) (m' x) e s
theorem HCall.ofX {T : TypeId → Option TI} (hT : TabOk P T) (k1 : X → Lens) {fn : Func} {c : Code} {rv : X → V} {b' : X → List (List C)} {r' : X → List (Option RowO)} {m' : X → List (List (DV × DV))} (hf : P.funcs[f]? = some fn)
  (hname : (fn.name == "runtime.NumGoroutine") = false) (hb : fn.body = some c) (hn : args.length ≤ fn.ntmps)
  (h : ∀ E : Env J ⟨b.length, r.length, m.length⟩, W E P fn.ntmps c (HEndsX ⟨b.length, r.length, m.length⟩ k1 T fn φ rv b' r' m') ⟨argsV args, b, r, m⟩) : HCall P J f args b r m (isX φ rv b' r' m') := by
 refine HCall.le (HCall.of_body hT hf hname hb hn (fun E => (h E).mono ?_))
 have key : ∀ s, (∃ x, φ x ∧ ∃ vs, resAll T fn.ntmps s fn.results.toList = some vs ∧ (loV (k1 x).L (k1 x).R (k1 x).M (resV vs) && (Nat.ble (k1 x).L s.b.length && (Nat.ble (k1 x).R s.r.length && (Nat.ble (k1 x).M s.m.length &&
   (loB (k1 x).L (k1 x).R (k1 x).M (s.b.take (k1 x).L) && (Nat.ble b.length (k1 x).L && (Nat.ble r.length (k1 x).R && Nat.ble m.length (k1 x).M))))))) = true ∧ LeG (resV vs) (rv x) ∧ s.b.take (k1 x).L = b' x ∧ s.r.take (k1 x).R = r' x ∧ s.m.take (k1 x).M = m' x) →
   ∃ vs, resAll T fn.ntmps s fn.results.toList = some vs ∧ ((∃ rv', LeG (resV vs) rv' ∧ isX φ rv b' r' m' rv' s.b s.r s.m) ∨ ∃ k1 : Lens, (loV k1.L k1.R k1.M (resV vs) && (Nat.ble k1.L s.b.length && (Nat.ble k1.R s.r.length && (Nat.ble k1.M s.m.length &&
   (loB k1.L k1.R k1.M (s.b.take k1.L) && (Nat.ble b.length k1.L && (Nat.ble r.length k1.R && Nat.ble m.length k1.M))))))) = true ∧ ∃ rv', LeG (resV vs) rv' ∧ isX φ rv b' r' m' rv' (s.b.take k1.L) (s.r.take k1.R) (s.m.take k1.M)) :=
  fun s ⟨x, hx, vs, h1, h2, h3, h4, h5, h6⟩ => ⟨vs, h1, .inr ⟨k1 x, h2, rv x, h3, x, hx, rfl, h4, h5, h6⟩⟩
 intro e s hs
 cases e with
 | normal => obtain ⟨x, hx, hs⟩ := hs; exact key s ⟨x, hx, hs⟩
 | exit id => obtain ⟨x, hx, hs⟩ := hs; exact hs.elim
 | ret => obtain ⟨x, hx, hs⟩ := hs; exact key s ⟨x, hx, hs⟩
end
section
variable {J : Inv} {k0 : Lens} {E : Env J k0} {P : Program} {T : TypeId → Option TI} {n : Nat} {t : Nat → V} {b : List (List C)} {r : List (Option RowO)} {m : List (List (DV × DV))} {ops : Array Oper} {l : List Oper}
  {K : St → Prop} {i : Nat} {ty : TypeId} {pos : String} {after : Array Edge}
theorem S.hcallX {X : Type} {φ : X → Prop} {dst : Option Nat} {fo : Operand} {args : Array Operand} {ats : Array TypeId} {u : V} {f : FuncId} {caps : List C} {us ws : List V} {rv : X → V} {b' : X → List (List C)} {r' : X → List (Option RowO)} {m' : X → List (List (DV × DV))}
  (hu : opd n ⟨t, b, r, m⟩ fo = (true, u)) (hc : calleeV u = some (f, caps))
  (ha : allOpdL n ⟨t, b, r, m⟩ args.toList = (true, us)) (hw : forceVs (appL us (caps.map V.one)) = some ws) (pc : HCall P J f ws b r m (isX φ rv b' r' m'))
  (k : ∀ x, φ x → WL E P n ops l K ⟨updO t dst (rv x), b' x, r' x, m' x⟩) : WL E P n ops (⟨dst, .call ⟨.value fo, args, ats⟩, ty, pos, after, none⟩ :: l) K ⟨t, b, r, m⟩ :=
 S.hcall hu hc ha hw pc (fun _ _ _ _ ⟨x, hx, h1, h2, h3, h4⟩ => by rw [h1, h2, h3, h4]; exact k x hx)
theorem S.sure {dst : Option Nat} {op : Op} {j : Nat} {want : Bool} (hg : guardV n ops t j want = some true) (k : WL E P n ops (⟨dst, op, ty, pos, after, none⟩ :: l) K ⟨t, b, r, m⟩) : WL E P n ops (⟨dst, op, ty, pos, after, some (j, want)⟩ :: l) K ⟨t, b, r, m⟩ := by
 intro g a w rel next Q hn
 have h1 := guardB_ok (o := ⟨dst, op, ty, pos, after, some (j, want)⟩) rel rfl (guardV_B (b := b) (r := r) (m := m) hg)
 rw [h1, if_pos rfl]
 have h2 := k g a w rel next Q hn
 rw [if_pos (by simp [Region.wanted])] at h2
 exact h2
variable {α β : Type} {kind : TypeDesc} {enc : α → D} {val : α → Value} {same : α → α → Bool}
theorem S.mapDeleteSt (hT : TabOk P T) (ke : KeyOk kind enc val same) (hsame : ∀ a b, same a b = true ↔ a = b) {tm kt et tk : TypeId} {ti ki : TI} {x y : Operand} {mi : Nat} {M : List (DV × DV)} {j born c : Nat} {e0 : α × β} {fD : β → DV} {l0 : List (α × β)}
  (hst : StM enc fD l0 M j born c e0) (hnd : (l0.map (·.1)).Nodup) (hti : T tm = some ti) (hd : ti.desc = .map kt et) (hki : T kt = some ki) (hkd : ki.desc = kind)
  (hx : opd n ⟨t, b, r, m⟩ x = (true, .one (.map mi))) (hy : opd n ⟨t, b, r, m⟩ y = (true, .one (.d (enc e0.1)))) (hm : m[mi]? = some M)
  {m' : List (List (DV × DV))} (hm' : m.set mi (M.eraseIdx j) = m') (k : WL E P n ops l K ⟨t, b, r, m'⟩) : WL E P n ops (⟨none, .call ⟨.builtin .delete, #[x, y], #[tm, tk]⟩, ty, pos, after, none⟩ :: l) K ⟨t, b, r, m⟩ := by
 subst hm'
 obtain ⟨T0, rfl, hj, hsub⟩ := hst
 intro g a w rel next Q hn
 have hw : Region.wanted (⟨none, .call ⟨.builtin .delete, #[x, y], #[tm, tk]⟩, ty, pos, after, none⟩ : Oper) (yielded ops a.tmps) = true := by simp [Region.wanted]
 rw [if_pos hw]
 have hp := opd_ok rel hx rfl
 have hq := opd_ok rel hy rfl
 generalize hxx : a.eval x = xv at hp
 generalize hyy : a.eval y = yv at hq
 cases hp with | one _ _ hp => cases hp with | map _ hmi =>
 have hyv : yv = val e0.1 := ke.eq (a := e0.1) hq
 subst hyv
 have h1 := (hT tm ti hti).1
 have h2 := (hT kt ki hki).1
 rw [hd] at h1; rw [hkd] at h2
 have rel' := rel.unSt hm
 have hmi' : mi < m.length := (List.getElem?_eq_some_iff.1 hm).1
 obtain ⟨arr, clock, q1, q2, q3, q4⟩ := map_find (s := ⟨t, b, r, m.set mi (mapOf enc fD (T0.map (·.2)))⟩) ke rel' (show (m.set mi (mapOf enc fD (T0.map (·.2))))[mi]? = some (mapOf enc fD (T0.map (·.2))) by simp [List.getElem?_set, hmi']) e0.1
 obtain ⟨arr2, clock2, o1, o2, o3⟩ := rel.heap.map mi _ hm
 obtain ⟨rfl, rfl⟩ : arr = arr2 ∧ clock = clock2 := by rw [q1] at o1; simpa using o1
 have hndT : ((T0.map (·.2)).map (·.1)).Nodup := (hsub.map _).nodup hnd
 have hjl : (T0.map (·.2))[j]? = some e0 := by rw [List.getElem?_map, hj]; rfl
 obtain ⟨A, hA⟩ : ∃ A, A = g.at_ (.m mi) := ⟨_, rfl⟩
 rw [← hA] at q1
 rcases q4 with ⟨p1, p2, _, p4, _⟩ | ⟨p1, p, x', e, p2, p3, p4, p5, _, p7, _⟩
 ·skip
  exfalso
  have : hasL same (T0.map (·.2)) e0.1 = true := by
   unfold hasL
   rw [List.any_eq_true]
   exact ⟨e0, List.mem_of_getElem? hjl, (hsame _ _).2 rfl⟩
  rw [p1] at this; cases this
 ·skip
  obtain rfl : p = j := by
   have h5 := (hsame _ _).1 p5
   have h6 : ((T0.map (·.2)).map (·.1))[p]? = some e0.1 := by rw [List.getElem?_map, p2, h5]; rfl
   have h7 : ((T0.map (·.2)).map (·.1))[j]? = some e0.1 := by rw [List.getElem?_map, hjl]; rfl
   exact (List.getElem?_inj (List.getElem?_eq_some_iff.1 h6).1 hndT).1 (h6.trans h7.symm)
  have hpl : p < arr.size := (Array.getElem?_eq_some_iff.1 p3).1
  have hTl : T0.length = arr.size := by rw [o2.1.len]; simp [stMap]
  have hget : ∀ i, (arr.eraseIdxIfInBounds p)[i]? = if i < p then arr[i]? else arr[i + 1]? := fun i => by
   unfold Array.eraseIdxIfInBounds
   rw [dif_pos hpl, Array.getElem?_eraseIdx]
  have hgetT : ∀ i, (stMap c enc fD T0 |>.eraseIdx p)[i]? = if i < p then (stMap c enc fD T0)[i]? else (stMap c enc fD T0)[i + 1]? := fun i => by
   rw [List.getElem?_eraseIdx]
  have hfit : MapFitE (arr.eraseIdxIfInBounds p) clock ((stMap c enc fD T0).eraseIdx p) := by
   refine ⟨⟨?_, fun i f h => ?_, fun i j f f2 h h' hbb => ?_⟩, fun i z f hz hf => ?_⟩
   ·skip
    unfold Array.eraseIdxIfInBounds
    rw [dif_pos hpl, Array.size_eraseIdx, List.length_eraseIdx, if_pos (by simp [stMap]; omega)]
    simp [stMap, hTl]
   ·skip
    rw [hget] at h
    split at h
    ·skip
     exact o2.1.born _ f h
    ·skip
     exact o2.1.born _ f h
   ·skip
    rw [hget] at h h'
    split at h <;> split at h' <;> (have := o2.1.dist _ _ f f2 h h' hbb; omega)
   ·skip
    rw [hgetT] at hz; rw [hget] at hf
    split at hz
    ·skip
     rename_i hi; rw [if_pos hi] at hf; exact o2.2 i z f hz hf
    ·skip
     rename_i hi; rw [if_neg hi] at hf; exact o2.2 (i + 1) z f hz hf
  have hrun0 : (Builtin.delete_ #[tm, tk] ty #[.map (some A), val e0.1]).run P w = .ok (.tuple #[]) { w with heap := w.heap.setIfInBounds A (.map (arr.eraseIdxIfInBounds p) clock) } := by
   simp [Builtin.delete_, MapKept.run_setObj_map _ q1, run_underlying h1, MapKept.run_getObj_map q1, ke.chk P w _ kt e0.1 h2, run_findKey_now h2 p4]
  have hrun : (execOp a.eval (⟨none, .call ⟨.builtin .delete, #[x, y], #[tm, tk]⟩, ty, pos, after, none⟩ : Oper)).run P w = .ok (.value (.tuple #[])) { w with heap := w.heap.setIfInBounds A (.map (arr.eraseIdxIfInBounds p) clock) } := by
   simp only [execOp, resolve, invoke, builtin, Sem.run_bind, Sem.run_pure, Result.andThen_ok, List.map_toArray, List.map_cons, List.map_nil, hxx, hyy, ← hA, hrun0]
  unfold Oper.wp
  rw [hrun]
  have := rel.setMap (es' := (stMap c enc fD T0).eraseIdx p) hm hfit (fun i z f hz hf => by
   rw [hgetT] at hz; rw [hget] at hf
   split at hz
   ·skip
    rename_i hi; rw [if_pos hi] at hf; exact o3 i z f hz hf
   ·skip
    rename_i hi; rw [if_neg hi] at hf; exact o3 (i + 1) z f hz hf)
  rw [← hA] at this
  exact hn _ g _ _ k (this.put_same none (u := .junk) (.junk _))
end
end
end Go.Proofs.YtpelfildfidnbaaGreatDoor
namespace Go.Proofs.YtpelfildfidnbaaGreatDoor
section
open Go Go.RowKit
def evF (T : TypeId → Option TI) (n : Nat) (s : St) (op : Op) : Option V :=
 match evP T n s op with
 | some (true, v) => forceV v
 | _ => none
theorem evF_ok {T : TypeId → Option TI} {n : Nat} {s : St} {op : Op} {v : V} (h : evF T n s op = some v) : ∃ v0, evP T n s op = some (true, v0) ∧ forceV v0 = some v := by
 unfold evF at h
 split at h
 ·skip
  exact ⟨_, ‹_›, h⟩
 ·skip
  cases h
theorem HCall.fd {J : Inv} {P : Program} {f : FuncId} {args : List V} {b B : List (List C)} {r R : List (Option RowO)} {m M : List (List (DV × DV))} {rv Rv : V} {b' B' : List (List C)} {r' R' : List (Option RowO)} {m' M' : List (List (DV × DV))} (pc : HCall P J f args b r m (isH rv b' r' m')) (ρb ρr ρm : List Nat) {Args : List V}
  (h : (renVs (renOf ρb ρr ρm B.length R.length M.length) args, pickL B ρb, pickL R ρr, pickL M ρm, ((nodupB ρb && (nodupB ρr && nodupB ρm)) && ((allLt ρb B.length && (allLt ρr R.length && allLt ρm M.length)) && (loVs b.length r.length m.length args && loB b.length r.length m.length b))),
   renV (renOf ρb ρr ρm B.length R.length M.length) rv, putL B ρb (renB (renOf ρb ρr ρm B.length R.length M.length) b'), putL R ρr r', putL M ρm m') = (Args, some (renB (renOf ρb ρr ρm B.length R.length M.length) b), some r, some m, true, Rv, B', R', M')) :
  HCall P J f Args B R M (isH Rv B' R' M') := by
 simp only [Prod.mk.injEq] at h
 obtain ⟨h1, h2, h3, h4, h5, h6, h7, h8, h9⟩ := h
 exact pc.frameD ρb ρr ρm h1 h2 h3 h4 h5 h6 h7 h8 h9
section
variable {J : Inv} {k0 : Lens} {E : Env J k0} {n : Nat} {t : Nat → V} {b : List (List C)} {r : List (Option RowO)} {m : List (List (DV × DV))} {ops : Array Oper} {l : List Oper}
  {K : St → Prop} {i j : Nat} {ty : TypeId} {pos : String} {after : Array Edge} {op : Op} {v : V} {c want : Bool}
theorem Yp (h : evF T n ⟨t, b, r, m⟩ op = some v) (k : WL E Tryz.prog n ops l K ⟨upd t i v, b, r, m⟩) : WL E Tryz.prog n ops (⟨some i, op, ty, pos, after, none⟩ :: l) K ⟨t, b, r, m⟩ := by
 obtain ⟨v0, h1, h2⟩ := evF_ok h
 exact S.pure tOk zOk h1 rfl h2 k
theorem Yg (hg : guardV n ops t j want = some c) (h : evF T n ⟨bare t, b, r, m⟩ op = some v) (ht : allT c (tagsO t op.operands.toList)) (k : WL E Tryz.prog n ops l K ⟨upd t i (.when c v), b, r, m⟩) :
  WL E Tryz.prog n ops (⟨some i, op, ty, pos, after, some (j, want)⟩ :: l) K ⟨t, b, r, m⟩ := by
 obtain ⟨v0, h1, h2⟩ := evF_ok h
 exact S.pureG tOk zOk hg h1 ht (fun _ => rfl) h2 k
theorem Ym (hcl : Nat.blt (cls op) 2 = true) (h : evF T n ⟨t, b, r, m⟩ op = some v) (k : WD E Tryz.prog n ops l K ⟨upd t i v, b, r, m⟩) : WD E Tryz.prog n ops (⟨some i, op, ty, pos, after, none⟩ :: l) K ⟨t, b, r, m⟩ := by
 obtain ⟨v0, h1, h2⟩ := evF_ok h
 exact D.pure tOk zOk hcl h1 rfl h2 k
theorem Yy (hcl : Nat.blt (cls op) 2 = true) (hg : guardV n ops t j want = some c) (h : evF T n ⟨bare t, b, r, m⟩ op = some v) (ht : allT c (tagsO t op.operands.toList)) (k : WD E Tryz.prog n ops l K ⟨upd t i (.when c v), b, r, m⟩) :
  WD E Tryz.prog n ops (⟨some i, op, ty, pos, after, some (j, want)⟩ :: l) K ⟨t, b, r, m⟩ := by
 obtain ⟨v0, h1, h2⟩ := evF_ok h
 exact D.pureG tOk zOk hcl hg h1 ht (fun _ => rfl) h2 k
theorem YP {ok : Bool} {v0 : V} (he : evP T n ⟨t, b, r, m⟩ op = some (ok, v0)) (hok : ok = true) (hf : forceV v0 = some v) (k : WL E Tryz.prog n ops l K ⟨upd t i v, b, r, m⟩) :
  WL E Tryz.prog n ops (⟨some i, op, ty, pos, after, none⟩ :: l) K ⟨t, b, r, m⟩ := S.pure tOk zOk he hok hf k
theorem YG {ok : Bool} {v0 : V} (hg : guardV n ops t j want = some c) (he : evP T n ⟨bare t, b, r, m⟩ op = some (ok, v0)) (ht : allT c (tagsO t op.operands.toList)) (hok : c = true → ok = true) (hf : forceV v0 = some v)
  (k : WL E Tryz.prog n ops l K ⟨upd t i (.when c v), b, r, m⟩) : WL E Tryz.prog n ops (⟨some i, op, ty, pos, after, some (j, want)⟩ :: l) K ⟨t, b, r, m⟩ := S.pureG tOk zOk hg he ht hok hf k
theorem YE {ok : Bool} {v0 v1 : V} (he : evP T n ⟨t, b, r, m⟩ op = some (ok, v0)) (hok : ok = true) (hv : v0 = v1) (hf : forceV v1 = some v) (k : WL E Tryz.prog n ops l K ⟨upd t i v, b, r, m⟩) :
  WL E Tryz.prog n ops (⟨some i, op, ty, pos, after, none⟩ :: l) K ⟨t, b, r, m⟩ := S.pureE tOk zOk he hok hv hf k
end
section
variable {J : Inv} {k0 : Lens} {E : Env J k0} {n : Nat} {K : Ex → St → Prop} {N : St → Prop} {s : St} {id : Nat} {x y : Code} {P : Program}
theorem Yn (h : N s) : thenK N K .normal s := h
theorem Yu (h : K .ret s) : thenK N K .ret s := h
theorem Ye (h : K (.exit id) s) : thenK N K (.exit id) s := h
theorem Yw (h : K .normal s) : blockK id K .normal s := h
theorem Yv (h : K .ret s) : blockK id K .ret s := h
theorem Yx (h : K .normal s) : blockK id K (.exit id) s := blockK_x h
theorem Ys (h : W E P n x (thenK (W E P n y K) K) s) : W E P n (.seq x y) K s := W.seq h
theorem Yr {l : List Oper} (h : WL E P n l.toArray l (K .normal) s) : W E P n (.region id l.toArray false) K s := W.region h
theorem Y1 {l : List Oper} (h : WL E P n l.toArray l (thenK (W E P n y K) K .normal) s) : W E P n (.seq (.region id l.toArray false) y) K s := W.seq (W.region h)
theorem Y3 {l : List Oper} {K' : Ex → St → Prop} (h : WL E P n l.toArray l (thenK (W E P n y K) K .normal) s) : thenK (W E P n (.seq (.region id l.toArray false) y) K) K' .normal s := thenK_n (W.seq (W.region h))
theorem Y4 {l : List Oper} {K' : Ex → St → Prop} (h : WL E P n l.toArray l (K .normal) s) : thenK (W E P n (.region id l.toArray false) K) K' .normal s := thenK_n (W.region h)
theorem Yt (h : K .ret s) : W E P n .ret K s := W.ret h
theorem Yb (h : W E P n x (blockK id K) s) : W E P n (.block id x) K s := W.block h
theorem Yk (h : K .normal s) : W E P n .skip K s := W.skip h
theorem Yq (h : K (.exit id) s) : W E P n (.exit id) K s := W.exit h
theorem Yz {fn : Func} {vs : List V} {v r : V} (h1 : resAll T fn.ntmps s fn.results.toList = some vs) (h2 : Go.Proofs.YtpelfildfidnbaaGreatDoor.pureR (resV vs) = true) (h3 : forceV (resV vs) = some v) (h : v = r) :
  ∃ vs, resAll T fn.ntmps s fn.results.toList = some vs ∧ Go.Proofs.YtpelfildfidnbaaGreatDoor.pureR (resV vs) = true ∧ LeV (resV vs) r := ⟨vs, h1, h2, LeV.of_force h3 h⟩
end
end
end Go.Proofs.YtpelfildfidnbaaGreatDoor
namespace Go.Proofs
open Go.Shelf
def Tryz.lays160_ren : Go.Shelf.Ren := ⟨fun | 160 => 122 | 232 => 181 | 231 => 180 | 227 => 182 | 234 => 184 | 233 => 183 | 236 => 186 | 235 => 185 | 228 => 233 | 271 => 235 | 151 => 234 | 197 => 231 | 120 => 268 | 152 => 267 | 260 => 266 | 137 => 187 | 119 => 296 | 224 => 212 | 225 => 211 | 217 => 210 | 266 => 250 | n => n, fun | 9 => 9 | 4 => 4 | 3 => 3 | 5 => 5 | 117 => 237 | 116 => 236 | 0 => 0 | 124 => 240 | 21 => 21 | 105 => 277 | 46 => 122 | 119 => 337 | 139 => 340 | 138 => 339 | n => n, fun | 3 => 3 | 4 => 4 | n => n⟩
theorem Tryz.lays160 : Go.Proofs.Lays.n160 Tryz.prog Tryz.lays160_ren := {
 mixed := by kernel_rfl
 f119 := Tryz.func296.trans (congrArg some (by kernel_rfl))
 f120 := Tryz.func268.trans (congrArg some (by kernel_rfl))
 f137 := Tryz.func187.trans (congrArg some (by kernel_rfl))
 f151 := Tryz.func234.trans (congrArg some (by kernel_rfl))
 f152 := Tryz.func267.trans (congrArg some (by kernel_rfl))
 f160 := Tryz.func122.trans (congrArg some (by kernel_rfl))
 f197 := Tryz.func231.trans (congrArg some (by kernel_rfl))
 f217 := Tryz.func210.trans (congrArg some (by kernel_rfl))
 f224 := Tryz.func212.trans (congrArg some (by kernel_rfl))
 f225 := Tryz.func211.trans (congrArg some (by kernel_rfl))
 f227 := Tryz.func182.trans (congrArg some (by kernel_rfl))
 f228 := Tryz.func233.trans (congrArg some (by kernel_rfl))
 f231 := Tryz.func180.trans (congrArg some (by kernel_rfl))
 f232 := Tryz.func181.trans (congrArg some (by kernel_rfl))
 f233 := Tryz.func183.trans (congrArg some (by kernel_rfl))
 f234 := Tryz.func184.trans (congrArg some (by kernel_rfl))
 f235 := Tryz.func185.trans (congrArg some (by kernel_rfl))
 f236 := Tryz.func186.trans (congrArg some (by kernel_rfl))
 f260 := Tryz.func266.trans (congrArg some (by kernel_rfl))
 f266 := Tryz.func250.trans (congrArg some (by kernel_rfl))
 f271 := Tryz.func235.trans (congrArg some (by kernel_rfl))
 t0 := Tryz.underlying0
 a0 := Tryz.isAgg0
 z0 := Tryz.sizeOf0
 v0 := Tryz.zeroValue0
 t3 := Tryz.underlying3
 a3 := Tryz.isAgg3
 z3 := Tryz.sizeOf3
 v3 := Tryz.zeroValue3
 t4 := Tryz.underlying4
 a4 := Tryz.isAgg4
 z4 := Tryz.sizeOf4
 v4 := Tryz.zeroValue4
 t5 := Tryz.underlying5
 a5 := Tryz.isAgg5
 z5 := Tryz.sizeOf5
 v5 := Tryz.zeroValue5
 t9 := Tryz.underlying9
 a9 := Tryz.isAgg9
 z9 := Tryz.sizeOf9
 v9 := Tryz.zeroValue9
 t21 := Tryz.underlying21
 a21 := Tryz.isAgg21
 z21 := Tryz.sizeOf21
 v21 := Tryz.zeroValue21
 t46 := Tryz.underlying122
 a46 := Tryz.isAgg122
 z46 := Tryz.sizeOf122
 v46 := Tryz.zeroValue122
 t105 := Tryz.underlying277
 a105 := Tryz.isAgg277
 z105 := Tryz.sizeOf277
 v105 := Tryz.zeroValue277
 t116 := Tryz.underlying236
 a116 := Tryz.isAgg236
 z116 := Tryz.sizeOf236
 t117 := Tryz.underlying237
 a117 := Tryz.isAgg237
 z117 := Tryz.sizeOf237
 v117 := Tryz.zeroValue237
 t119 := Tryz.underlying337
 a119 := Tryz.isAgg337
 z119 := Tryz.sizeOf337
 t124 := Tryz.underlying240
 a124 := Tryz.isAgg240
 z124 := Tryz.sizeOf240
 v124 := Tryz.zeroValue240
 t138 := Tryz.underlying339
 a138 := Tryz.isAgg339
 z138 := Tryz.sizeOf339
 v138 := Tryz.zeroValue339
 t139 := Tryz.underlying340
 a139 := Tryz.isAgg340
 z139 := Tryz.sizeOf340
 v139 := Tryz.zeroValue340
 g3 := by kernel_rfl
 g4 := by kernel_rfl }
def Tryz.lays106_ren : Go.Shelf.Ren := ⟨fun | 106 => 23 | 213 => 66 | 265 => 119 | n => n, fun | 9 => 9 | 3 => 3 | n => n, fun | n => n⟩
theorem Tryz.lays106 : Go.Proofs.Lays.n106 Tryz.prog Tryz.lays106_ren := {
 mixed := by kernel_rfl
 f106 := Tryz.func23.trans (congrArg some (by kernel_rfl))
 f213 := Tryz.func66.trans (congrArg some (by kernel_rfl))
 f265 := Tryz.func119.trans (congrArg some (by kernel_rfl))
 t3 := Tryz.underlying3
 a3 := Tryz.isAgg3
 z3 := Tryz.sizeOf3
 v3 := Tryz.zeroValue3
 t9 := Tryz.underlying9
 a9 := Tryz.isAgg9
 z9 := Tryz.sizeOf9
 v9 := Tryz.zeroValue9 }
open Go.RowKit in
theorem Tryz.strings_Compare (a b : ByteArray) (w : World) :
  Calls Tryz.prog 23 #[.string a, .string b] w fun e w' => e = .returned (.int .i64 (Lib.compareBytes a.data.toList b.data.toList)) ∧ w' = w := Any.strings_Compare Tryz.lays106 a b w
def Tryz.lays137_ren : Go.Shelf.Ren := ⟨fun | 137 => 187 | 217 => 210 | 266 => 250 | n => n, fun | 9 => 9 | 5 => 5 | 3 => 3 | n => n, fun | n => n⟩
theorem Tryz.lays137 : Go.Proofs.Lays.n137 Tryz.prog Tryz.lays137_ren := {
 mixed := by kernel_rfl
 f137 := Tryz.func187.trans (congrArg some (by kernel_rfl))
 f217 := Tryz.func210.trans (congrArg some (by kernel_rfl))
 f266 := Tryz.func250.trans (congrArg some (by kernel_rfl))
 t3 := Tryz.underlying3
 a3 := Tryz.isAgg3
 z3 := Tryz.sizeOf3
 v3 := Tryz.zeroValue3
 t5 := Tryz.underlying5
 a5 := Tryz.isAgg5
 z5 := Tryz.sizeOf5
 v5 := Tryz.zeroValue5
 t9 := Tryz.underlying9
 a9 := Tryz.isAgg9
 z9 := Tryz.sizeOf9
 v9 := Tryz.zeroValue9 }
open Go.RowKit in
theorem Tryz.strings_IndexByte (s : ByteArray) (c : Int) (w : World) :
  Calls Tryz.prog 187 #[.string s, .int .u8 c] w fun e w' => e = .returned (.int .i64 (Lib.indexByte s.data.toList c.toNat.toUInt8)) ∧ w' = w := Any.strings_IndexByte Tryz.lays137 s c w
def Tryz.lays103_ren : Go.Shelf.Ren := ⟨fun | 103 => 249 | 210 => 289 | 206 => 154 | n => n, fun | 9 => 9 | 4 => 4 | 24 => 114 | 3 => 3 | n => n, fun | n => n⟩
theorem Tryz.lays103 : Go.Proofs.Lays.n103 Tryz.prog Tryz.lays103_ren := {
 mixed := by kernel_rfl
 f103 := Tryz.func249.trans (congrArg some (by kernel_rfl))
 f206 := Tryz.func154.trans (congrArg some (by kernel_rfl))
 f210 := Tryz.func289.trans (congrArg some (by kernel_rfl))
 t3 := Tryz.underlying3
 a3 := Tryz.isAgg3
 z3 := Tryz.sizeOf3
 v3 := Tryz.zeroValue3
 t4 := Tryz.underlying4
 a4 := Tryz.isAgg4
 z4 := Tryz.sizeOf4
 v4 := Tryz.zeroValue4
 t9 := Tryz.underlying9
 a9 := Tryz.isAgg9
 z9 := Tryz.sizeOf9
 v9 := Tryz.zeroValue9
 t24 := Tryz.underlying114
 a24 := Tryz.isAgg114
 z24 := Tryz.sizeOf114
 v24 := Tryz.zeroValue114 }
open Go.RowKit in
theorem Tryz.strings_CutPrefix (s p : ByteArray) (w : World) :
  Calls Tryz.prog 249 #[.string s, .string p] w fun e w' => e = .returned (.tuple #[.string ⟨(Lib.trimPrefix s.data.toList p.data.toList).toArray⟩, .bool (Lib.hasPrefix s.data.toList p.data.toList)]) ∧ w' = w := Any.strings_CutPrefix Tryz.lays103 s p w
def Tryz.lays122_ren : Go.Shelf.Ren := ⟨fun | 122 => 68 | 215 => 120 | n => n, fun | 3 => 3 | 4 => 4 | n => n, fun | n => n⟩
theorem Tryz.lays122 : Go.Proofs.Lays.n122 Tryz.prog Tryz.lays122_ren := {
 mixed := by kernel_rfl
 f122 := Tryz.func68.trans (congrArg some (by kernel_rfl))
 f215 := Tryz.func120.trans (congrArg some (by kernel_rfl))
 t3 := Tryz.underlying3
 a3 := Tryz.isAgg3
 z3 := Tryz.sizeOf3
 v3 := Tryz.zeroValue3
 t4 := Tryz.underlying4
 a4 := Tryz.isAgg4
 z4 := Tryz.sizeOf4
 v4 := Tryz.zeroValue4 }
open Go.RowKit in
theorem Tryz.cmp_Compare_int (x y : Int) (w : World) :
  Calls Tryz.prog 68 #[.int .i64 x, .int .i64 y] w fun e w' => e = .returned (.int .i64 (Lib.compareInt x y)) ∧ w' = w := Any.cmp_Compare_int Tryz.lays122 x y w
def Tryz.laysC172_ren : Go.Shelf.Ren := ⟨fun | 172 => 71 | 244 => 124 | 245 => 125 | 247 => 188 | 279 => 189 | 280 => 190 | 281 => 191 | 282 => 192 | 287 => 236 | 316 => 237 | 171 => 239 | 205 => 238 | 321 => 269 | 322 => 270 | 243 => 271 | 246 => 297 | 283 => 314 | 284 => 315 | 285 => 316 | 286 => 317 | 129 => 288 | 317 => 324 | 318 => 325 | 319 => 326 | 320 => 327 | 337 => 330 | 338 => 331 | n => n, fun | 9 => 9 | 3 => 3 | 75 => 128 | 76 => 129 | 4 => 4 | 5 => 5 | 167 => 242 | 37 => 210 | 0 => 0 | 85 => 243 | 2 => 2 | 168 => 245 | 53 => 280 | 175 => 281 | 46 => 122 | 210 => 284 | 127 => 309 | 145 => 312 | 143 => 310 | 21 => 21 | 171 => 357 | 173 => 359 | 212 => 367 | 51 => 294 | 20 => 20 | 213 => 368 | 232 => 372 | 233 => 373 | 80 => 347 | n => n, fun | 15 => 1 | 16 => 2 | 17 => 5 | 18 => 6 | 19 => 7 | n => n⟩
theorem Tryz.laysC172 : Go.Proofs.LaysC.n172 Tryz.prog Tryz.laysC172_ren := {
 mixed := by kernel_rfl
 f129 := Tryz.func288.trans (congrArg some (by kernel_rfl))
 f171 := Tryz.func239.trans (congrArg some (by kernel_rfl))
 f172 := Tryz.func71.trans (congrArg some (by kernel_rfl))
 f205 := Tryz.func238.trans (congrArg some (by kernel_rfl))
 f243 := Tryz.func271.trans (congrArg some (by kernel_rfl))
 f244 := Tryz.func124.trans (congrArg some (by kernel_rfl))
 f245 := Tryz.func125.trans (congrArg some (by kernel_rfl))
 f246 := Tryz.func297.trans (congrArg some (by kernel_rfl))
 f247 := Tryz.func188.trans (congrArg some (by kernel_rfl))
 f279 := Tryz.func189.trans (congrArg some (by kernel_rfl))
 f280 := Tryz.func190.trans (congrArg some (by kernel_rfl))
 f281 := Tryz.func191.trans (congrArg some (by kernel_rfl))
 f282 := Tryz.func192.trans (congrArg some (by kernel_rfl))
 f283 := Tryz.func314.trans (congrArg some (by kernel_rfl))
 f284 := Tryz.func315.trans (congrArg some (by kernel_rfl))
 f285 := Tryz.func316.trans (congrArg some (by kernel_rfl))
 f286 := Tryz.func317.trans (congrArg some (by kernel_rfl))
 f287 := Tryz.func236.trans (congrArg some (by kernel_rfl))
 f316 := Tryz.func237.trans (congrArg some (by kernel_rfl))
 f317 := Tryz.func324.trans (congrArg some (by kernel_rfl))
 f318 := Tryz.func325.trans (congrArg some (by kernel_rfl))
 f319 := Tryz.func326.trans (congrArg some (by kernel_rfl))
 f320 := Tryz.func327.trans (congrArg some (by kernel_rfl))
 f321 := Tryz.func269.trans (congrArg some (by kernel_rfl))
 f322 := Tryz.func270.trans (congrArg some (by kernel_rfl))
 f337 := Tryz.func330.trans (congrArg some (by kernel_rfl))
 f338 := Tryz.func331.trans (congrArg some (by kernel_rfl))
 t0 := Tryz.underlying0
 a0 := Tryz.isAgg0
 z0 := Tryz.sizeOf0
 v0 := Tryz.zeroValue0
 t2 := Tryz.underlying2
 a2 := Tryz.isAgg2
 z2 := Tryz.sizeOf2
 v2 := Tryz.zeroValue2
 t3 := Tryz.underlying3
 a3 := Tryz.isAgg3
 z3 := Tryz.sizeOf3
 v3 := Tryz.zeroValue3
 t4 := Tryz.underlying4
 a4 := Tryz.isAgg4
 z4 := Tryz.sizeOf4
 v4 := Tryz.zeroValue4
 t5 := Tryz.underlying5
 a5 := Tryz.isAgg5
 z5 := Tryz.sizeOf5
 v5 := Tryz.zeroValue5
 t9 := Tryz.underlying9
 a9 := Tryz.isAgg9
 z9 := Tryz.sizeOf9
 v9 := Tryz.zeroValue9
 t20 := Tryz.underlying20
 a20 := Tryz.isAgg20
 z20 := Tryz.sizeOf20
 v20 := Tryz.zeroValue20
 t21 := Tryz.underlying21
 a21 := Tryz.isAgg21
 z21 := Tryz.sizeOf21
 v21 := Tryz.zeroValue21
 t37 := Tryz.underlying210
 a37 := Tryz.isAgg210
 z37 := Tryz.sizeOf210
 v37 := Tryz.zeroValue210
 t46 := Tryz.underlying122
 a46 := Tryz.isAgg122
 z46 := Tryz.sizeOf122
 v46 := Tryz.zeroValue122
 t51 := Tryz.underlying294
 a51 := Tryz.isAgg294
 z51 := Tryz.sizeOf294
 v51 := Tryz.zeroValue294
 t53 := Tryz.underlying280
 a53 := Tryz.isAgg280
 z53 := Tryz.sizeOf280
 v53 := Tryz.zeroValue280
 t75 := Tryz.underlying128
 a75 := Tryz.isAgg128
 z75 := Tryz.sizeOf128
 v75 := Tryz.zeroValue128
 t76 := Tryz.underlying129
 a76 := Tryz.isAgg129
 z76 := Tryz.sizeOf129
 v76 := Tryz.zeroValue129
 t85 := Tryz.underlying243
 a85 := Tryz.isAgg243
 z85 := Tryz.sizeOf243
 v85 := Tryz.zeroValue243
 t127 := Tryz.underlying309
 a127 := Tryz.isAgg309
 z127 := Tryz.sizeOf309
 v127 := Tryz.zeroValue309
 t143 := Tryz.underlying310
 a143 := Tryz.isAgg310
 z143 := Tryz.sizeOf310
 v143 := Tryz.zeroValue310
 t145 := Tryz.underlying312
 a145 := Tryz.isAgg312
 z145 := Tryz.sizeOf312
 v145 := Tryz.zeroValue312
 t167 := Tryz.underlying242
 a167 := Tryz.isAgg242
 z167 := Tryz.sizeOf242
 v167 := Tryz.zeroValue242
 t168 := Tryz.underlying245
 a168 := Tryz.isAgg245
 z168 := Tryz.sizeOf245
 v168 := Tryz.zeroValue245
 t171 := Tryz.underlying357
 a171 := Tryz.isAgg357
 z171 := Tryz.sizeOf357
 v171 := Tryz.zeroValue357
 t173 := Tryz.underlying359
 a173 := Tryz.isAgg359
 z173 := Tryz.sizeOf359
 v173 := Tryz.zeroValue359
 t175 := Tryz.underlying281
 a175 := Tryz.isAgg281
 z175 := Tryz.sizeOf281
 v175 := Tryz.zeroValue281
 t210 := Tryz.underlying284
 a210 := Tryz.isAgg284
 z210 := Tryz.sizeOf284
 v210 := Tryz.zeroValue284
 t212 := Tryz.underlying367
 a212 := Tryz.isAgg367
 z212 := Tryz.sizeOf367
 v212 := Tryz.zeroValue367
 t213 := Tryz.underlying368
 a213 := Tryz.isAgg368
 z213 := Tryz.sizeOf368
 t232 := Tryz.underlying372
 a232 := Tryz.isAgg372
 z232 := Tryz.sizeOf372
 v232 := Tryz.zeroValue372
 t233 := Tryz.underlying373
 a233 := Tryz.isAgg373
 z233 := Tryz.sizeOf373
 v233 := Tryz.zeroValue373
 g15 := by kernel_rfl
 g16 := by kernel_rfl
 g17 := by kernel_rfl
 g18 := by kernel_rfl
 g19 := by kernel_rfl
 t80 := Tryz.underlying347
 a80 := Tryz.isAgg347
 z80 := Tryz.sizeOf347
 v80 := Tryz.zeroValue347
 i0 := by kernel_rfl
 i2 := by kernel_rfl
 i3 := by kernel_rfl
 i4 := by kernel_rfl
 i5 := by kernel_rfl
 i9 := by kernel_rfl
 i20 := by kernel_rfl
 i21 := by kernel_rfl
 i37 := by kernel_rfl
 i46 := by kernel_rfl
 i51 := by kernel_rfl
 i53 := by kernel_rfl
 i75 := by kernel_rfl
 i76 := by kernel_rfl
 i80 := by kernel_rfl
 i85 := by kernel_rfl
 i127 := by kernel_rfl
 i143 := by kernel_rfl
 i145 := by kernel_rfl
 i167 := by kernel_rfl
 i168 := by kernel_rfl
 i171 := by kernel_rfl
 i173 := by kernel_rfl
 i175 := by kernel_rfl
 i210 := by kernel_rfl
 i212 := by kernel_rfl
 i232 := by kernel_rfl
 i233 := by kernel_rfl
 m15 := by kernel_rfl
 m16 := by kernel_rfl
 m17 := by kernel_rfl
 m18 := by kernel_rfl
 m19 := by kernel_rfl
 c0 := by kernel_rfl
 c2 := by kernel_rfl
 c3 := by kernel_rfl
 c4 := by kernel_rfl
 c5 := by kernel_rfl
 c9 := by kernel_rfl
 c20 := by kernel_rfl
 c21 := by kernel_rfl
 c37 := by kernel_rfl
 c46 := by kernel_rfl
 c51 := by kernel_rfl
 c53 := by kernel_rfl
 c75 := by kernel_rfl
 c76 := by kernel_rfl
 c80 := by kernel_rfl
 c85 := by kernel_rfl
 c127 := by kernel_rfl
 c143 := by kernel_rfl
 c145 := by kernel_rfl
 c167 := by kernel_rfl
 c168 := by kernel_rfl
 c171 := by kernel_rfl
 c173 := by kernel_rfl
 c175 := by kernel_rfl
 c210 := by kernel_rfl
 c212 := by kernel_rfl
 c213 := by kernel_rfl
 c232 := by kernel_rfl
 c233 := by kernel_rfl }
open Go.RowKit in
theorem Tryz.strconv_Atoi_ok (s : ByteArray) (hmax : s.size ≤ 9223372036854775806) (v : Int) (h : Lib.atoiAll s.data.toList = .ok v) (w : World) :
  Calls Tryz.prog 71 #[.string s] w fun e w' => e = .returned (.tuple #[.int .i64 v, .nilIface]) ∧ (w' = w ∨ ∃ t, w' = Lib.bytesWorld w 5 t) := Any.strconv_Atoi_ok Tryz.laysC172 s hmax v h w
open Go.RowKit in
theorem Tryz.strconv_Atoi_syntax_var (s : ByteArray) (hlim : s.size ≤ 281474976710656) (h : Lib.atoiAll s.data.toList = Lib.atoiAll []) (tp : TypeId) (p : Value) (w : World) (hvar : w.var? Tryz.prog "strconv.ErrSyntax" = some #[.iface tp p]) :
  Calls Tryz.prog 71 #[.string s] w fun e w' => ∃ N, e = .returned (.tuple #[.int .i64 0, .iface 245 (.pointer (some ⟨N, 0, none⟩))]) ∧ w.heap.size ≤ N ∧ w'.heap[N]? = some (.cells #[.string ⟨#[65, 116, 111, 105]⟩, .string s, .iface tp p] 284 (0, 0)) ∧ Below w.heap.size w w' := Any.strconv_Atoi_syntax_var Tryz.laysC172 s hlim h tp p w hvar
open Go.RowKit in
theorem Tryz.strconv_Atoi_range_var (s : ByteArray) (hlim : s.size ≤ 281474976710656) (h : Lib.atoiAll s.data.toList = .range) (tp : TypeId) (p : Value) (w : World) (hvar : w.var? Tryz.prog "strconv.ErrRange" = some #[.iface tp p]) :
  Calls Tryz.prog 71 #[.string s] w fun e w' => ∃ N, e = .returned (.tuple #[.int .i64 (Lib.atoiSat s.data.toList), .iface 245 (.pointer (some ⟨N, 0, none⟩))]) ∧ w.heap.size ≤ N ∧ w'.heap[N]? = some (.cells #[.string ⟨#[65, 116, 111, 105]⟩, .string s, .iface tp p] 284 (0, 0)) ∧ Below w.heap.size w w' := Any.strconv_Atoi_range_var Tryz.laysC172 s hlim h tp p w hvar
def Tryz.lays144_ren : Go.Shelf.Ren := ⟨fun | 144 => 101 | 143 => 153 | 219 => 157 | 217 => 210 | 225 => 211 | 224 => 212 | 267 => 213 | 266 => 250 | 314 => 251 | n => n, fun | 9 => 9 | 4 => 4 | 3 => 3 | 5 => 5 | 46 => 122 | 146 => 295 | 51 => 294 | n => n, fun | 1 => 0 | n => n⟩
theorem Tryz.lays144 : Go.Proofs.Lays.n144 Tryz.prog Tryz.lays144_ren := {
 mixed := by kernel_rfl
 f143 := Tryz.func153.trans (congrArg some (by kernel_rfl))
 f144 := Tryz.func101.trans (congrArg some (by kernel_rfl))
 f217 := Tryz.func210.trans (congrArg some (by kernel_rfl))
 f219 := Tryz.func157.trans (congrArg some (by kernel_rfl))
 f224 := Tryz.func212.trans (congrArg some (by kernel_rfl))
 f225 := Tryz.func211.trans (congrArg some (by kernel_rfl))
 f266 := Tryz.func250.trans (congrArg some (by kernel_rfl))
 f267 := Tryz.func213.trans (congrArg some (by kernel_rfl))
 f314 := Tryz.func251.trans (congrArg some (by kernel_rfl))
 t3 := Tryz.underlying3
 a3 := Tryz.isAgg3
 z3 := Tryz.sizeOf3
 v3 := Tryz.zeroValue3
 t4 := Tryz.underlying4
 a4 := Tryz.isAgg4
 z4 := Tryz.sizeOf4
 v4 := Tryz.zeroValue4
 t5 := Tryz.underlying5
 a5 := Tryz.isAgg5
 z5 := Tryz.sizeOf5
 v5 := Tryz.zeroValue5
 t9 := Tryz.underlying9
 a9 := Tryz.isAgg9
 z9 := Tryz.sizeOf9
 v9 := Tryz.zeroValue9
 t46 := Tryz.underlying122
 a46 := Tryz.isAgg122
 z46 := Tryz.sizeOf122
 v46 := Tryz.zeroValue122
 t51 := Tryz.underlying294
 a51 := Tryz.isAgg294
 z51 := Tryz.sizeOf294
 v51 := Tryz.zeroValue294
 t146 := Tryz.underlying295
 a146 := Tryz.isAgg295
 z146 := Tryz.sizeOf295
 v146 := Tryz.zeroValue295
 g1 := by kernel_rfl }
open Go.RowKit Go.Lib in
theorem Tryz.strings_Contains (s sub : ByteArray) (m : Int) (w : World) (hs : s.size < 4294967281) (hm : w.cell? ⟨0, 0, none⟩ = some (.int .i64 m)) :
  Calls Tryz.prog 101 #[.string s, .string sub] w fun e w' => e = .returned (.bool (Lib.contains s.data.toList sub.data.toList)) ∧ w' = w := Any.strings_Contains Tryz.lays144 s sub m w hs hm
def Tryz.lays145_ren : Go.Shelf.Ren := ⟨fun | 145 => 53 | 220 => 106 | 219 => 157 | 217 => 210 | 225 => 211 | 224 => 212 | 267 => 213 | 266 => 250 | 314 => 251 | n => n, fun | 9 => 9 | 4 => 4 | 59 => 110 | 3 => 3 | 5 => 5 | 46 => 122 | 146 => 295 | 51 => 294 | n => n, fun | 1 => 0 | n => n⟩
theorem Tryz.lays145 : Go.Proofs.Lays.n145 Tryz.prog Tryz.lays145_ren := {
 mixed := by kernel_rfl
 f145 := Tryz.func53.trans (congrArg some (by kernel_rfl))
 f217 := Tryz.func210.trans (congrArg some (by kernel_rfl))
 f219 := Tryz.func157.trans (congrArg some (by kernel_rfl))
 f220 := Tryz.func106.trans (congrArg some (by kernel_rfl))
 f224 := Tryz.func212.trans (congrArg some (by kernel_rfl))
 f225 := Tryz.func211.trans (congrArg some (by kernel_rfl))
 f266 := Tryz.func250.trans (congrArg some (by kernel_rfl))
 f267 := Tryz.func213.trans (congrArg some (by kernel_rfl))
 f314 := Tryz.func251.trans (congrArg some (by kernel_rfl))
 t3 := Tryz.underlying3
 a3 := Tryz.isAgg3
 z3 := Tryz.sizeOf3
 v3 := Tryz.zeroValue3
 t4 := Tryz.underlying4
 a4 := Tryz.isAgg4
 z4 := Tryz.sizeOf4
 v4 := Tryz.zeroValue4
 t5 := Tryz.underlying5
 a5 := Tryz.isAgg5
 z5 := Tryz.sizeOf5
 v5 := Tryz.zeroValue5
 t9 := Tryz.underlying9
 a9 := Tryz.isAgg9
 z9 := Tryz.sizeOf9
 v9 := Tryz.zeroValue9
 t46 := Tryz.underlying122
 a46 := Tryz.isAgg122
 z46 := Tryz.sizeOf122
 v46 := Tryz.zeroValue122
 t51 := Tryz.underlying294
 a51 := Tryz.isAgg294
 z51 := Tryz.sizeOf294
 v51 := Tryz.zeroValue294
 t59 := Tryz.underlying110
 a59 := Tryz.isAgg110
 z59 := Tryz.sizeOf110
 v59 := Tryz.zeroValue110
 t146 := Tryz.underlying295
 a146 := Tryz.isAgg295
 z146 := Tryz.sizeOf295
 v146 := Tryz.zeroValue295
 g1 := by kernel_rfl }
open Go.RowKit Go.Lib in
theorem Tryz.strings_Cut (s sep : ByteArray) (m : Int) (w : World) (hs : s.size < 4294967281) (hm : w.cell? ⟨0, 0, none⟩ = some (.int .i64 m)) :
  Calls Tryz.prog 53 #[.string s, .string sep] w fun e w' => e = .returned (.tuple #[.string ⟨(Lib.cut s.data.toList sep.data.toList).1.toArray⟩, .string ⟨(Lib.cut s.data.toList sep.data.toList).2.1.toArray⟩, .bool (Lib.cut s.data.toList sep.data.toList).2.2]) ∧ ∃ n, w' = w.drewN n := Any.strings_Cut Tryz.lays145 s sep m w hs hm
def Tryz.lays99_ren : Go.Shelf.Ren := ⟨fun | 99 => 103 | 206 => 154 | n => n, fun | 9 => 9 | 4 => 4 | 3 => 3 | n => n, fun | n => n⟩
theorem Tryz.lays99 : Go.Proofs.Lays.n99 Tryz.prog Tryz.lays99_ren := {
 mixed := by kernel_rfl
 f99 := Tryz.func103.trans (congrArg some (by kernel_rfl))
 f206 := Tryz.func154.trans (congrArg some (by kernel_rfl))
 t3 := Tryz.underlying3
 a3 := Tryz.isAgg3
 z3 := Tryz.sizeOf3
 v3 := Tryz.zeroValue3
 t4 := Tryz.underlying4
 a4 := Tryz.isAgg4
 z4 := Tryz.sizeOf4
 v4 := Tryz.zeroValue4
 t9 := Tryz.underlying9
 a9 := Tryz.isAgg9
 z9 := Tryz.sizeOf9
 v9 := Tryz.zeroValue9 }
open Go.RowKit Go.Lib in
theorem Tryz.strings_HasPrefix (s p : ByteArray) (w : World) :
  Calls Tryz.prog 103 #[.string s, .string p] w fun e w' => e = .returned (.bool (Lib.hasPrefix s.data.toList p.data.toList)) ∧ w' = w := Any.strings_HasPrefix Tryz.lays99 s p w
def Tryz.lays146_ren : Go.Shelf.Ren := ⟨fun | 146 => 69 | 221 => 121 | 268 => 178 | 138 => 179 | 143 => 153 | 195 => 230 | 197 => 231 | 218 => 232 | 219 => 157 | 260 => 266 | 217 => 210 | 225 => 211 | 224 => 212 | 267 => 213 | 266 => 250 | 314 => 251 | n => n, fun | 9 => 9 | 31 => 82 | 3 => 3 | 4 => 4 | 0 => 0 | 105 => 277 | 21 => 21 | 5 => 5 | 46 => 122 | 119 => 337 | 139 => 340 | 138 => 339 | 146 => 295 | 51 => 294 | n => n, fun | 1 => 0 | 3 => 3 | 4 => 4 | n => n⟩
theorem Tryz.lays146 : Go.Proofs.Lays.n146 Tryz.prog Tryz.lays146_ren := {
 mixed := by kernel_rfl
 f138 := Tryz.func179.trans (congrArg some (by kernel_rfl))
 f143 := Tryz.func153.trans (congrArg some (by kernel_rfl))
 f146 := Tryz.func69.trans (congrArg some (by kernel_rfl))
 f195 := Tryz.func230.trans (congrArg some (by kernel_rfl))
 f197 := Tryz.func231.trans (congrArg some (by kernel_rfl))
 f217 := Tryz.func210.trans (congrArg some (by kernel_rfl))
 f218 := Tryz.func232.trans (congrArg some (by kernel_rfl))
 f219 := Tryz.func157.trans (congrArg some (by kernel_rfl))
 f221 := Tryz.func121.trans (congrArg some (by kernel_rfl))
 f224 := Tryz.func212.trans (congrArg some (by kernel_rfl))
 f225 := Tryz.func211.trans (congrArg some (by kernel_rfl))
 f260 := Tryz.func266.trans (congrArg some (by kernel_rfl))
 f266 := Tryz.func250.trans (congrArg some (by kernel_rfl))
 f267 := Tryz.func213.trans (congrArg some (by kernel_rfl))
 f268 := Tryz.func178.trans (congrArg some (by kernel_rfl))
 f314 := Tryz.func251.trans (congrArg some (by kernel_rfl))
 t0 := Tryz.underlying0
 a0 := Tryz.isAgg0
 z0 := Tryz.sizeOf0
 v0 := Tryz.zeroValue0
 t3 := Tryz.underlying3
 a3 := Tryz.isAgg3
 z3 := Tryz.sizeOf3
 v3 := Tryz.zeroValue3
 t4 := Tryz.underlying4
 a4 := Tryz.isAgg4
 z4 := Tryz.sizeOf4
 v4 := Tryz.zeroValue4
 t5 := Tryz.underlying5
 a5 := Tryz.isAgg5
 z5 := Tryz.sizeOf5
 v5 := Tryz.zeroValue5
 t9 := Tryz.underlying9
 a9 := Tryz.isAgg9
 z9 := Tryz.sizeOf9
 v9 := Tryz.zeroValue9
 t21 := Tryz.underlying21
 a21 := Tryz.isAgg21
 z21 := Tryz.sizeOf21
 v21 := Tryz.zeroValue21
 t31 := Tryz.underlying82
 a31 := Tryz.isAgg82
 z31 := Tryz.sizeOf82
 v31 := Tryz.zeroValue82
 t46 := Tryz.underlying122
 a46 := Tryz.isAgg122
 z46 := Tryz.sizeOf122
 v46 := Tryz.zeroValue122
 t51 := Tryz.underlying294
 a51 := Tryz.isAgg294
 z51 := Tryz.sizeOf294
 v51 := Tryz.zeroValue294
 t105 := Tryz.underlying277
 a105 := Tryz.isAgg277
 z105 := Tryz.sizeOf277
 v105 := Tryz.zeroValue277
 t119 := Tryz.underlying337
 a119 := Tryz.isAgg337
 z119 := Tryz.sizeOf337
 t138 := Tryz.underlying339
 a138 := Tryz.isAgg339
 z138 := Tryz.sizeOf339
 v138 := Tryz.zeroValue339
 t139 := Tryz.underlying340
 a139 := Tryz.isAgg340
 z139 := Tryz.sizeOf340
 v139 := Tryz.zeroValue340
 t146 := Tryz.underlying295
 a146 := Tryz.isAgg295
 z146 := Tryz.sizeOf295
 v146 := Tryz.zeroValue295
 g1 := by kernel_rfl
 g3 := by kernel_rfl
 g4 := by kernel_rfl }
open Go.RowKit Go.Lib in
theorem Tryz.strings_Split (s sep : ByteArray) (m : Int) (w : World) (hs : s.size < 4294967281) (hm : w.cell? ⟨0, 0, none⟩ = some (.int .i64 m)) (h1 : 1 ≤ sep.size) :
  Calls Tryz.prog 69 #[.string s, .string sep] w fun e w' =>
   e = .returned (.slice (some ⟨w.heap.size, 0, none⟩) (Lib.countB s sep + 1) (Lib.countB s sep + 1)) ∧ w' = w.alloc (.cells ((Lib.splitB sep 0 (Lib.countB s sep) s).map Value.string).toArray 9) := Any.strings_Split Tryz.lays146 (by kernel_rfl) s sep m w hs hm h1
def Tryz.lays155_ren : Go.Shelf.Ren := ⟨fun | 155 => 240 | 154 => 272 | 138 => 179 | 165 => 298 | 143 => 153 | 166 => 299 | 197 => 231 | 169 => 300 | 195 => 230 | 218 => 232 | 240 => 318 | 241 => 319 | 219 => 157 | 260 => 266 | 276 => 328 | 277 => 329 | 217 => 210 | 225 => 211 | 224 => 212 | 267 => 213 | 266 => 250 | 314 => 251 | n => n, fun | 9 => 9 | 3 => 3 | 4 => 4 | 72 => 345 | 0 => 0 | 76 => 129 | 105 => 277 | 21 => 21 | 5 => 5 | 70 => 343 | 20 => 20 | 37 => 210 | 75 => 128 | 127 => 309 | 164 => 369 | 46 => 122 | 119 => 337 | 139 => 340 | 138 => 339 | 146 => 295 | 51 => 294 | 80 => 347 | n => n, fun | 1 => 0 | 3 => 3 | 4 => 4 | n => n⟩
theorem Tryz.lays155 : Go.Proofs.Lays.n155 Tryz.prog Tryz.lays155_ren := {
 mixed := by kernel_rfl
 f138 := Tryz.func179.trans (congrArg some (by kernel_rfl))
 f143 := Tryz.func153.trans (congrArg some (by kernel_rfl))
 f154 := Tryz.func272.trans (congrArg some (by kernel_rfl))
 f155 := Tryz.func240.trans (congrArg some (by kernel_rfl))
 f165 := Tryz.func298.trans (congrArg some (by kernel_rfl))
 f166 := Tryz.func299.trans (congrArg some (by kernel_rfl))
 f169 := Tryz.func300.trans (congrArg some (by kernel_rfl))
 f195 := Tryz.func230.trans (congrArg some (by kernel_rfl))
 f197 := Tryz.func231.trans (congrArg some (by kernel_rfl))
 f217 := Tryz.func210.trans (congrArg some (by kernel_rfl))
 f218 := Tryz.func232.trans (congrArg some (by kernel_rfl))
 f219 := Tryz.func157.trans (congrArg some (by kernel_rfl))
 f224 := Tryz.func212.trans (congrArg some (by kernel_rfl))
 f225 := Tryz.func211.trans (congrArg some (by kernel_rfl))
 f240 := Tryz.func318.trans (congrArg some (by kernel_rfl))
 f241 := Tryz.func319.trans (congrArg some (by kernel_rfl))
 f260 := Tryz.func266.trans (congrArg some (by kernel_rfl))
 f266 := Tryz.func250.trans (congrArg some (by kernel_rfl))
 f267 := Tryz.func213.trans (congrArg some (by kernel_rfl))
 f276 := Tryz.func328.trans (congrArg some (by kernel_rfl))
 f277 := Tryz.func329.trans (congrArg some (by kernel_rfl))
 f314 := Tryz.func251.trans (congrArg some (by kernel_rfl))
 t0 := Tryz.underlying0
 a0 := Tryz.isAgg0
 z0 := Tryz.sizeOf0
 v0 := Tryz.zeroValue0
 t3 := Tryz.underlying3
 a3 := Tryz.isAgg3
 z3 := Tryz.sizeOf3
 v3 := Tryz.zeroValue3
 t4 := Tryz.underlying4
 a4 := Tryz.isAgg4
 z4 := Tryz.sizeOf4
 v4 := Tryz.zeroValue4
 t5 := Tryz.underlying5
 a5 := Tryz.isAgg5
 z5 := Tryz.sizeOf5
 v5 := Tryz.zeroValue5
 t9 := Tryz.underlying9
 a9 := Tryz.isAgg9
 z9 := Tryz.sizeOf9
 v9 := Tryz.zeroValue9
 t20 := Tryz.underlying20
 a20 := Tryz.isAgg20
 z20 := Tryz.sizeOf20
 v20 := Tryz.zeroValue20
 t21 := Tryz.underlying21
 a21 := Tryz.isAgg21
 z21 := Tryz.sizeOf21
 v21 := Tryz.zeroValue21
 t37 := Tryz.underlying210
 a37 := Tryz.isAgg210
 z37 := Tryz.sizeOf210
 v37 := Tryz.zeroValue210
 t46 := Tryz.underlying122
 a46 := Tryz.isAgg122
 z46 := Tryz.sizeOf122
 v46 := Tryz.zeroValue122
 t51 := Tryz.underlying294
 a51 := Tryz.isAgg294
 z51 := Tryz.sizeOf294
 v51 := Tryz.zeroValue294
 t70 := Tryz.underlying343
 a70 := Tryz.isAgg343
 z70 := Tryz.sizeOf343
 v70 := Tryz.zeroValue343
 t72 := Tryz.underlying345
 a72 := Tryz.isAgg345
 z72 := Tryz.sizeOf345
 v72 := Tryz.zeroValue345
 t75 := Tryz.underlying128
 a75 := Tryz.isAgg128
 z75 := Tryz.sizeOf128
 v75 := Tryz.zeroValue128
 t76 := Tryz.underlying129
 a76 := Tryz.isAgg129
 z76 := Tryz.sizeOf129
 v76 := Tryz.zeroValue129
 t105 := Tryz.underlying277
 a105 := Tryz.isAgg277
 z105 := Tryz.sizeOf277
 v105 := Tryz.zeroValue277
 t119 := Tryz.underlying337
 a119 := Tryz.isAgg337
 z119 := Tryz.sizeOf337
 t127 := Tryz.underlying309
 a127 := Tryz.isAgg309
 z127 := Tryz.sizeOf309
 v127 := Tryz.zeroValue309
 t138 := Tryz.underlying339
 a138 := Tryz.isAgg339
 z138 := Tryz.sizeOf339
 v138 := Tryz.zeroValue339
 t139 := Tryz.underlying340
 a139 := Tryz.isAgg340
 z139 := Tryz.sizeOf340
 v139 := Tryz.zeroValue340
 t146 := Tryz.underlying295
 a146 := Tryz.isAgg295
 z146 := Tryz.sizeOf295
 v146 := Tryz.zeroValue295
 t164 := Tryz.underlying369
 a164 := Tryz.isAgg369
 z164 := Tryz.sizeOf369
 v164 := Tryz.zeroValue369
 g1 := by kernel_rfl
 g3 := by kernel_rfl
 g4 := by kernel_rfl }
theorem Tryz.Builder_Extra_155 : Builder.Extra Tryz.prog Tryz.lays155_ren := {
 sizeBuilder := by kernel_rfl
 liesBuilder := by kernel_rfl
 t5 := Tryz.underlying5
 a5 := Tryz.isAgg5
 z5 := Tryz.sizeOf5
 v5 := Tryz.zeroValue5
 infoByte := by kernel_rfl
 cellsByte := by kernel_rfl
 sizeByte := by kernel_rfl
 neB5 := by decide }
open Go.RowKit Go.Lib in
theorem Tryz.strings_ReplaceAll (s old new : ByteArray) (m : Int) (w : World) (hs : s.size < 4294967281) (hm : w.cell? ⟨0, 0, none⟩ = some (.int .i64 m)) (h1 : 1 ≤ old.size) (hlen : s.size + Lib.countB s old * new.size ≤ 140737488355328) :
  Calls Tryz.prog 240 #[.string s, .string old, .string new] w fun e w' =>
   e = .returned (.string ⟨(Lib.replaceAll s.data.toList old.data.toList new.data.toList).toArray⟩) ∧ Below w.heap.size w w' := Any.strings_ReplaceAll Tryz.lays155 Tryz.Builder_Extra_155 s old new m w hs hm h1 hlen
end Go.Proofs
namespace Go.Proofs.YtpelfildfidnbaaGreatDoor
section
theorem all_take_succ {α : Type} {φ : α → Bool} {s : List α} {d : α} {i : Nat} (hi : i < s.length) (h : (s.take i).all φ = true) (hc : φ (s.getD i d) = true) : (s.take (i + 1)).all φ = true := by
 rw [List.take_add_one, List.all_append, h]
 rw [List.getD_eq_getElem?_getD, List.getElem?_eq_getElem hi] at hc
 simp only [List.getElem?_eq_getElem hi, Option.toList_some, List.all_cons, List.all_nil, Bool.and_true, Bool.true_and]
 simpa using hc
theorem all_false_of {α : Type} {φ : α → Bool} {s : List α} {d : α} {i : Nat} (hi : i < s.length) (hc : φ (s.getD i d) = false) : s.all φ = false := by
 rw [List.getD_eq_getElem?_getD, List.getElem?_eq_getElem hi] at hc
 rw [← Bool.not_eq_true, List.all_eq_true]
 intro h
 have := h s[i] (List.getElem_mem hi)
 simp at hc
 rw [hc] at this
 cases this
theorem all_of_take {α : Type} {φ : α → Bool} {s : List α} {i : Nat} (hi : s.length ≤ i) (h : (s.take i).all φ = true) : s.all φ = true := by
 rwa [List.take_of_length_le hi] at h
theorem countFrom_le (sub : List UInt8) : ∀ (f : Nat) (s : List UInt8), Go.Lib.countFrom sub f s ≤ f
  | 0, _ => Nat.le_refl _
  | f + 1, s => by
    unfold Go.Lib.countFrom
    split
    · omega
    · have := countFrom_le sub f (s.drop ((Go.Lib.index s sub).toNat + sub.length)); omega
theorem splitK_le (sep : List UInt8) (save : Nat) : ∀ (k : Nat) (s : List UInt8), (Go.Lib.splitK sep save k s).length ≤ k + 1
  | 0, _ => by simp [Go.Lib.splitK]
  | k + 1, s => by
    unfold Go.Lib.splitK
    split
    · simp
    · have := splitK_le sep save k (s.drop ((Go.Lib.index s sep).toNat + sep.length)); simp; omega
theorem split_le (s sep : List UInt8) : (Go.Lib.split s sep).length ≤ s.length + 2 := by
 have h1 := splitK_le sep 0 (Go.Lib.count s sep) s
 have h2 := countFrom_le sep (s.length + 1) s
 unfold Go.Lib.count at h1
 unfold Go.Lib.split Go.Lib.count
 omega
theorem splitK_mem (sep : List UInt8) : ∀ (k : Nat) (s x : List UInt8), x ∈ Go.Lib.splitK sep 0 k s → x.length ≤ s.length
  | 0, s, x, h => by simp [Go.Lib.splitK] at h; rw [h]; exact Nat.le_refl _
  | k + 1, s, x, h => by
    unfold Go.Lib.splitK at h
    split at h
    · simp at h; rw [h]; exact Nat.le_refl _
    · rcases List.mem_cons.1 h with rfl | h
      · simp; omega
      · have := splitK_mem sep k _ x h; simp at this; omega
theorem split_mem {s sep x : List UInt8} (h : x ∈ Go.Lib.split s sep) : x.length ≤ s.length := splitK_mem sep _ s x h
theorem split_at {s sep : List UInt8} {i : Nat} : ((Go.Lib.split s sep).getD i []).length ≤ s.length := by
 rw [List.getD_eq_getElem?_getD]
 cases h : (Go.Lib.split s sep)[i]? with
 | none => simp
 | some x => exact split_mem (List.mem_of_getElem? h)
def atoiV (s : List UInt8) : Int := match Go.Lib.atoiAll s with
 | .ok v => v
 | .range => Go.Lib.atoiSat s
 | _ => 0
def atoiOk (s : List UInt8) : Bool := match Go.Lib.atoiAll s with
 | .ok _ => true
 | _ => false
def firstNe (l : List Int) : Int := (l.find? (· != 0)).getD 0
theorem firstNe_hit {l : List Int} {i : Nat} (hi : i < l.length) (h : (l.take i).all (· == 0) = true) (hc : l.getD i 0 ≠ 0) : firstNe l = l.getD i 0 := by
 induction l generalizing i with
 | nil => simp at hi
 | cons a l ih =>
  unfold firstNe
  cases i with
  | zero => simp at hc; simp [hc]
  | succ i =>
   simp only [List.take_succ_cons, List.all_cons, Bool.and_eq_true, beq_iff_eq] at h
   simp only [h.1, List.find?_cons, bne_self_eq_false]
   exact ih (by simpa using hi) h.2 (by simpa using hc)
theorem firstNe_none {l : List Int} {i : Nat} (hi : l.length ≤ i) (h : (l.take i).all (· == 0) = true) : firstNe l = 0 := by
 rw [List.take_of_length_le hi] at h
 unfold firstNe
 rw [List.find?_eq_none.2]
 ·skip
  rfl
 ·skip
  intro x hx
  have := List.all_eq_true.1 h x hx
  simpa using this
theorem zip_at {α β : Type} {f : α → β → Int} {xs : List α} {ys : List β} {i : Nat} (d : α) (e : β) (h1 : i < xs.length) (h2 : i < ys.length) : (List.zipWith f xs ys).getD i 0 = f (xs.getD i d) (ys.getD i e) := by
 simp [List.getD, List.getElem?_zipWith, h1, h2]
theorem three {α : Type} {l : List α} (h : l.length = 3) : ∃ a b c, l = [a, b, c] := by
 match l, h with
 | [a, b, c], _ => exact ⟨a, b, c, rfl⟩
end
section
open Go Go.RowKit Go.Sort
structure Base (w : World) : Prop where
 max : ∃ m, w.cell? ⟨0, 0, none⟩ = some (.int .i64 m)
 pow : Lib.TabIs Tryz.prog w "internal/strconv.uint64pow10" .u64 Lib.pow10Tab
 esyn : ∃ t p, w.var? Tryz.prog "strconv.ErrSyntax" = some #[.iface t p]
 eran : ∃ t p, w.var? Tryz.prog "strconv.ErrRange" = some #[.iface t p]
 db : Lib.TabIs Tryz.prog w "math/bits.deBruijn64tab" .u8 (List.map (fun n : Nat => (n : Int)) Lib.deBruijn64tab)
theorem var_lt {P : Program} {w : World} {s : String} {g : Nat} {cs : Array Value} (hg : P.globalNamed s = some g) (hc : w.var? P s = some cs) : g < w.heap.size := by
 simp only [World.var?, hg, Option.bind_some] at hc
 apply Decidable.byContradiction; intro hn
 rw [Array.getElem?_eq_none (by omega)] at hc
 simp at hc
theorem var_stay {P : Program} {N : Nat} {w w' : World} {s : String} {g : Nat} {cs : Array Value} (h : Below N w w') (hg : P.globalNamed s = some g) (hN : g < N) (hc : w.var? P s = some cs) : w'.var? P s = some cs := by
 simp only [World.var?, hg, Option.bind_some] at hc ⊢
 rw [h.block g hN]; exact hc
theorem cell_lt {w : World} {b o : Nat} {v : Value} (hc : w.cell? ⟨b, o, none⟩ = some v) : b < w.heap.size := by
 apply Decidable.byContradiction; intro hn
 simp only [World.cell?] at hc
 rw [Array.getElem?_eq_none (by omega)] at hc
 simp at hc
theorem cell_stay {N : Nat} {w w' : World} {b o : Nat} {v : Value} (h : Below N w w') (hN : b < N) (hc : w.cell? ⟨b, o, none⟩ = some v) : w'.cell? ⟨b, o, none⟩ = some v := by
 rw [World.cell?_of_block (w := w) (h.block b hN)]; exact hc
def JN : Nat := Nat.max (0 + 1) (Nat.max (7 + 1) (Nat.max (5 + 1) (Nat.max (1 + 1) (2 + 1))))
def J : Inv where
  I := Base
  N := JN
  lt w h := by
    obtain ⟨m, hm⟩ := h.max
    obtain ⟨t, p, hs⟩ := h.esyn
    obtain ⟨t', p', hr⟩ := h.eran
    have h1 := cell_lt hm
    have h2 := var_lt (g := 5) (by kernel_rfl) h.pow
    have h3 := var_lt (g := 1) (by kernel_rfl) hs
    have h4 := var_lt (g := 2) (by kernel_rfl) hr
    have h5 := var_lt (g := 7) (by kernel_rfl) h.db
    exact Nat.max_le.2 ⟨h1, Nat.max_le.2 ⟨h5, Nat.max_le.2 ⟨h2, Nat.max_le.2 ⟨h3, h4⟩⟩⟩⟩
  st w w' h hb := ⟨h.max.imp fun m hm => cell_stay hb (by decide) hm, var_stay (g := 5) hb (by kernel_rfl) (by decide) h.pow,
    h.esyn.imp fun t ht => ht.imp fun p hp => var_stay (g := 1) hb (by kernel_rfl) (by decide) hp,
    h.eran.imp fun t ht => ht.imp fun p hp => var_stay (g := 2) hb (by kernel_rfl) (by decide) hp, var_stay (g := 7) hb (by kernel_rfl) (by decide) h.db⟩
theorem Below.bytesW (w : World) (e : TypeId) (s : ByteArray) : Below w.heap.size w (Lib.bytesWorld w e s) :=
 ⟨rfl, rfl, rfl, by rw [Lib.bytesWorld_size]; omega, fun j hj => Lib.bytesWorld_at_old w e s j hj⟩
theorem pc_Compare (a b : List UInt8) : PureCall Tryz.prog J 23 [.one (.d (.str a)), .one (.d (.str b))] (.one (.d (.int .i64 (Lib.compareBytes a b)))) :=
  PureCall.lib Tryz.func23 (by kernel_rfl) (by kernel_rfl) (xs := [.string ⟨a.toArray⟩, .string ⟨b.toArray⟩]) rfl fun w _ =>
    Calls.mono (Tryz.strings_Compare ⟨a.toArray⟩ ⟨b.toArray⟩ w) fun e w' ⟨he, hw⟩ => ⟨_, he, hw ▸ Below.refl _ _, RV.of_lit (by simp [D.lit])⟩
theorem pc_IndexByte (a : List UInt8) (c : Int) : PureCall Tryz.prog J 187 [.one (.d (.str a)), .one (.d (.int .u8 c))] (.one (.d (.int .i64 (Lib.indexByte a c.toNat.toUInt8)))) :=
  PureCall.lib Tryz.func187 (by kernel_rfl) (by kernel_rfl) (xs := [.string ⟨a.toArray⟩, .int .u8 c]) rfl fun w _ =>
    Calls.mono (Tryz.strings_IndexByte ⟨a.toArray⟩ c w) fun e w' ⟨he, hw⟩ => ⟨_, he, hw ▸ Below.refl _ _, RV.of_lit (by simp [D.lit])⟩
theorem pc_HasPrefix (a b : List UInt8) : PureCall Tryz.prog J 103 [.one (.d (.str a)), .one (.d (.str b))] (.one (.d (.bool (Lib.hasPrefix a b)))) :=
  PureCall.lib Tryz.func103 (by kernel_rfl) (by kernel_rfl) (xs := [.string ⟨a.toArray⟩, .string ⟨b.toArray⟩]) rfl fun w _ =>
    Calls.mono (Tryz.strings_HasPrefix ⟨a.toArray⟩ ⟨b.toArray⟩ w) fun e w' ⟨he, hw⟩ => ⟨_, he, hw ▸ Below.refl _ _, RV.of_lit (by simp [D.lit])⟩
theorem pc_CutPrefix (a b : List UInt8) : PureCall Tryz.prog J 249 [.one (.d (.str a)), .one (.d (.str b))] (.tup [.one (.d (.str (Lib.trimPrefix a b))), .one (.d (.bool (Lib.hasPrefix a b)))]) :=
  PureCall.lib Tryz.func249 (by kernel_rfl) (by kernel_rfl) (xs := [.string ⟨a.toArray⟩, .string ⟨b.toArray⟩]) rfl fun w _ =>
    Calls.mono (Tryz.strings_CutPrefix ⟨a.toArray⟩ ⟨b.toArray⟩ w) fun e w' ⟨he, hw⟩ => ⟨_, he, hw ▸ Below.refl _ _, RV.tup2 (RV.of_lit (by simp [D.lit])) (RV.of_lit (by simp [D.lit]))⟩
theorem pc_Contains (a b : List UInt8) (ha : a.length < 4294967281) : PureCall Tryz.prog J 101 [.one (.d (.str a)), .one (.d (.str b))] (.one (.d (.bool (Lib.contains a b)))) :=
  PureCall.lib Tryz.func101 (by kernel_rfl) (by kernel_rfl) (xs := [.string ⟨a.toArray⟩, .string ⟨b.toArray⟩]) rfl fun w hw =>
    hw.max.elim fun m hm => Calls.mono (Tryz.strings_Contains ⟨a.toArray⟩ ⟨b.toArray⟩ m w (by simpa [ByteArray.size] using ha) hm) fun e w' ⟨he, hw⟩ => ⟨_, he, hw ▸ Below.refl _ _, RV.of_lit (by simp [D.lit])⟩
theorem pc_Cut (a b : List UInt8) (ha : a.length < 4294967281) : PureCall Tryz.prog J 53 [.one (.d (.str a)), .one (.d (.str b))]
    (.tup [.one (.d (.str (Lib.cut a b).1)), .one (.d (.str (Lib.cut a b).2.1)), .one (.d (.bool (Lib.cut a b).2.2))]) :=
  PureCall.lib Tryz.func53 (by kernel_rfl) (by kernel_rfl) (xs := [.string ⟨a.toArray⟩, .string ⟨b.toArray⟩]) rfl fun w hw =>
    hw.max.elim fun m hm => Calls.mono (Tryz.strings_Cut ⟨a.toArray⟩ ⟨b.toArray⟩ m w (by simpa [ByteArray.size] using ha) hm) fun e w' ⟨he, n, hw⟩ => ⟨_, he, hw ▸ Below.drewN' _ _, RV.tup3 (RV.of_lit (by simp [D.lit])) (RV.of_lit (by simp [D.lit])) (RV.of_lit (by simp [D.lit]))⟩
theorem countB_eq (s sep : List UInt8) : Lib.countB ⟨s.toArray⟩ ⟨sep.toArray⟩ = Lib.count s sep := by simp [Lib.countB]
theorem pc_Split (a b : List UInt8) (ha : a.length < 4294967281) (hb : 1 ≤ b.length) : PureCall Tryz.prog J 69 [.one (.d (.str a)), .one (.d (.str b))]
    (.one (.d (.vec 1 ((Lib.split a b).map fun x => [.str x])))) :=
  PureCall.lib Tryz.func69 (by kernel_rfl) (by kernel_rfl) (xs := [.string ⟨a.toArray⟩, .string ⟨b.toArray⟩]) rfl fun w hw =>
    hw.max.elim fun m hm => Calls.mono (Tryz.strings_Split ⟨a.toArray⟩ ⟨b.toArray⟩ m w (by simpa [ByteArray.size] using ha) hm (by simpa [ByteArray.size] using hb)) fun e w' ⟨he, hw⟩ => by
      subst hw
      refine ⟨_, he, Below.alloc' _ _, ?_⟩
      have hl := Lib.splitB_all ⟨b.toArray⟩ (by simpa [ByteArray.size] using hb) 0 (Lib.countB ⟨a.toArray⟩ ⟨b.toArray⟩) ⟨a.toArray⟩ rfl
      have hd := Lib.splitB_data ⟨b.toArray⟩ 0 (Lib.countB ⟨a.toArray⟩ ⟨b.toArray⟩) ⟨a.toArray⟩
      have he : (Lib.split a b).map (fun x => [D.str x]) = (Lib.splitB ⟨b.toArray⟩ 0 (Lib.countB ⟨a.toArray⟩ ⟨b.toArray⟩) ⟨a.toArray⟩).map fun s => [D.str s.data.toList] := by
        have h2 : Lib.split a b = (Lib.splitB ⟨b.toArray⟩ 0 (Lib.countB ⟨a.toArray⟩ ⟨b.toArray⟩) ⟨a.toArray⟩).map (·.data.toList) := by
          rw [hd, countB_eq]; rfl
        rw [h2, List.map_map]; rfl
      rw [he]
      exact RV.texts _ (fun h => by rw [h] at hl; simp at hl) _ hl.symm
theorem pc_cmpInt (x y : Int) : PureCall Tryz.prog J 68 [.one (.d (.int .i64 x)), .one (.d (.int .i64 y))] (.one (.d (.int .i64 (Lib.compareInt x y)))) :=
  PureCall.lib Tryz.func68 (by kernel_rfl) (by kernel_rfl) (xs := [.int .i64 x, .int .i64 y]) rfl fun w _ =>
    Calls.mono (Tryz.cmp_Compare_int x y w) fun e w' ⟨he, hw⟩ => ⟨_, he, hw ▸ Below.refl _ _, RV.of_lit (by simp [D.lit])⟩
theorem pc_Trim (s cs : List UInt8) (hs : s.length ≤ 9223372036854775807) (hcs : cs.length < 4294967281) (ha : cs.all (fun b => decide (b.toNat < 128)) = true) :
    PureCall Tryz.prog J 122 [.one (.d (.str s)), .one (.d (.str cs))] (.one (.d (.str (Lib.trimS s cs)))) :=
  PureCall.lib Tryz.func122 (by kernel_rfl) (by kernel_rfl) (xs := [.string ⟨s.toArray⟩, .string ⟨cs.toArray⟩]) rfl fun w _ =>
    Calls.mono (Any.strings_Trim_laid Tryz.lays160 (by kernel_rfl) ⟨s.toArray⟩ ⟨cs.toArray⟩ w (by simpa [ByteArray.size] using hs) (by simpa [ByteArray.size] using hcs) (ascii_of_all (by simpa using ha))) fun e w' ⟨he, hw⟩ => ⟨_, he, hw, RV.of_lit (by simp [D.lit])⟩
theorem pc_Atoi (s : List UInt8) (hs : s.length ≤ 281474976710656) : PureCall Tryz.prog J 71 [.one (.d (.str s))] (.tup [.one (.d (.int .i64 (atoiV s))), .one (.d (.err (atoiOk s)))]) :=
  PureCall.lib Tryz.func71 (by kernel_rfl) (by kernel_rfl) (xs := [.string ⟨s.toArray⟩]) rfl fun w hw => by
    have hsz : (⟨s.toArray⟩ : ByteArray).size ≤ 281474976710656 := by simpa [ByteArray.size] using hs
    cases h : Lib.atoiAll s with
    | ok v =>
      refine Calls.mono (Tryz.strconv_Atoi_ok ⟨s.toArray⟩ (by omega) v h w) fun e w' ⟨he, hw⟩ => ⟨_, he, ?_, ?_⟩
      · rcases hw with rfl | ⟨t, rfl⟩
        · exact Below.refl _ _
        · exact Below.bytesW _ _ _
      · rw [show atoiV s = v by simp [atoiV, h], show atoiOk s = true by simp [atoiOk, h]]
        exact RV.tup2 (RV.of_lit rfl) (.one _ _ (.d _ _ .errNil))
    | range =>
      obtain ⟨t, p, hv⟩ := hw.eran
      refine Calls.mono (Tryz.strconv_Atoi_range_var ⟨s.toArray⟩ hsz h t p w hv) fun e w' ⟨N, he, _, _, hB⟩ => ⟨_, he, hB, ?_⟩
      rw [show atoiV s = Lib.atoiSat s by simp [atoiV, h], show atoiOk s = false by simp [atoiOk, h]]
      exact RV.tup2 (RV.of_lit rfl) (.one _ _ (.d _ _ (.errSome _ _)))
    | _ =>
      obtain ⟨t, p, hv⟩ := hw.esyn
      refine Calls.mono (Tryz.strconv_Atoi_syntax_var ⟨s.toArray⟩ hsz h t p w hv) fun e w' ⟨N, he, _, _, hB⟩ => ⟨_, he, hB, ?_⟩
      rw [show atoiV s = 0 by simp [atoiV, h], show atoiOk s = false by simp [atoiOk, h]]
      exact RV.tup2 (RV.of_lit rfl) (.one _ _ (.d _ _ (.errSome _ _)))
end
section
def isDigit (c : Int) : Bool := decide (c ≥ 48) && decide (c ≤ 57)
def isSmall (c : Int) : Bool := decide (c ≥ 97) && decide (c ≤ 122)
def outsideB (n l h : Int) : Bool := decide (n < l) || decide (n > h)
def bI (c : UInt8) : Int := (c.toNat : Int)
def nameC (c : Int) : Bool := isSmall c || isDigit c || c == 45 || c == 46
def partC' (c : Int) : Bool := isSmall c || (decide (c ≥ 65) && decide (c ≤ 90)) || isDigit c || c == 45 || c == 46 || c == 95
def valueC (c : Int) : Bool := decide (c ≥ 32) && decide (c ≤ 126)
def earlyC (c : Int) : Bool := isSmall c || isDigit c
def eachB (φ : Int → Bool) (s : List UInt8) (m : Int) : Bool := s.all (fun c => φ (bI c)) && (!(s == []) && decide ((s.length : Int) ≤ m))
theorem eachB_pos {φ : Int → Bool} {s : List UInt8} {m : Int} (h : eachB φ s m = true) : (0 : Int) < (s.length : Int) := by
 unfold eachB at h
 cases s with
 | nil => simp at h
 | cons a l => simp only [List.length_cons]; omega
def nameB (s : List UInt8) : Bool := eachB nameC s 40 && isSmall (bI (s.getD 0 0))
def partB (s : List UInt8) : Bool := eachB partC' s 40 && !(s == [46]) && !(s == [46, 46])
def valueB (s : List UInt8) : Bool := s == [] || eachB valueC s 1000
def numeralB (s : List UInt8) : Bool := eachB isDigit s 10
def wordB (w : List UInt8) : Bool := eachB earlyC w 10 && !(numeralB w && bI (w.getD 0 0) == 48 && !(w == [48]))
theorem word_f {a b : Bool} (h : (!a || b) = true) : (a && !b) = false := by cases a <;> cases b <;> simp_all
theorem word_t {a b : Bool} (h : (!a || b) = false) : (a && !b) = true := by cases a <;> cases b <;> simp_all
def pathB (s : List UInt8) : Bool := (Go.Lib.split s [47]).all partB && decide ((s.length : Int) ≤ 200)
def earlyB (s : List UInt8) : Bool := (Go.Lib.split s [46]).all wordB && decide ((s.length : Int) ≤ 40)
def outsideN (n : Int) : Bool := outsideB n 0 999999
def checkB (a b c : Int) (e : List UInt8) : Int := if outsideN a || outsideN b || outsideN c then 3 else if !(e == []) && !earlyB e then 2 else 0
end
section
open Go
open Go.RowKit
attribute [local irreducible] thenK blockK W
theorem pc_ver_isDigit (c : Int) :
  PureCall Tryz.prog J 96 [.one (.d (.int .u8 c))] (.one (.d (.bool (isDigit c)))) := by
 refine PureCall.of_body tOk (fn := Tryz.f96) Tryz.func96 (by kernel_rfl) rfl (Nat.le_of_ble_eq_true rfl) (fun E => ?_)
 iterate 12 first|refine S.pickAnd tOk zOk rfl rfl tg ?_|refine Yp rfl ?_|refine Yg rfl rfl tg ?_|apply Yt|apply Y3|apply Y1|apply Yn
 exact ⟨_, rfl, rfl, LeV.refl _⟩
theorem pc_ver_isSmall (c : Int) :
  PureCall Tryz.prog J 95 [.one (.d (.int .u8 c))] (.one (.d (.bool (isSmall c)))) := by
 refine PureCall.of_body tOk (fn := Tryz.f95) Tryz.func95 (by kernel_rfl) rfl (Nat.le_of_ble_eq_true rfl) (fun E => ?_)
 iterate 12 first|refine S.pickAnd tOk zOk rfl rfl tg ?_|refine Yp rfl ?_|refine Yg rfl rfl tg ?_|apply Yt|apply Y3|apply Y1|apply Yn
 exact ⟨_, rfl, rfl, LeV.refl _⟩
theorem pc_ver_outside (n l h : Int) :
  PureCall Tryz.prog J 130 [.one (.d (.int .i64 n)), .one (.d (.int .i64 l)), .one (.d (.int .i64 h))] (.one (.d (.bool (outsideB n l h)))) := by
 refine PureCall.of_body tOk (fn := Tryz.f130) Tryz.func130 (by kernel_rfl) rfl (Nat.le_of_ble_eq_true rfl) (fun E => ?_)
 iterate 14 first|refine S.pickOr tOk zOk rfl rfl tg ?_|refine Yp rfl ?_|refine Yg rfl rfl tg ?_|apply Yt|apply Y3|apply Y1|apply Yn
 exact ⟨_, rfl, rfl, LeV.refl _⟩
theorem pc_ver_each (φ : Int → Bool) (s : List UInt8) (m : Int) (f : FuncId) (hs : s.length ≤ 4611686018427387904) (hφ : ∀ c, PureCall Tryz.prog J f [.one (.d (.int .u8 c))] (.one (.d (.bool (φ c))))) :
  PureCall Tryz.prog J 93 [.one (.d (.str s)), .one (.d (.int .i64 m)), .one (.d (.fn f))] (.one (.d (.bool (eachB φ s m)))) := by
 refine PureCall.of_body tOk (fn := Tryz.f93) Tryz.func93 (by kernel_rfl) rfl (Nat.le_of_ble_eq_true rfl) (fun E => ?_)
 iterate 8 first|refine Yp rfl ?_|apply Yb|apply Y1|apply Yn|apply Ys
 refine W.loop (fun k st => ∃ i : Nat, i ≤ s.length ∧ (s.take i).all (fun c => φ (bI c)) = true ∧ k = s.length - i ∧ ∃ t b2 r2 m2, st = ⟨t, [] ++ b2, [] ++ r2, [] ++ m2⟩ ∧ holdsL t [(0, .one (.d (.str s))), (1, .one (.d (.int .i64 m))), (2, .one (.d (.fn f))), (7, .one (.d (.int .i64 (i : Int))))]) (s.length) ⟨0, Nat.zero_le _, by simp, rfl, _, _, _, _, rfl, rfl, rfl, rfl, rfl, trivial⟩ ?_
 rintro k0 _ ⟨i, f0_0, f0_1, rfl, t0, bb0, rr0, mm0, rfl, hh0⟩
 refine W.keepR _ _ _ _ _ _ _ hh0 rfl ?_
 apply Ys
 apply Y1
 iterate 4 refine Yp rfl ?_
 apply Yn
 refine W.cond rfl (fun c1=>?_) fun c1=>?_
 ·skip
  have hi : i < s.length := by simpa using c1
  iterate 8 first|refine Yp rfl ?_|apply Yb|apply Yk|apply Y1|apply Ys|apply Yn
  refine YP rfl (str_ok hi) rfl ?_
  refine S.call rfl rfl rfl rfl rfl (hφ _) ?_
  refine Yp rfl ?_
  apply Yn
  refine W.cond rfl (fun c2=>?_) fun c2=>?_
  ·skip
   iterate 9 first|apply Yu|apply Yv|apply Yt|refine Yp rfl ?_|apply Y1|apply Yn
   exact ⟨_, rfl, rfl, LeV.of_eq (by rw [eachB, all_false_of (d := 0) (φ := fun c => φ (bI c)) hi (by simpa [bI] using c2)]; rfl)⟩
  apply Yk
  apply Yw
  apply Y4
  iterate 3 refine Yp rfl ?_
  refine loop_n (s.length - (i + 1)) (by omega) ⟨i + 1, by omega, all_take_succ (d := 0) (φ := fun c => φ (bI c)) hi f0_1 (by simpa [bI] using c2), rfl, _, _, _, _, rfl, rfl, rfl, rfl, inc_i64 (by omega), trivial⟩
 have hi : s.length ≤ i := by simpa using c1
 iterate 16 first|refine S.pickAnd tOk zOk rfl rfl tg ?_|refine Yp rfl ?_|refine Yg rfl rfl tg ?_|apply Ye|apply Yt|apply Yx|apply Yq|apply Y3|apply Yn
 exact ⟨_, rfl, rfl, LeV.of_eq (by rw [eachB, all_of_take hi f0_1]; rfl)⟩
theorem pc_ver_IsName_1 (c : Int) :
  PureCall Tryz.prog J 94 [.one (.d (.int .u8 c))] (.one (.d (.bool (nameC c)))) := by
 refine PureCall.of_body tOk (fn := Tryz.f94) Tryz.func94 (by kernel_rfl) rfl (Nat.le_of_ble_eq_true rfl) (fun E => ?_)
 iterate 4 first|refine Yp rfl ?_|apply Y3|apply Y1
 refine S.call rfl rfl rfl rfl rfl (pc_ver_isSmall _) ?_
 refine Yp rfl ?_
 refine Yg rfl rfl tg ?_
 refine S.callG rfl rfl rfl rfl tg rfl rfl (fun _ => pc_ver_isDigit _) ?_
 iterate 12 first|refine S.pickOr tOk zOk rfl rfl tg ?_|refine Yg rfl rfl tg ?_|refine Yp rfl ?_|apply Yt|apply Yn
 exact ⟨_, rfl, rfl, LeV.refl _⟩
theorem pc_ver_IsName (s : List UInt8) (hs : s.length ≤ 4611686018427387904) :
  PureCall Tryz.prog J 38 [.one (.d (.str s))] (.one (.d (.bool (nameB s)))) := by
 refine PureCall.of_body tOk (fn := Tryz.f38) Tryz.func38 (by kernel_rfl) rfl (Nat.le_of_ble_eq_true rfl) (fun E => ?_)
 iterate 4 first|refine Yp rfl ?_|apply Y3|apply Y1
 refine S.call rfl rfl rfl rfl rfl (pc_ver_each _ _ _ _ (hs) (fun c => pc_ver_IsName_1 c)) ?_
 refine Yp rfl ?_
 refine Yg rfl rfl tg ?_
 refine YG rfl rfl tg (fun h => idx_ok (Int.le_refl _) (eachB_pos h)) rfl ?_
 refine S.callG rfl rfl rfl rfl tg rfl rfl (fun _ => pc_ver_isSmall _) ?_
 refine S.pickAnd tOk zOk rfl rfl tg ?_
 refine Yp rfl ?_
 apply Yn
 apply Yt
 exact ⟨_, rfl, rfl, LeV.refl _⟩
theorem pc_ver_isPart_1 (c : Int) :
  PureCall Tryz.prog J 152 [.one (.d (.int .u8 c))] (.one (.d (.bool (partC' c)))) := by
 refine PureCall.of_body tOk (fn := Tryz.f152) Tryz.func152 (by kernel_rfl) rfl (Nat.le_of_ble_eq_true rfl) (fun E => ?_)
 iterate 4 first|refine Yp rfl ?_|apply Y3|apply Y1
 refine S.call rfl rfl rfl rfl rfl (pc_ver_isSmall _) ?_
 iterate 10 first|refine S.pickOr tOk zOk rfl rfl tg ?_|refine S.pickAndG tOk zOk rfl rfl rfl tg tg ?_|refine Yg rfl rfl tg ?_|refine Yp rfl ?_
 refine S.callG rfl rfl rfl rfl tg rfl rfl (fun _ => pc_ver_isDigit _) ?_
 iterate 16 first|refine S.pickOr tOk zOk rfl rfl tg ?_|refine Yg rfl rfl tg ?_|refine Yp rfl ?_|apply Yt|apply Yn
 exact ⟨_, rfl, rfl, LeV.refl _⟩
theorem pc_ver_isPart (s : List UInt8) (hs : s.length < 4294967281) :
  PureCall Tryz.prog J 97 [.one (.d (.str s))] (.one (.d (.bool (partB s)))) := by
 refine PureCall.of_body tOk (fn := Tryz.f97) Tryz.func97 (by kernel_rfl) rfl (Nat.le_of_ble_eq_true rfl) (fun E => ?_)
 iterate 7 first|refine Yp rfl ?_|apply Y3|apply Y1
 refine S.call rfl rfl rfl rfl rfl (pc_ver_each _ _ _ _ (by omega) (fun c => pc_ver_isPart_1 c)) ?_
 iterate 11 first|refine S.pickAnd tOk zOk rfl rfl tg ?_|refine Yg rfl rfl tg ?_|refine Yp rfl ?_|apply Yt|apply Yn
 exact ⟨_, rfl, rfl, LeV.refl _⟩
theorem pc_ver_IsPath (s : List UInt8) (hs : s.length < 4294967281) :
  PureCall Tryz.prog J 44 [.one (.d (.str s))] (.one (.d (.bool (pathB s)))) := by
 have hl := split_le s [47]
 have hm := fun i => @split_at s [47] i
 refine PureCall.of_body tOk (fn := Tryz.f44) Tryz.func44 (by kernel_rfl) rfl (Nat.le_of_ble_eq_true rfl) (fun E => ?_)
 iterate 6 first|refine Yp rfl ?_|apply Y1|apply Ys|apply Yn
 refine S.call rfl rfl rfl rfl rfl (pc_Split _ _ hs (by decide)) ?_
 iterate 2 refine Yp rfl ?_
 apply Yn
 apply Yb
 refine W.loop (fun k st => ∃ i : Nat, i ≤ (Lib.split s [47]).length ∧ ((Lib.split s [47]).take i).all partB = true ∧ k = (Lib.split s [47]).length - i ∧ ∃ t b2 r2 m2, st = ⟨t, [] ++ b2, [] ++ r2, [] ++ m2⟩ ∧ holdsL t [(0, .one (.d (.str s))), (6, .one (.d (.vec 1 ((Lib.split s [47]).map fun x => [.str x])))), (7, .one (.d (.int .i64 (((Lib.split s [47]).map fun x => ([.str x] : List D)).length : Int)))), (8, .one (.d (.int .i64 (i : Int))))]) ((Lib.split s [47]).length) ⟨0, Nat.zero_le _, by simp, rfl, _, _, _, _, rfl, rfl, rfl, rfl, rfl, trivial⟩ ?_
 rintro k0 _ ⟨i, f0_0, f0_1, rfl, t0, bb0, rr0, mm0, rfl, hh0⟩
 refine W.keepR _ _ _ _ _ _ _ hh0 rfl ?_
 apply Y1
 refine Yp rfl ?_
 apply Yn
 apply Ys
 refine W.cond rfl (fun c1=>?_) fun c1=>?_
 ·skip
  have hi := row_lt c1
  apply Yk
  apply Yn
  apply Ys
  apply Yb
  apply Y1
  refine YE rfl (row_ok hi) (row_at [] hi) rfl ?_
  iterate 4 first|refine Yp rfl ?_|apply Y3
  refine S.call rfl rfl rfl rfl rfl (pc_ver_isPart _ (by have := hm i; omega)) ?_
  refine Yp rfl ?_
  apply Yn
  refine W.cond rfl (fun c2=>?_) fun c2=>?_
  ·skip
   iterate 9 first|apply Yu|apply Yv|apply Yt|refine Yp rfl ?_|apply Y1|apply Yn
   exact ⟨_, rfl, rfl, LeV.of_eq (by rw [pathB, all_false_of (d := []) hi (by simpa using c2)]; rfl)⟩
  apply Yk
  apply Yw
  apply Y4
  iterate 2 refine Yp rfl ?_
  refine loop_n ((Lib.split s [47]).length - (i + 1)) (by omega) ⟨i + 1, hi, all_take_succ (d := []) hi f0_1 (by simpa using c2), rfl, _, _, _, _, rfl, rfl, rfl, rfl, inc_i64 (by omega), trivial⟩
 have hi := row_ge c1
 iterate 11 first|refine Yp rfl ?_|apply Ye|apply Yt|apply Yx|apply Yq|apply Y3|apply Yn
 exact ⟨_, rfl, rfl, LeV.of_eq (by rw [pathB, all_of_take hi f0_1]; rfl)⟩
theorem pc_ver_IsValue_1 (c : Int) :
  PureCall Tryz.prog J 151 [.one (.d (.int .u8 c))] (.one (.d (.bool (valueC c)))) := by
 refine PureCall.of_body tOk (fn := Tryz.f151) Tryz.func151 (by kernel_rfl) rfl (Nat.le_of_ble_eq_true rfl) (fun E => ?_)
 iterate 12 first|refine S.pickAnd tOk zOk rfl rfl tg ?_|refine Yp rfl ?_|refine Yg rfl rfl tg ?_|apply Yt|apply Y3|apply Y1|apply Yn
 exact ⟨_, rfl, rfl, LeV.refl _⟩
theorem pc_ver_IsValue (s : List UInt8) (hs : s.length < 4294967281) :
  PureCall Tryz.prog J 92 [.one (.d (.str s))] (.one (.d (.bool (valueB s)))) := by
 refine PureCall.of_body tOk (fn := Tryz.f92) Tryz.func92 (by kernel_rfl) rfl (Nat.le_of_ble_eq_true rfl) (fun E => ?_)
 iterate 7 first|refine Yp rfl ?_|refine Yg rfl rfl tg ?_|apply Y3|apply Y1
 refine S.callG rfl rfl rfl rfl tg rfl rfl (fun _ => pc_ver_each _ _ _ _ (by omega) (fun c => pc_ver_IsValue_1 c)) ?_
 refine S.pickOr tOk zOk rfl rfl tg ?_
 refine Yp rfl ?_
 apply Yn
 apply Yt
 exact ⟨_, rfl, rfl, LeV.refl _⟩
theorem pc_ver_isNumeral (s : List UInt8) (hs : s.length < 4294967281) :
  PureCall Tryz.prog J 196 [.one (.d (.str s))] (.one (.d (.bool (numeralB s)))) := by
 refine PureCall.of_body tOk (fn := Tryz.f196) Tryz.func196 (by kernel_rfl) rfl (Nat.le_of_ble_eq_true rfl) (fun E => ?_)
 iterate 4 first|refine Yp rfl ?_|apply Y3|apply Y1
 refine S.call rfl rfl rfl rfl rfl (pc_ver_each _ _ _ _ (by omega) (fun c => pc_ver_isDigit c)) ?_
 refine Yp rfl ?_
 apply Yn
 apply Yt
 exact ⟨_, rfl, rfl, LeV.refl _⟩
theorem pc_ver_isEarly_1 (c : Int) :
  PureCall Tryz.prog J 195 [.one (.d (.int .u8 c))] (.one (.d (.bool (earlyC c)))) := by
 refine PureCall.of_body tOk (fn := Tryz.f195) Tryz.func195 (by kernel_rfl) rfl (Nat.le_of_ble_eq_true rfl) (fun E => ?_)
 iterate 4 first|refine Yp rfl ?_|apply Y3|apply Y1
 refine S.call rfl rfl rfl rfl rfl (pc_ver_isSmall _) ?_
 refine Yp rfl ?_
 refine Yg rfl rfl tg ?_
 refine S.callG rfl rfl rfl rfl tg rfl rfl (fun _ => pc_ver_isDigit _) ?_
 refine S.pickOr tOk zOk rfl rfl tg ?_
 refine Yp rfl ?_
 apply Yn
 apply Yt
 exact ⟨_, rfl, rfl, LeV.refl _⟩
theorem pc_ver_isEarly (s : List UInt8) (hs : s.length < 4294967281) :
  PureCall Tryz.prog J 131 [.one (.d (.str s))] (.one (.d (.bool (earlyB s)))) := by
 have hl := split_le s [46]
 have hm := fun i => @split_at s [46] i
 refine PureCall.of_body tOk (fn := Tryz.f131) Tryz.func131 (by kernel_rfl) rfl (Nat.le_of_ble_eq_true rfl) (fun E => ?_)
 iterate 6 first|refine Yp rfl ?_|apply Y1|apply Ys|apply Yn
 refine S.call rfl rfl rfl rfl rfl (pc_Split _ _ hs (by decide)) ?_
 iterate 2 refine Yp rfl ?_
 apply Yn
 apply Yb
 refine W.loop (fun k st => ∃ i : Nat, i ≤ (Lib.split s [46]).length ∧ ((Lib.split s [46]).take i).all wordB = true ∧ k = (Lib.split s [46]).length - i ∧ ∃ t b2 r2 m2, st = ⟨t, [] ++ b2, [] ++ r2, [] ++ m2⟩ ∧ holdsL t [(0, .one (.d (.str s))), (6, .one (.d (.vec 1 ((Lib.split s [46]).map fun x => [.str x])))), (7, .one (.d (.int .i64 (((Lib.split s [46]).map fun x => ([.str x] : List D)).length : Int)))), (8, .one (.d (.int .i64 (i : Int))))]) ((Lib.split s [46]).length) ⟨0, Nat.zero_le _, by simp, rfl, _, _, _, _, rfl, rfl, rfl, rfl, rfl, trivial⟩ ?_
 rintro k0 _ ⟨i, f0_0, f0_1, rfl, t0, bb0, rr0, mm0, rfl, hh0⟩
 refine W.keepR _ _ _ _ _ _ _ hh0 rfl ?_
 apply Y1
 refine Yp rfl ?_
 apply Yn
 apply Ys
 refine W.cond rfl (fun c1=>?_) fun c1=>?_
 ·skip
  have hi := row_lt c1
  apply Yk
  apply Yn
  apply Ys
  apply Yb
  apply Y1
  refine YE rfl (row_ok hi) (row_at [] hi) rfl ?_
  iterate 4 first|refine Yp rfl ?_|apply Y3
  refine S.call rfl rfl rfl rfl rfl (pc_ver_each _ _ _ _ (by have := hm i; omega) (fun c => pc_ver_isEarly_1 c)) ?_
  iterate 2 refine Yp rfl ?_
  refine Yg rfl rfl tg ?_
  refine S.callG rfl rfl rfl rfl tg rfl rfl (fun _ => pc_ver_isNumeral _ (by have := hm i; omega)) ?_
  iterate 2 refine Yg rfl rfl tg ?_
  refine YG rfl rfl tg (fun h => idx_ok (Int.le_refl _) (eachB_pos (andr h))) rfl ?_
  iterate 8 first|refine S.pickAndG tOk zOk rfl rfl rfl tg tg ?_|refine S.pickOr tOk zOk rfl rfl tg ?_|refine Yg rfl rfl tg ?_|apply Yn
  refine W.cond rfl (fun c2=>?_) fun c2=>?_
  ·skip
   iterate 9 first|apply Yu|apply Yv|apply Yt|refine Yp rfl ?_|apply Y1|apply Yn
   exact ⟨_, rfl, rfl, LeV.of_eq (by rw [earlyB, all_false_of (d := []) hi (word_f c2)]; rfl)⟩
  apply Yk
  apply Yw
  apply Y4
  iterate 2 refine Yp rfl ?_
  refine loop_n ((Lib.split s [46]).length - (i + 1)) (by omega) ⟨i + 1, hi, all_take_succ (d := []) hi f0_1 (word_t c2), rfl, _, _, _, _, rfl, rfl, rfl, rfl, inc_i64 (by omega), trivial⟩
 have hi := row_ge c1
 iterate 11 first|refine Yp rfl ?_|apply Ye|apply Yt|apply Yx|apply Yq|apply Y3|apply Yn
 exact ⟨_, rfl, rfl, LeV.of_eq (by rw [earlyB, all_of_take hi f0_1]; rfl)⟩
end
section
open Go
structure Ver where
 a : Int
 b : Int
 c : Int
 e : List UInt8
 deriving DecidableEq
def Ver.z : Ver := ⟨0, 0, 0, []⟩
def Ver.check (v : Ver) : Int := checkB v.a v.b v.c v.e
def VerOk (v : Ver) : Prop := -9223372036854775808 ≤ v.a ∧ v.a ≤ 9223372036854775807 ∧ -9223372036854775808 ≤ v.b ∧ v.b ≤ 9223372036854775807 ∧ -9223372036854775808 ≤ v.c ∧ v.c ≤ 9223372036854775807
def w1 (x : Int) : Int := IntKind.i64.wrap (x + 1)
def numB (s : List UInt8) : Int × Bool := if !eachB isDigit s 9 || (bI (s.getD 0 0) == 48 && !(s == [48])) then (0, false) else (atoiV s, atoiOk s)
def threeB (e p q r : List UInt8) : Ver × Int :=
 if !(numB p).2 then (Ver.z, 8) else if !(numB q).2 then (Ver.z, 8) else if !(numB r).2 then (Ver.z, 8) else
 if checkB (numB p).1 (numB q).1 (numB r).1 e != 0 then (Ver.z, checkB (numB p).1 (numB q).1 (numB r).1 e) else (⟨(numB p).1, (numB q).1, (numB r).1, e⟩, 0)
def parseW (e : List UInt8) (is : Bool) (ws : List (List UInt8)) : Ver × Int :=
 if !((ws.length : Int) == 3) || (is && e == []) then (Ver.z, 8) else match ws with
  | [p, q, r] => threeB e p q r
  | _ => (Ver.z, 8)
theorem parse_ok {e : List UInt8} {is : Bool} {p q r : List UInt8} (h : (!(([p, q, r].length : Int) == 3) || (is && e == [])) = false) : parseW e is [p, q, r] = threeB e p q r := if_neg (Bool.eq_false_iff.1 h)
def parseB (s : List UInt8) : Ver × Int := parseW (Lib.cut s [45]).2.1 (Lib.cut s [45]).2.2 (Lib.split (Lib.cut s [45]).1 [46])
def cwB (a b : List UInt8) : Int :=
 if numeralB a && numeralB b then (if !((a.length : Int) == (b.length : Int)) then Lib.compareInt a.length b.length else Lib.compareBytes a b)
 else if numeralB a then -1 else if numeralB b then 1 else Lib.compareBytes a b
def rowsB (xs ys : List (List UInt8)) : Int := if firstNe (List.zipWith cwB xs ys) != 0 then firstNe (List.zipWith cwB xs ys) else Lib.compareInt xs.length ys.length
def ceB (a b : List UInt8) : Int := if a == b then 0 else if a == [] then 1 else if b == [] then -1 else rowsB (Lib.split a [46]) (Lib.split b [46])
def orderB (v w : Ver) : Int := firstNe [Lib.compareInt v.a w.a, Lib.compareInt v.b w.b, Lib.compareInt v.c w.c, ceB v.e w.e]
def nextOk (x y z : Int) : Ver × Int := if checkB x y z [] != 0 then (Ver.z, 3) else (⟨x, y, z, []⟩, 0)
def nextB (v : Ver) (p : Int) : Ver × Int :=
 if v.check != 0 then (Ver.z, v.check) else
 if p == 0 then nextOk (w1 v.a) 0 0 else if p == 1 then nextOk v.a (w1 v.b) 0 else if p == 2 && v.e == [] then nextOk v.a v.b (w1 v.c) else if !(p == 2) then (Ver.z, 3) else nextOk v.a v.b v.c
theorem min_lt {α β : Type} {xs : List α} {ys : List β} {i : Nat} {x y : Int} (hx : x = (xs.length : Int)) (hy : y = (ys.length : Int)) (h : decide ((i : Int) < if y < x then y else x) = true) : i < xs.length ∧ i < ys.length := by
 subst hx; subst hy
 simp only [decide_eq_true_eq] at h
 split at h <;> omega
theorem min_ge {α β : Type} {xs : List α} {ys : List β} {i : Nat} {x y : Int} (hx : x = (xs.length : Int)) (hy : y = (ys.length : Int)) (h : decide ((i : Int) < if y < x then y else x) = false) : xs.length ≤ i ∨ ys.length ≤ i := by
 subst hx; subst hy
 simp only [decide_eq_false_iff_not] at h
 split at h <;> omega
theorem cut_le (s sep : List UInt8) : (Lib.cut s sep).1.length ≤ s.length ∧ (Lib.cut s sep).2.1.length ≤ s.length := by
 unfold Lib.cut
 split
 ·skip
  simp; omega
 ·skip
  simp
end
section
open Go Go.RowKit
def verV (v : Ver) : V := .agg [.d (.int .i64 v.a), .d (.int .i64 v.b), .d (.int .i64 v.c), .d (.str v.e)]
def verD (v : Ver) : List D := [.int .i64 v.a, .int .i64 v.b, .int .i64 v.c, .str v.e]
end
section
open Go
open Go.RowKit
attribute [local irreducible] thenK blockK W
theorem pc_ver_Check (v : Ver) (he : v.e.length < 4294967281) :
  PureCall Tryz.prog J 77 [verV v] (.one (.d (.int .i64 v.check))) := by
 refine PureCall.of_body tOk (fn := Tryz.f77) Tryz.func77 (by kernel_rfl) rfl (Nat.le_of_ble_eq_true rfl) (fun E => ?_)
 iterate 16 first|refine Yp rfl ?_|apply Yb|refine S.box rfl rfl rfl rfl ?_|apply Y1|apply Yn|apply Ys
 refine W.rounds 4 ?_
 refine WR.succ ?_
 apply Y1
 refine Yp rfl ?_
 apply Yn
 apply Ys
 refine W.condT rfl rfl ?_
 apply Yk
 apply Yn
 apply Ys
 apply Yb
 apply Y1
 refine YP rfl (by first | rfl | exact idx_ok (by omega) (by omega)) rfl ?_
 iterate 3 first|refine Yp rfl ?_|apply Y3
 refine S.call rfl rfl rfl rfl rfl (pc_ver_outside _ _ _) ?_
 apply Yn
 refine W.cond rfl (fun c2=>?_) fun c2=>?_
 ·skip
  iterate 9 first|apply Yu|apply Yv|apply Yt|refine Yp rfl ?_|apply Y1|apply Yn
  exact Yz rfl rfl rfl (by simp_all [Ver.check, checkB, outsideN])
 apply Yk
 apply Yw
 apply Y4
 iterate 2 refine Yp rfl ?_
 apply Yn
 refine WR.succ ?_
 apply Y1
 refine Yp rfl ?_
 apply Yn
 apply Ys
 refine W.condT rfl rfl ?_
 apply Yk
 apply Yn
 apply Ys
 apply Yb
 apply Y1
 refine YP rfl (by first | rfl | exact idx_ok (by omega) (by omega)) rfl ?_
 iterate 3 first|refine Yp rfl ?_|apply Y3
 refine S.call rfl rfl rfl rfl rfl (pc_ver_outside _ _ _) ?_
 apply Yn
 refine W.cond rfl (fun c4=>?_) fun c4=>?_
 ·skip
  iterate 9 first|apply Yu|apply Yv|apply Yt|refine Yp rfl ?_|apply Y1|apply Yn
  exact Yz rfl rfl rfl (by simp_all [Ver.check, checkB, outsideN])
 apply Yk
 apply Yw
 apply Y4
 iterate 2 refine Yp rfl ?_
 apply Yn
 refine WR.succ ?_
 apply Y1
 refine Yp rfl ?_
 apply Yn
 apply Ys
 refine W.condT rfl rfl ?_
 apply Yk
 apply Yn
 apply Ys
 apply Yb
 apply Y1
 refine YP rfl (by first | rfl | exact idx_ok (by omega) (by omega)) rfl ?_
 iterate 3 first|refine Yp rfl ?_|apply Y3
 refine S.call rfl rfl rfl rfl rfl (pc_ver_outside _ _ _) ?_
 apply Yn
 refine W.cond rfl (fun c6=>?_) fun c6=>?_
 ·skip
  iterate 9 first|apply Yu|apply Yv|apply Yt|refine Yp rfl ?_|apply Y1|apply Yn
  exact Yz rfl rfl rfl (by simp_all [Ver.check, checkB, outsideN])
 apply Yk
 apply Yw
 apply Y4
 iterate 2 refine Yp rfl ?_
 apply Yn
 refine WR.succ ?_
 apply Y1
 refine Yp rfl ?_
 apply Yn
 apply Ys
 refine W.condF rfl rfl ?_
 iterate 13 first|refine Yp rfl ?_|refine Yg rfl rfl tg ?_|apply Ye|apply Yx|apply Yq|apply Y1|apply Ys|apply Yn
 refine S.callG rfl rfl rfl rfl tg rfl rfl (fun _ => pc_ver_isEarly _ (by omega)) ?_
 refine Yg rfl rfl tg ?_
 refine S.pickAnd tOk zOk rfl rfl tg ?_
 apply Yn
 refine W.cond rfl (fun c8=>?_) fun c8=>?_
 ·skip
  apply Y1
  refine Yp rfl ?_
  apply Yn
  apply Yt
  apply Yu
  exact Yz rfl rfl rfl (by simp_all [Ver.check, checkB, outsideN])
 apply Yk
 apply Y3
 refine Yp rfl ?_
 apply Yn
 apply Yt
 exact Yz rfl rfl rfl (by simp_all [Ver.check, checkB, outsideN])
theorem pc_ver_number (s : List UInt8) (hs : s.length < 4294967281) :
  PureCall Tryz.prog J 320 [.one (.d (.str s))] (.tup [.one (.d (.int .i64 (numB s).1)), .one (.d (.bool (numB s).2))]) := by
 refine PureCall.of_body tOk (fn := Tryz.f320) Tryz.func320 (by kernel_rfl) rfl (Nat.le_of_ble_eq_true rfl) (fun E => ?_)
 iterate 7 first|refine Yp rfl ?_|apply Y1|apply Ys|apply Yn
 refine S.call rfl rfl rfl rfl rfl (pc_ver_each _ _ _ _ (by omega) (fun c => pc_ver_isDigit c)) ?_
 iterate 2 refine Yp rfl ?_
 refine Yg rfl rfl tg ?_
 refine YG rfl rfl tg (fun h => idx_ok (Int.le_refl _) (eachB_pos (by simpa using h))) rfl ?_
 iterate 4 refine Yg rfl rfl tg ?_
 refine S.pickAndG tOk zOk rfl rfl rfl tg tg ?_
 refine S.pickOr tOk zOk rfl rfl tg ?_
 apply Yn
 refine W.cond rfl (fun c1=>?_) fun c1=>?_
 ·skip
  iterate 6 first|refine Yp rfl ?_|apply Yu|apply Yt|apply Y1|apply Yn
  exact Yz rfl rfl rfl (by rw [show numB s = (0, false) from if_pos c1]; rfl)
 apply Yk
 apply Y3
 refine Yp rfl ?_
 refine S.call rfl rfl rfl rfl rfl (pc_Atoi _ (by omega)) ?_
 iterate 5 refine Yp rfl ?_
 apply Yn
 apply Ys
 refine W.regionD mixed (by kernel_rfl) ?_
 iterate 5 refine Ym rfl rfl ?_
 apply Yn
 apply Yt
 exact Yz rfl rfl rfl (by rw [show numB s = (atoiV s, atoiOk s) from if_neg (Bool.eq_false_iff.1 c1)])
theorem pc_cmp_Or_int_ (xs : List Int) (hl : xs.length ≤ 1000000) :
  PureCall Tryz.prog J 67 [.one (.d (.vec 1 (xs.map fun x => [.int .i64 x])))] (.one (.d (.int .i64 (firstNe xs)))) := by
 refine PureCall.of_body tOk (fn := Tryz.f67) Tryz.func67 (by kernel_rfl) rfl (Nat.le_of_ble_eq_true rfl) (fun E => ?_)
 iterate 12 first|refine Yp rfl ?_|apply Yb|apply Y1|apply Y3|apply Yn|apply Ys
 refine W.loop (fun k st => ∃ i : Nat, i ≤ xs.length ∧ (xs.take i).all (· == 0) = true ∧ k = xs.length - i ∧ ∃ t b2 r2 m2, st = ⟨t, [] ++ b2, [] ++ r2, [] ++ m2⟩ ∧ holdsL t [(3, .one (.d (.int .i64 0))), (6, .one (.d (.vec 1 (xs.map fun x => [.int .i64 x])))), (7, .one (.d (.int .i64 ((xs.map fun x => ([.int .i64 x] : List D)).length : Int)))), (8, .one (.d (.int .i64 (i : Int))))]) (xs.length) ⟨0, Nat.zero_le _, by simp, rfl, _, _, _, _, rfl, rfl, rfl, rfl, rfl, trivial⟩ ?_
 rintro k0 _ ⟨i, f0_0, f0_1, rfl, t0, bb0, rr0, mm0, rfl, hh0⟩
 refine W.keepR _ _ _ _ _ _ _ hh0 rfl ?_
 apply Y1
 refine Yp rfl ?_
 apply Yn
 apply Ys
 refine W.cond rfl (fun c1=>?_) fun c1=>?_
 ·skip
  have hi := row_lt c1
  apply Yk
  apply Yn
  apply Ys
  apply Yb
  apply Y1
  refine YE rfl (row_ok hi) (row_at 0 hi) rfl ?_
  iterate 7 first|refine Yp rfl ?_|apply Y3|apply Yn
  refine W.cond rfl (fun c2=>?_) fun c2=>?_
  ·skip
   iterate 10 first|apply Yu|apply Yv|refine Yp rfl ?_|apply Yt|apply Y1|apply Yn
   exact Yz rfl rfl rfl (by rw [firstNe_hit hi f0_1 (by simpa using c2)])
  apply Yk
  apply Yw
  apply Y4
  iterate 2 refine Yp rfl ?_
  refine loop_n (xs.length - (i + 1)) (by omega) ⟨i + 1, hi, all_take_succ (d := 0) hi f0_1 (by simpa using c2), rfl, _, _, _, _, rfl, rfl, rfl, rfl, inc_i64 (by omega), trivial⟩
 have hi := row_ge c1
 iterate 9 first|refine Yp rfl ?_|apply Ye|apply Yt|apply Yx|apply Yq|apply Y3|apply Yn
 exact Yz rfl rfl rfl (by rw [firstNe_none hi f0_1])
theorem pc_ver_compareWords (a b : List UInt8) (ha : a.length < 4294967281) (hb : b.length < 4294967281) :
  PureCall Tryz.prog J 198 [.one (.d (.str a)), .one (.d (.str b))] (.one (.d (.int .i64 (cwB a b)))) := by
 refine PureCall.of_body tOk (fn := Tryz.f198) Tryz.func198 (by kernel_rfl) rfl (Nat.le_of_ble_eq_true rfl) (fun E => ?_)
 iterate 4 first|refine Yp rfl ?_|apply Y3|apply Y1
 refine S.call rfl rfl rfl rfl rfl (pc_ver_isNumeral _ (by omega)) ?_
 refine Yp rfl ?_
 refine S.call rfl rfl rfl rfl rfl (pc_ver_isNumeral _ (by omega)) ?_
 iterate 12 first|refine S.pickAnd tOk zOk rfl rfl tg ?_|refine Yp rfl ?_|refine Yg rfl rfl tg ?_|apply Yb|apply Y1|apply Yn|apply Ys
 refine W.cond rfl (fun c1=>?_) fun c1=>?_
 ·skip
  apply Y1
  iterate 5 refine Yp rfl ?_
  apply Yn
  refine W.cond rfl (fun c2=>?_) fun c2=>?_
  ·skip
   apply Y1
   iterate 4 refine Yp rfl ?_
   refine S.call rfl rfl rfl rfl rfl (pc_cmpInt _ _) ?_
   refine Yp rfl ?_
   apply Yn
   apply Yt
   apply Yv
   apply Yu
   exact Yz rfl rfl rfl (by simp_all [cwB])
  apply Yk
  apply Yw
  apply Y3
  iterate 2 refine Yp rfl ?_
  refine S.call rfl rfl rfl rfl rfl (pc_Compare _ _) ?_
  refine Yp rfl ?_
  apply Yn
  apply Yt
  exact Yz rfl rfl rfl (by simp_all [cwB])
 apply Y1
 iterate 2 refine Yp rfl ?_
 apply Yn
 refine W.cond rfl (fun c3=>?_) fun c3=>?_
 ·skip
  apply Y1
  refine Yp rfl ?_
  apply Yn
  apply Yt
  apply Yv
  apply Yu
  exact Yz rfl rfl rfl (by simp_all [cwB])
 apply Y1
 iterate 2 refine Yp rfl ?_
 apply Yn
 refine W.cond rfl (fun c4=>?_) fun c4=>?_
 ·skip
  apply Y1
  refine Yp rfl ?_
  apply Yn
  apply Yt
  apply Yv
  apply Yu
  exact Yz rfl rfl rfl (by simp_all [cwB])
 apply Yk
 apply Yw
 apply Y3
 iterate 2 refine Yp rfl ?_
 refine S.call rfl rfl rfl rfl rfl (pc_Compare _ _) ?_
 refine Yp rfl ?_
 apply Yn
 apply Yt
 exact Yz rfl rfl rfl (by simp_all [cwB])
theorem pc_ver_compareEarly (a b : List UInt8) (ha : a.length < 4294967281) (hb : b.length < 4294967281) :
  PureCall Tryz.prog J 137 [.one (.d (.str a)), .one (.d (.str b))] (.one (.d (.int .i64 (ceB a b)))) := by
 have hl := split_le a [46]
 have hl2 := split_le b [46]
 refine PureCall.of_body tOk (fn := Tryz.f137) Tryz.func137 (by kernel_rfl) rfl (Nat.le_of_ble_eq_true rfl) (fun E => ?_)
 iterate 11 first|refine Yp rfl ?_|apply Yb|apply Y1|apply Yn|apply Ys
 refine W.cond rfl (fun c1=>?_) fun c1=>?_
 ·skip
  apply Y1
  refine Yp rfl ?_
  apply Yn
  apply Yt
  apply Yv
  apply Yu
  exact Yz rfl rfl rfl (by simp_all [ceB])
 apply Y1
 iterate 3 refine Yp rfl ?_
 apply Yn
 refine W.cond rfl (fun c2=>?_) fun c2=>?_
 ·skip
  apply Y1
  refine Yp rfl ?_
  apply Yn
  apply Yt
  apply Yv
  apply Yu
  exact Yz rfl rfl rfl (by simp_all [ceB])
 apply Y1
 iterate 3 refine Yp rfl ?_
 apply Yn
 refine W.cond rfl (fun c3=>?_) fun c3=>?_
 ·skip
  apply Y1
  refine Yp rfl ?_
  apply Yn
  apply Yt
  apply Yv
  apply Yu
  exact Yz rfl rfl rfl (by simp_all [ceB])
 apply Yk
 apply Yw
 apply Y3
 refine Yp rfl ?_
 refine S.call rfl rfl rfl rfl rfl (pc_Split _ _ ha (by decide)) ?_
 refine Yp rfl ?_
 refine S.call rfl rfl rfl rfl rfl (pc_Split _ _ hb (by decide)) ?_
 iterate 13 first|refine Yp rfl ?_|apply Yb|apply Y1|apply Yn|apply Ys
 refine W.loop (fun k st => ∃ i : Nat, i ≤ (Lib.split a [46]).length ∧ ((List.zipWith cwB (Lib.split a [46]) (Lib.split b [46])).take i).all (· == 0) = true ∧ k = (Lib.split a [46]).length - i ∧ ∃ t b2 r2 m2, st = ⟨t, [] ++ b2, [] ++ r2, [] ++ m2⟩ ∧ holdsL t [(5, .one (.d (.vec 1 ((Lib.split a [46]).map fun x => [.str x])))), (6, .one (.d (.vec 1 ((Lib.split b [46]).map fun x => [.str x])))), (27, .one (.d (.int .i64 (if (((Lib.split b [46]).map fun x => [D.str x]).length : Int) < (((Lib.split a [46]).map fun x => [D.str x]).length : Int) then (((Lib.split b [46]).map fun x => [D.str x]).length : Int) else (((Lib.split a [46]).map fun x => [D.str x]).length : Int))))), (28, .one (.d (.int .i64 (i : Int))))]) ((Lib.split a [46]).length) ⟨0, Nat.zero_le _, by simp, rfl, _, _, _, _, rfl, rfl, rfl, rfl, rfl, trivial⟩ ?_
 rintro k1 _ ⟨i, f1_0, f1_1, rfl, t1, bb1, rr1, mm1, rfl, hh1⟩
 refine W.keepR _ _ _ _ _ _ _ hh1 rfl ?_
 apply Y1
 refine Yp rfl ?_
 apply Yn
 apply Ys
 refine W.cond rfl (fun c4=>?_) fun c4=>?_
 ·skip
  have hi := min_lt (xs := Lib.split a [46]) (ys := Lib.split b [46]) (by simp) (by simp) c4
  iterate 9 first|refine Yp rfl ?_|apply Yb|apply Yk|apply Y1|apply Ys|apply Yn
  refine W.regionD mixed (by kernel_rfl) ?_
  iterate 2 refine Ym rfl rfl ?_
  refine D.pureE tOk zOk rfl rfl (row_ok hi.1) (row_at [] hi.1) rfl ?_
  iterate 3 refine Ym rfl rfl ?_
  refine D.pureE tOk zOk rfl rfl (row_ok hi.2) (row_at [] hi.2) rfl ?_
  refine Ym rfl rfl ?_
  refine D.call rfl rfl rfl rfl rfl (pc_ver_compareWords _ _ (by have := @split_at a [46] i; omega) (by have := @split_at b [46] i; omega)) ?_
  refine Ym rfl rfl ?_
  apply Y3
  iterate 2 refine Yp rfl ?_
  apply Yn
  refine W.cond rfl (fun c5=>?_) fun c5=>?_
  ·skip
   iterate 10 first|apply Yu|apply Yv|refine Yp rfl ?_|apply Yt|apply Y1|apply Yn
   exact ⟨_, rfl, rfl, LeV.of_force rfl (by
   have hz := zip_at (f := cwB) [] [] hi.1 hi.2
   have hc : cwB ((Lib.split a [46]).getD i []) ((Lib.split b [46]).getD i []) ≠ 0 := by simpa using c5
   have hh := firstNe_hit (by simp; omega) f1_1 (by rw [hz]; exact hc); rw [hz] at hh; rw [ceB, rowsB, hh]; simp_all)⟩
  apply Yk
  apply Yw
  apply Y4
  iterate 2 refine Yp rfl ?_
  refine loop_n ((Lib.split a [46]).length - (i + 1)) (by omega) ⟨i + 1, by omega, all_take_succ (d := 0) (by simp; omega) f1_1 (by rw [zip_at [] [] hi.1 hi.2]; simpa using c5), rfl, _, _, _, _, rfl, rfl, rfl, rfl, inc_i64 (by omega), trivial⟩
 have hi := min_ge (xs := Lib.split a [46]) (ys := Lib.split b [46]) (by simp) (by simp) c4
 iterate 9 first|refine Yp rfl ?_|apply Ye|apply Yx|apply Yq|apply Y3
 refine S.call rfl rfl rfl rfl rfl (pc_cmpInt _ _) ?_
 refine Yp rfl ?_
 apply Yn
 apply Yt
 exact Yz rfl rfl rfl (by have hh := firstNe_none (l := List.zipWith cwB (Lib.split a [46]) (Lib.split b [46])) (by simp; omega) f1_1; rw [ceB, rowsB, hh]; simp_all)
theorem pc_ver_Order (v w : Ver) (hv : v.e.length < 4294967281) (hw : w.e.length < 4294967281) :
  PureCall Tryz.prog J 82 [verV v, verV w] (.one (.d (.int .i64 (orderB v w)))) := by
 refine PureCall.of_body tOk (fn := Tryz.f82) Tryz.func82 (by kernel_rfl) rfl (Nat.le_of_ble_eq_true rfl) (fun E => ?_)
 apply Y1
 iterate 2 refine S.box rfl rfl rfl rfl ?_
 refine Yp rfl ?_
 apply Yn
 apply Ys
 refine W.regionD mixed (by kernel_rfl) ?_
 iterate 4 refine Ym rfl rfl ?_
 refine D.call rfl rfl rfl rfl rfl (pc_cmpInt _ _) ?_
 iterate 4 refine Ym rfl rfl ?_
 refine D.call rfl rfl rfl rfl rfl (pc_cmpInt _ _) ?_
 iterate 4 refine Ym rfl rfl ?_
 refine D.call rfl rfl rfl rfl rfl (pc_cmpInt _ _) ?_
 iterate 4 refine Ym rfl rfl ?_
 refine D.call rfl rfl rfl rfl rfl (pc_ver_compareEarly _ _ (by omega) (by omega)) ?_
 refine D.slice tOk rfl rfl ?_
 refine D.call rfl rfl rfl rfl rfl (pc_cmp_Or_int_ [_, _, _, _] (by simp)) ?_
 refine Ym rfl rfl ?_
 apply Yn
 apply Yt
 exact ⟨_, rfl, rfl, LeV.refl _⟩
theorem pc_ver_Next (v : Ver) (he : v.e.length < 4294967281) (p : Int) :
  PureCall Tryz.prog J 323 [verV v, .one (.d (.int .i64 p))] (.tup [verV (nextB v p).1, .one (.d (.int .i64 (nextB v p).2))]) := by
 refine PureCall.of_body tOk (fn := Tryz.f323) Tryz.func323 (by kernel_rfl) rfl (Nat.le_of_ble_eq_true rfl) (fun E => ?_)
 iterate 8 first|refine Yp rfl ?_|refine S.alloc tOk rfl rfl rfl rfl ?_|refine S.box rfl rfl rfl rfl ?_|apply Y1|apply Ys|apply Yn
 refine S.call rfl rfl rfl rfl rfl (pc_ver_Check v he) ?_
 iterate 5 first|refine Yp rfl ?_|apply Y3|apply Yn
 refine W.cond rfl (fun c1=>?_) fun c1=>?_
 ·skip
  iterate 8 first|refine Yp rfl ?_|apply Yu|apply Yt|refine S.store tOk rfl rfl rfl rfl rfl rfl rfl rfl ?_|apply Y1|apply Yn
  exact Yz rfl rfl rfl (by simp_all [nextB, nextOk, Ver.check, Ver.z, w1, verV])
 iterate 19 first|refine Yp rfl ?_|apply Yb|refine S.store tOk rfl rfl rfl rfl rfl rfl rfl rfl ?_|refine S.alloc tOk rfl rfl rfl rfl ?_|apply Yk|apply Y1|apply Y3|apply Yn|apply Ys
 refine W.cond rfl (fun c2=>?_) fun c2=>?_
 ·skip
  iterate 11 first|refine Yp rfl ?_|apply Yw|refine S.store tOk rfl rfl rfl rfl rfl rfl rfl rfl ?_|apply Y1|apply Ys|apply Yn|apply Yr
  refine S.call rfl rfl rfl rfl rfl (pc_ver_Check ⟨w1 v.a, 0, 0, []⟩ (by decide : ([] : List UInt8).length < _)) ?_
  refine Yp rfl ?_
  apply Yn
  refine W.cond rfl (fun c3=>?_) fun c3=>?_
  ·skip
   iterate 7 first|refine Yp rfl ?_|apply Yu|apply Yt|refine S.store tOk rfl rfl rfl rfl rfl rfl rfl rfl ?_|apply Y1|apply Yn
   exact Yz rfl rfl rfl (by simp_all [nextB, nextOk, Ver.check, Ver.z, w1, verV])
  iterate 7 first|refine Yp rfl ?_|apply Yt|refine S.store tOk rfl rfl rfl rfl rfl rfl rfl rfl ?_|apply Yk|apply Y3|apply Yn
  exact Yz rfl rfl rfl (by simp_all [nextB, nextOk, Ver.check, Ver.z, w1, verV])
 apply Y1
 iterate 3 refine Yp rfl ?_
 apply Yn
 refine W.cond rfl (fun c4=>?_) fun c4=>?_
 ·skip
  iterate 13 first|refine Yp rfl ?_|refine S.store tOk rfl rfl rfl rfl rfl rfl rfl rfl ?_|apply Yw|apply Y1|apply Ys|apply Yn|apply Yr
  refine S.call rfl rfl rfl rfl rfl (pc_ver_Check ⟨v.a, w1 v.b, 0, []⟩ (by decide : ([] : List UInt8).length < _)) ?_
  refine Yp rfl ?_
  apply Yn
  refine W.cond rfl (fun c5=>?_) fun c5=>?_
  ·skip
   iterate 7 first|refine Yp rfl ?_|apply Yu|apply Yt|refine S.store tOk rfl rfl rfl rfl rfl rfl rfl rfl ?_|apply Y1|apply Yn
   exact Yz rfl rfl rfl (by simp_all [nextB, nextOk, Ver.check, Ver.z, w1, verV])
  iterate 7 first|refine Yp rfl ?_|apply Yt|refine S.store tOk rfl rfl rfl rfl rfl rfl rfl rfl ?_|apply Yk|apply Y3|apply Yn
  exact Yz rfl rfl rfl (by simp_all [nextB, nextOk, Ver.check, Ver.z, w1, verV])
 iterate 9 first|refine S.pickAnd tOk zOk rfl rfl tg ?_|refine Yp rfl ?_|refine Yg rfl rfl tg ?_|apply Y1
 apply Yn
 refine W.cond rfl (fun c6=>?_) fun c6=>?_
 ·skip
  iterate 11 first|refine Yp rfl ?_|apply Yw|refine S.store tOk rfl rfl rfl rfl rfl rfl rfl rfl ?_|apply Y1|apply Ys|apply Yn|apply Yr
  refine S.call rfl rfl rfl rfl rfl (pc_ver_Check ⟨v.a, v.b, w1 v.c, []⟩ (by decide : ([] : List UInt8).length < _)) ?_
  refine Yp rfl ?_
  apply Yn
  refine W.cond rfl (fun c7=>?_) fun c7=>?_
  ·skip
   iterate 7 first|refine Yp rfl ?_|apply Yu|apply Yt|refine S.store tOk rfl rfl rfl rfl rfl rfl rfl rfl ?_|apply Y1|apply Yn
   exact Yz rfl rfl rfl (by simp_all [nextB, nextOk, Ver.check, Ver.z, w1, verV])
  iterate 7 first|refine Yp rfl ?_|apply Yt|refine S.store tOk rfl rfl rfl rfl rfl rfl rfl rfl ?_|apply Yk|apply Y3|apply Yn
  exact Yz rfl rfl rfl (by simp_all [nextB, nextOk, Ver.check, Ver.z, w1, verV])
 apply Y1
 iterate 3 refine Yp rfl ?_
 apply Yn
 refine W.cond rfl (fun c8=>?_) fun c8=>?_
 ·skip
  iterate 8 first|refine Yp rfl ?_|apply Yu|apply Yv|apply Yt|refine S.store tOk rfl rfl rfl rfl rfl rfl rfl rfl ?_|apply Y1|apply Yn
  exact Yz rfl rfl rfl (by simp_all [nextB, nextOk, Ver.check, Ver.z, w1, verV])
 apply Yk
 apply Yw
 apply Yn
 apply Ys
 apply Y1
 refine Yp rfl ?_
 refine S.call rfl rfl rfl rfl rfl (pc_ver_Check ⟨v.a, v.b, v.c, []⟩ (by decide : ([] : List UInt8).length < _)) ?_
 refine Yp rfl ?_
 apply Yn
 refine W.cond rfl (fun c9=>?_) fun c9=>?_
 ·skip
  iterate 7 first|refine Yp rfl ?_|apply Yu|apply Yt|refine S.store tOk rfl rfl rfl rfl rfl rfl rfl rfl ?_|apply Y1|apply Yn
  exact Yz rfl rfl rfl (by simp_all [nextB, nextOk, Ver.check, Ver.z, w1, verV])
 iterate 7 first|refine Yp rfl ?_|apply Yt|refine S.store tOk rfl rfl rfl rfl rfl rfl rfl rfl ?_|apply Yk|apply Y3|apply Yn
 exact Yz rfl rfl rfl (by simp_all [nextB, nextOk, Ver.check, Ver.z, w1, verV])
theorem pc_ver_Parse (s : List UInt8) (hs : s.length < 4294967281) :
  PureCall Tryz.prog J 303 [.one (.d (.str s))] (.tup [verV (parseB s).1, .one (.d (.int .i64 (parseB s).2))]) := by
 have hc := cut_le s [45]
 have hm := fun i => @split_at (Lib.cut s [45]).1 [46] i
 have hsp := pc_Split (Lib.cut s [45]).1 [46] (by omega) (by decide)
 unfold parseB
 generalize hws : Lib.split (Lib.cut s [45]).1 [46] = ws at hm hsp ⊢
 refine PureCall.of_body tOk (fn := Tryz.f303) Tryz.func303 (by kernel_rfl) rfl (Nat.le_of_ble_eq_true rfl) (fun E => ?_)
 iterate 5 first|refine Yp rfl ?_|refine S.alloc tOk rfl rfl rfl rfl ?_|apply Y3|apply Y1
 refine S.call rfl rfl rfl rfl rfl (pc_Cut _ _ hs) ?_
 iterate 9 first|refine Yp rfl ?_|apply Y3
 refine S.call rfl rfl rfl rfl rfl (hsp) ?_
 iterate 15 first|refine S.pickOr tOk zOk rfl rfl tg ?_|refine S.pickAndG tOk zOk rfl rfl rfl tg tg ?_|refine Yp rfl ?_|refine Yg rfl rfl tg ?_|apply Y1|apply Yn|apply Ys
 refine W.cond rfl (fun c1=>?_) fun c1=>?_
 ·skip
  iterate 7 first|refine Yp rfl ?_|apply Yu|apply Yt|refine S.store tOk rfl rfl rfl rfl rfl rfl rfl rfl ?_|apply Y1|apply Yn
  exact Yz rfl rfl rfl (by simp_all [parseW, verV, Ver.z])
 have h3 : ws.length = 3 := by simp at c1; omega
 obtain ⟨p, q, r, rfl⟩ := three h3
 iterate 11 first|refine Yp rfl ?_|apply Yb|refine S.alloc tOk rfl rfl rfl rfl ?_|apply Yk|apply Y1|apply Y3|apply Yn|apply Ys
 refine W.rounds 4 ?_
 refine WR.succ ?_
 apply Y1
 refine Yp rfl ?_
 apply Yn
 apply Ys
 refine W.condT rfl rfl ?_
 apply Yk
 apply Yn
 apply Ys
 apply Yb
 apply Y1
 refine Yp rfl ?_
 refine YP rfl (by first | rfl | exact idx_ok (by omega) (by omega)) rfl ?_
 iterate 5 first|refine Yp rfl ?_|apply Y3
 refine S.call rfl rfl rfl rfl rfl (pc_ver_number _ (by first | (have := hm 0; simp at this; omega) | (have := hm 1; simp at this; omega) | (have := hm 2; simp at this; omega))) ?_
 iterate 11 first|refine Yp rfl ?_|apply Y1|apply Yn|apply Ys
 refine W.cond rfl (fun c3=>?_) fun c3=>?_
 ·skip
  iterate 12 first|apply Yu|apply Yv|refine Yp rfl ?_|apply Yt|refine S.store tOk rfl rfl rfl rfl rfl rfl rfl rfl ?_|apply Y1|apply Yn
  exact Yz rfl rfl rfl (by rw [parse_ok c1]; clear c1; simp_all [threeB, verV, Ver.z, Ver.check])
 apply Yk
 apply Y4
 iterate 2 refine Yp rfl ?_
 refine YP rfl (by first | rfl | exact idx_ok (by omega) (by omega)) rfl ?_
 refine S.store tOk rfl rfl rfl rfl rfl rfl rfl rfl ?_
 apply Yw
 apply Y4
 iterate 2 refine Yp rfl ?_
 apply Yn
 refine WR.succ ?_
 apply Y1
 refine Yp rfl ?_
 apply Yn
 apply Ys
 refine W.condT rfl rfl ?_
 apply Yk
 apply Yn
 apply Ys
 apply Yb
 apply Y1
 refine Yp rfl ?_
 refine YP rfl (by first | rfl | exact idx_ok (by omega) (by omega)) rfl ?_
 iterate 5 first|refine Yp rfl ?_|apply Y3
 refine S.call rfl rfl rfl rfl rfl (pc_ver_number _ (by first | (have := hm 0; simp at this; omega) | (have := hm 1; simp at this; omega) | (have := hm 2; simp at this; omega))) ?_
 iterate 11 first|refine Yp rfl ?_|apply Y1|apply Yn|apply Ys
 refine W.cond rfl (fun c5=>?_) fun c5=>?_
 ·skip
  iterate 12 first|apply Yu|apply Yv|refine Yp rfl ?_|apply Yt|refine S.store tOk rfl rfl rfl rfl rfl rfl rfl rfl ?_|apply Y1|apply Yn
  exact Yz rfl rfl rfl (by rw [parse_ok c1]; clear c1; simp_all [threeB, verV, Ver.z, Ver.check])
 apply Yk
 apply Y4
 iterate 2 refine Yp rfl ?_
 refine YP rfl (by first | rfl | exact idx_ok (by omega) (by omega)) rfl ?_
 refine S.store tOk rfl rfl rfl rfl rfl rfl rfl rfl ?_
 apply Yw
 apply Y4
 iterate 2 refine Yp rfl ?_
 apply Yn
 refine WR.succ ?_
 apply Y1
 refine Yp rfl ?_
 apply Yn
 apply Ys
 refine W.condT rfl rfl ?_
 apply Yk
 apply Yn
 apply Ys
 apply Yb
 apply Y1
 refine Yp rfl ?_
 refine YP rfl (by first | rfl | exact idx_ok (by omega) (by omega)) rfl ?_
 iterate 5 first|refine Yp rfl ?_|apply Y3
 refine S.call rfl rfl rfl rfl rfl (pc_ver_number _ (by first | (have := hm 0; simp at this; omega) | (have := hm 1; simp at this; omega) | (have := hm 2; simp at this; omega))) ?_
 iterate 11 first|refine Yp rfl ?_|apply Y1|apply Yn|apply Ys
 refine W.cond rfl (fun c7=>?_) fun c7=>?_
 ·skip
  iterate 12 first|apply Yu|apply Yv|refine Yp rfl ?_|apply Yt|refine S.store tOk rfl rfl rfl rfl rfl rfl rfl rfl ?_|apply Y1|apply Yn
  exact Yz rfl rfl rfl (by rw [parse_ok c1]; clear c1; simp_all [threeB, verV, Ver.z, Ver.check])
 apply Yk
 apply Y4
 iterate 2 refine Yp rfl ?_
 refine YP rfl (by first | rfl | exact idx_ok (by omega) (by omega)) rfl ?_
 refine S.store tOk rfl rfl rfl rfl rfl rfl rfl rfl ?_
 apply Yw
 apply Y4
 iterate 2 refine Yp rfl ?_
 apply Yn
 refine WR.succ ?_
 apply Y1
 refine Yp rfl ?_
 apply Yn
 apply Ys
 refine W.condF rfl rfl ?_
 apply Yq
 apply Ye
 apply Ye
 apply Yx
 apply Y3
 refine YP rfl (by first | rfl | exact idx_ok (by omega) (by omega)) rfl ?_
 refine Yp rfl ?_
 refine YP rfl (by first | rfl | exact idx_ok (by omega) (by omega)) rfl ?_
 refine Yp rfl ?_
 refine YP rfl (by first | rfl | exact idx_ok (by omega) (by omega)) rfl ?_
 iterate 9 first|refine Yp rfl ?_|refine S.store tOk rfl rfl rfl rfl rfl rfl rfl rfl ?_|refine S.alloc tOk rfl rfl rfl rfl ?_|apply Y1|apply Ys|apply Yn
 refine S.call rfl rfl rfl rfl rfl (pc_ver_Check ⟨(numB p).1, (numB q).1, (numB r).1, (Lib.cut s [45]).2.1⟩ (by show (Lib.cut s [45]).2.1.length < _; omega)) ?_
 iterate 5 first|refine Yp rfl ?_|apply Y3|apply Yn
 refine W.cond rfl (fun c9=>?_) fun c9=>?_
 ·skip
  iterate 8 first|refine Yp rfl ?_|apply Yu|apply Yt|refine S.store tOk rfl rfl rfl rfl rfl rfl rfl rfl ?_|apply Y1|apply Yn
  exact Yz rfl rfl rfl (by rw [parse_ok c1]; clear c1; simp_all [threeB, verV, Ver.z, Ver.check])
 iterate 7 first|refine Yp rfl ?_|apply Yt|refine S.store tOk rfl rfl rfl rfl rfl rfl rfl rfl ?_|apply Yk|apply Y3|apply Yn
 exact Yz rfl rfl rfl (by rw [parse_ok c1]; clear c1; simp_all [threeB, verV, Ver.z, Ver.check])
end
section
open Go
theorem byte_all {p : UInt8 → Bool} (h : (List.range 256).all (fun n => p (UInt8.ofNat n)) = true) (c : UInt8) : p c = true := by
 have := List.all_eq_true.1 h c.toNat (List.mem_range.2 c.toNat_lt)
 simpa using this
def smallS : List UInt8 := [97, 98, 99, 100, 101, 102, 103, 104, 105, 106, 107, 108, 109, 110, 111, 112, 113, 114, 115, 116, 117, 118, 119, 120, 121, 122]
def digitS : List UInt8 := [48, 49, 50, 51, 52, 53, 54, 55, 56, 57]
def smallDigitS : List UInt8 := [97, 98, 99, 100, 101, 102, 103, 104, 105, 106, 107, 108, 109, 110, 111, 112, 113, 114, 115, 116, 117, 118, 119, 120, 121, 122, 48, 49, 50, 51, 52, 53, 54, 55, 56, 57]
def nameS : List UInt8 := [97, 98, 99, 100, 101, 102, 103, 104, 105, 106, 107, 108, 109, 110, 111, 112, 113, 114, 115, 116, 117, 118, 119, 120, 121, 122, 48, 49, 50, 51, 52, 53, 54, 55, 56, 57, 45, 46]
def partS : List UInt8 := [97, 98, 99, 100, 101, 102, 103, 104, 105, 106, 107, 108, 109, 110, 111, 112, 113, 114, 115, 116, 117, 118, 119, 120, 121, 122, 65, 66, 67, 68, 69, 70, 71, 72, 73, 74, 75, 76, 77, 78, 79, 80, 81, 82, 83, 84, 85, 86, 87, 88, 89, 90, 48, 49, 50, 51, 52, 53, 54, 55, 56, 57, 45, 46, 95]
theorem smallS_eq (c : UInt8) : smallS.contains c = isSmall (bI c) := by
 have := byte_all (p := fun c => smallS.contains c == isSmall (bI c)) (by decide +kernel) c
 simpa using this
theorem digitS_eq (c : UInt8) : digitS.contains c = isDigit (bI c) := by
 have := byte_all (p := fun c => digitS.contains c == isDigit (bI c)) (by decide +kernel) c
 simpa using this
theorem smallDigitS_eq (c : UInt8) : smallDigitS.contains c = earlyC (bI c) := by
 have := byte_all (p := fun c => smallDigitS.contains c == earlyC (bI c)) (by decide +kernel) c
 simpa using this
theorem nameS_eq (c : UInt8) : nameS.contains c = nameC (bI c) := by
 have := byte_all (p := fun c => nameS.contains c == nameC (bI c)) (by decide +kernel) c
 simpa using this
theorem partS_eq (c : UInt8) : partS.contains c = partC' (bI c) := by
 have := byte_all (p := fun c => partS.contains c == partC' (bI c)) (by decide +kernel) c
 simpa using this
def ofB (s cs : List UInt8) : Bool := s.all fun c => cs.contains c
theorem ofB_small (s : List UInt8) : ofB s smallS = s.all fun c => isSmall (bI c) := by simp only [ofB, smallS_eq]
theorem ofB_digit (s : List UInt8) : ofB s digitS = s.all fun c => isDigit (bI c) := by simp only [ofB, digitS_eq]
theorem ofB_smallDigit (s : List UInt8) : ofB s smallDigitS = s.all fun c => earlyC (bI c) := by simp only [ofB, smallDigitS_eq]
theorem ofB_name (s : List UInt8) : ofB s nameS = s.all fun c => nameC (bI c) := by simp only [ofB, nameS_eq]
theorem ofB_part (s : List UInt8) : ofB s partS = s.all fun c => partC' (bI c) := by simp only [ofB, partS_eq]
theorem dropWhile_all {α : Type} {p : α → Bool} : ∀ {l : List α}, l.all p = true → l.dropWhile p = []
  | [], _ => rfl
  | a :: l, h => by
    simp only [List.all_cons, Bool.and_eq_true] at h
    simp only [List.dropWhile_cons, h.1, if_true]
    exact dropWhile_all h.2
theorem trim_ofB (s cs : List UInt8) (h : ofB s cs = true) : Lib.trimS s cs = [] := by
 unfold Lib.trimS Lib.trimLeftS Lib.trimRightS
 have h1 : (s.all fun c => cs.contains c) = true := h
 have h2 : (s.reverse.all fun c => cs.contains c) = true := by simpa using h1
 show ((s.reverse.dropWhile (fun c => cs.contains c)).reverse).dropWhile (fun c => cs.contains c) = []
 rw [dropWhile_all h2]; rfl
theorem of_eq (s cs : List UInt8) : (Lib.trimS s cs == [] && ofB s cs) = ofB s cs := by
 cases h : ofB s cs with
 | false => simp
 | true => simp [trim_ofB s cs h]
theorem indexByte_neg (l : List UInt8) (c : UInt8) : decide (Lib.indexByte l c < 0) = !(l.contains c) := by
 induction l with
 | nil => simp [Lib.indexByte]
 | cons a l ih =>
  unfold Lib.indexByte
  by_cases h : a = c
  ·skip
   subst h; simp
  ·skip
   have h' : ¬ c = a := fun e => h e.symm
   have hge := Lib.indexByte_ge l c
   simp only [beq_iff_eq, h, if_false, List.contains_cons, h', beq_eq_false_iff_ne.2 h', Bool.false_or]
   rw [← ih]
   split
   ·skip
    rename_i hm; simp [hm]
   ·skip
    rename_i hm; simp only [decide_eq_decide]; omega
def inB (n l h : Int) : Bool := decide (n ≥ l) && decide (n ≤ h)
theorem inB_eq (n l h : Int) : inB n l h = !outsideB n l h := by
 unfold inB outsideB
 by_cases h1 : n < l <;> by_cases h2 : n > h <;> simp_all <;> omega
theorem nameR (s : List UInt8) : (((!(s == []) && decide ((s.length : Int) ≤ 40)) && ofB s nameS) && ofB (s.take 1) smallS) = nameB s := by
 rw [ofB_name, ofB_small, nameB, eachB]
 cases s with
 | nil => simp
 | cons a l => simp [Bool.and_assoc, Bool.and_comm, Bool.and_left_comm]
theorem partR (p : List UInt8) : ((((p == [] || p == [46]) || p == [46, 46]) || decide ((p.length : Int) > 40)) || !ofB p partS) = !partB p := by
 rw [ofB_part, partB, eachB]
 have : decide ((p.length : Int) > 40) = !decide ((p.length : Int) ≤ 40) := by by_cases h : (p.length : Int) ≤ 40 <;> simp [h] <;> omega
 rw [this]
 cases (p == []) <;> cases (p == [46]) <;> cases (p == [46, 46]) <;> cases decide ((p.length : Int) ≤ 40) <;> cases (p.all fun c => partC' (bI c)) <;> rfl
theorem lead0 (s : List UInt8) (hs : s ≠ []) : (decide ((s.length : Int) > 1) && bI (s.getD 0 0) == 48) = (bI (s.getD 0 0) == 48 && !(s == [48])) := by
  match s, hs with
  | [a], _ =>
    by_cases h : a = 48
    · subst h; decide
    · have : bI a ≠ 48 := fun e => h (UInt8.toNat_inj.1 (by unfold bI at e; show a.toNat = 48; omega))
      simp [this]
  | a :: b :: l, _ => simp; intro _; omega
theorem wordR (w : List UInt8) : ((((w == [] || decide ((w.length : Int) > 10)) || !ofB w smallDigitS)) || ((ofB w digitS && decide ((w.length : Int) > 1)) && bI (w.getD 0 0) == 48)) = !wordB w := by
 rw [ofB_smallDigit, ofB_digit, wordB, numeralB, eachB, eachB]
 have : decide ((w.length : Int) > 10) = !decide ((w.length : Int) ≤ 10) := by by_cases h : (w.length : Int) ≤ 10 <;> simp [h] <;> omega
 rw [this]
 cases hs : (w == []) with
 | true => simp
 | false =>
  rw [Bool.and_assoc, lead0 w (by simpa using hs)]
  cases decide ((w.length : Int) ≤ 10) <;> cases (w.all fun c => isDigit (bI c)) <;> cases (w.all fun c => earlyC (bI c)) <;> simp
theorem valueR (s : List UInt8) : (s.all (fun c => !(decide (bI c < 32) || decide (bI c > 126))) && decide ((s.length : Int) ≤ 1000)) = valueB s := by
  have : (fun c : UInt8 => !(decide (bI c < 32) || decide (bI c > 126))) = fun c => valueC (bI c) := by
    funext c; unfold valueC
    by_cases h1 : bI c < 32 <;> by_cases h2 : bI c > 126 <;> simp [h1, h2] <;> omega
  rw [this, valueB, eachB]
  cases s <;> simp
def cwR (p q : List UInt8) : Int :=
 if ofB p digitS && ofB q digitS then Lib.compareInt (atoiV p) (atoiV q) else if ofB p digitS then -1 else if ofB q digitS then 1 else Lib.compareBytes p q
def rowsR (xs ys : List (List UInt8)) : Int := if firstNe (List.zipWith cwR xs ys) != 0 then firstNe (List.zipWith cwR xs ys) else Lib.compareInt xs.length ys.length
def min1 (x : Int) : Int := if x < 1 then x else 1
def compareR (v w : Ver) : Int :=
 if firstNe [Lib.compareInt v.a w.a, Lib.compareInt v.b w.b, Lib.compareInt v.c w.c] != 0 then firstNe [Lib.compareInt v.a w.a, Lib.compareInt v.b w.b, Lib.compareInt v.c w.c]
 else if v.e == [] || w.e == [] then Lib.compareInt (min1 w.e.length) (min1 v.e.length) else rowsR (Lib.split v.e [46]) (Lib.split w.e [46])
theorem in_t {l : List UInt8} {c : UInt8} (h : decide (Lib.indexByte l ((c.toNat : Int).toNat.toUInt8) < 0) = false) : l.contains c = true := by
 have h1 := indexByte_neg l c
 have h2 : (c.toNat : Int).toNat.toUInt8 = c := by simp
 rw [h2, h1] at h
 simpa using h
theorem in_f {l : List UInt8} {c : UInt8} (h : decide (Lib.indexByte l ((c.toNat : Int).toNat.toUInt8) < 0) = true) : l.contains c = false := by
 have h1 := indexByte_neg l c
 have h2 : (c.toNat : Int).toNat.toUInt8 = c := by simp
 rw [h2, h1] at h
 simpa using h
theorem name_len {s : List UInt8} {a b : Bool} (h : ((!(s == []) && a) && b) = true) : (1 : Int) ≤ (s.length : Int) := by
 cases s with
 | nil => simp at h
 | cons x l => simp only [List.length_cons]; omega
theorem gt1 {s : List UInt8} (h : decide ((s.length : Int) > 1) = true) : (0 : Int) < (s.length : Int) := by
 have := of_decide_eq_true h; omega
theorem path_t {p : List UInt8} (h : ((((p == [] || p == [46]) || p == [46, 46]) || decide ((p.length : Int) > 40)) || !ofB p partS) = false) : partB p = true := by
 rw [partR] at h; simpa using h
theorem path_f {p : List UInt8} (h : ((((p == [] || p == [46]) || p == [46, 46]) || decide ((p.length : Int) > 40)) || !ofB p partS) = true) : partB p = false := by
 rw [partR] at h; simpa using h
theorem word_t' {w : List UInt8} (h : ((((w == [] || decide ((w.length : Int) > 10)) || !ofB w smallDigitS)) || ((ofB w digitS && decide ((w.length : Int) > 1)) && bI (w.getD 0 0) == 48)) = false) : wordB w = true := by
 rw [wordR] at h; simpa using h
theorem word_f' {w : List UInt8} (h : ((((w == [] || decide ((w.length : Int) > 10)) || !ofB w smallDigitS)) || ((ofB w digitS && decide ((w.length : Int) > 1)) && bI (w.getD 0 0) == 48)) = true) : wordB w = false := by
 rw [wordR] at h; simpa using h
theorem not_le_of {x y : Int} {b : Bool} (h : decide (x > y) = true) : (decide (x ≤ y) && b) = false := by
 have := of_decide_eq_true h
 rw [decide_eq_false (by omega)]; rfl
theorem le_of {x y : Int} (h : decide (x > y) = false) : decide (x ≤ y) = true := by
 have := of_decide_eq_false h
 exact decide_eq_true (by omega)
theorem not_t {a : Bool} (h : a = true) : (!a) = false := by rw [h]; rfl
theorem not_f {a : Bool} (h : a = false) : (!a) = true := by rw [h]; rfl
end
section
open Go
open Go.RowKit
attribute [local irreducible] thenK blockK W
theorem pc_outref2_In (n l h : Int) :
  PureCall Tryz.prog J 50 [.one (.d (.int .i64 n)), .one (.d (.int .i64 l)), .one (.d (.int .i64 h))] (.one (.d (.bool (inB n l h)))) := by
 refine PureCall.of_body tOk (fn := Tryz.f50) Tryz.func50 (by kernel_rfl) rfl (Nat.le_of_ble_eq_true rfl) (fun E => ?_)
 iterate 14 first|refine S.pickAnd tOk zOk rfl rfl tg ?_|refine Yp rfl ?_|refine Yg rfl rfl tg ?_|apply Yt|apply Y3|apply Y1|apply Yn
 exact ⟨_, rfl, rfl, LeV.refl _⟩
theorem pc_outref2_When (b : Bool) (e : Int) :
  PureCall Tryz.prog J 17 [.one (.d (.bool b)), .one (.d (.int .i64 e))] (.one (.d (.int .i64 (if b then e else 0)))) := by
 refine PureCall.of_body tOk (fn := Tryz.f17) Tryz.func17 (by kernel_rfl) rfl (Nat.le_of_ble_eq_true rfl) (fun E => ?_)
 iterate 7 first|refine Yp rfl ?_|apply Y1|apply Yn|apply Ys
 refine W.cond rfl (fun c1=>?_) fun c1=>?_
 ·skip
  iterate 6 first|refine Yp rfl ?_|apply Yu|apply Yt|apply Y1|apply Yn
  exact Yz rfl rfl rfl (by simp_all [])
 apply Yk
 apply Y3
 refine Yp rfl ?_
 apply Yn
 apply Yt
 exact Yz rfl rfl rfl (by simp_all [])
theorem pc_outref2_First (xs : List Int) (hl : xs.length ≤ 1000000) :
  PureCall Tryz.prog J 16 [.one (.d (.vec 1 (xs.map fun x => [.int .i64 x])))] (.one (.d (.int .i64 (firstNe xs)))) := by
 refine PureCall.of_body tOk (fn := Tryz.f16) Tryz.func16 (by kernel_rfl) rfl (Nat.le_of_ble_eq_true rfl) (fun E => ?_)
 iterate 9 first|refine Yp rfl ?_|apply Y1|apply Yn|apply Ys
 apply Yb
 refine W.loop (fun k st => ∃ i : Nat, i ≤ xs.length ∧ (xs.take i).all (· == 0) = true ∧ k = xs.length - i ∧ ∃ t b2 r2 m2, st = ⟨t, [] ++ b2, [] ++ r2, [] ++ m2⟩ ∧ holdsL t [(5, .one (.d (.vec 1 (xs.map fun x => [.int .i64 x])))), (6, .one (.d (.int .i64 ((xs.map fun x => ([.int .i64 x] : List D)).length : Int)))), (7, .one (.d (.int .i64 (i : Int))))]) (xs.length) ⟨0, Nat.zero_le _, by simp, rfl, _, _, _, _, rfl, rfl, rfl, rfl, trivial⟩ ?_
 rintro k0 _ ⟨i, f0_0, f0_1, rfl, t0, bb0, rr0, mm0, rfl, hh0⟩
 refine W.keepR _ _ _ _ _ _ _ hh0 rfl ?_
 apply Y1
 refine Yp rfl ?_
 apply Yn
 apply Ys
 refine W.cond rfl (fun c1=>?_) fun c1=>?_
 ·skip
  have hi := row_lt c1
  apply Yk
  apply Yn
  apply Ys
  apply Yb
  apply Y1
  refine YE rfl (row_ok hi) (row_at 0 hi) rfl ?_
  iterate 6 first|refine Yp rfl ?_|apply Y3|apply Yn
  refine W.cond rfl (fun c2=>?_) fun c2=>?_
  ·skip
   iterate 10 first|apply Yu|apply Yv|refine Yp rfl ?_|apply Yt|apply Y1|apply Yn
   exact Yz rfl rfl rfl (by rw [firstNe_hit hi f0_1 (by simpa using c2)])
  apply Yk
  apply Yw
  apply Y4
  iterate 2 refine Yp rfl ?_
  refine loop_n (xs.length - (i + 1)) (by omega) ⟨i + 1, hi, all_take_succ (d := 0) hi f0_1 (by simpa using c2), rfl, _, _, _, _, rfl, rfl, rfl, inc_i64 (by omega), trivial⟩
 have hi := row_ge c1
 apply Yq
 apply Ye
 apply Ye
 apply Yx
 apply Y3
 refine Yp rfl ?_
 apply Yn
 apply Yt
 exact Yz rfl rfl rfl (by rw [firstNe_none hi f0_1]; rfl)
theorem pc_outref2_inner (s cs : List UInt8) (hs : s.length < 4294967281) :
  PureCall Tryz.prog J 123 [.one (.d (.str s)), .one (.d (.str cs))] (.one (.d (.bool (ofB s cs)))) := by
 refine PureCall.of_body tOk (fn := Tryz.f123) Tryz.func123 (by kernel_rfl) rfl (Nat.le_of_ble_eq_true rfl) (fun E => ?_)
 iterate 9 first|refine Yp rfl ?_|apply Y1|apply Yn|apply Ys
 apply Yb
 refine W.loop (fun k st => ∃ i : Nat, i ≤ s.length ∧ (s.take i).all (fun c => cs.contains c) = true ∧ k = s.length - i ∧ ∃ t b2 r2 m2, st = ⟨t, [] ++ b2, [] ++ r2, [] ++ m2⟩ ∧ holdsL t [(0, .one (.d (.str s))), (1, .one (.d (.str cs))), (7, .one (.d (.int .i64 (s.length : Int)))), (8, .one (.d (.int .i64 (i : Int))))]) (s.length) ⟨0, Nat.zero_le _, by simp, rfl, _, _, _, _, rfl, rfl, rfl, rfl, rfl, trivial⟩ ?_
 rintro k0 _ ⟨i, f0_0, f0_1, rfl, t0, bb0, rr0, mm0, rfl, hh0⟩
 refine W.keepR _ _ _ _ _ _ _ hh0 rfl ?_
 apply Y1
 refine Yp rfl ?_
 apply Yn
 apply Ys
 refine W.cond rfl (fun c1=>?_) fun c1=>?_
 ·skip
  have hi : i < s.length := by simpa using c1
  iterate 11 first|refine Yp rfl ?_|apply Yb|apply Yk|apply Y3|apply Y1|apply Ys|apply Yn
  refine YP rfl (str_ok hi) rfl ?_
  refine S.call rfl rfl rfl rfl rfl (pc_IndexByte _ _) ?_
  refine Yp rfl ?_
  apply Yn
  refine W.cond rfl (fun c2=>?_) fun c2=>?_
  ·skip
   iterate 9 first|apply Yu|apply Yv|apply Yt|refine Yp rfl ?_|apply Y1|apply Yn
   exact Yz rfl rfl rfl (by rw [ofB, all_false_of (d := 0) hi (in_f c2)]; rfl)
  apply Yk
  apply Yw
  apply Y4
  iterate 2 refine Yp rfl ?_
  refine loop_n (s.length - (i + 1)) (by omega) ⟨i + 1, by omega, all_take_succ (d := 0) (φ := fun c => cs.contains c) hi f0_1 (in_t c2), rfl, _, _, _, _, rfl, rfl, rfl, rfl, inc_i64 (by omega), trivial⟩
 have hi : s.length ≤ i := by simpa using c1
 apply Yq
 apply Ye
 apply Ye
 apply Yx
 apply Y3
 refine Yp rfl ?_
 apply Yn
 apply Yt
 exact Yz rfl rfl rfl (by rw [ofB, all_of_take hi f0_1]; rfl)
theorem pc_outref2_Of (s cs : List UInt8) (hcs : cs.length < 4294967281) (ha : cs.all (fun b => decide (b.toNat < 128)) = true) (hs : s.length < 4294967281) :
  PureCall Tryz.prog J 70 [.one (.d (.str s)), .one (.d (.str cs))] (.one (.d (.bool (ofB s cs)))) := by
 refine PureCall.of_body tOk (fn := Tryz.f70) Tryz.func70 (by kernel_rfl) rfl (Nat.le_of_ble_eq_true rfl) (fun E => ?_)
 iterate 5 first|refine Yp rfl ?_|apply Y3|apply Y1
 refine S.call rfl rfl rfl rfl rfl (pc_Trim _ _ (by omega) hcs ha) ?_
 iterate 4 first|refine Yg rfl rfl tg ?_|refine Yp rfl ?_
 refine S.callG rfl rfl rfl rfl tg rfl rfl (fun _ => pc_outref2_inner _ _ (by omega)) ?_
 refine S.pickAnd tOk zOk rfl rfl tg ?_
 refine Yp rfl ?_
 apply Yn
 apply Yt
 exact ⟨_, rfl, rfl, LeV.of_eq (congrArg (fun b => V.one (C.d (D.bool b))) (of_eq s cs))⟩
theorem pc_outref2_NameOf (s : List UInt8) (hs : s.length < 4294967281) :
  PureCall Tryz.prog J 51 [.one (.d (.str s))] (.one (.d (.bool (nameB s)))) := by
 refine PureCall.of_body tOk (fn := Tryz.f51) Tryz.func51 (by kernel_rfl) rfl (Nat.le_of_ble_eq_true rfl) (fun E => ?_)
 iterate 12 first|refine S.pickAnd tOk zOk rfl rfl tg ?_|refine Yp rfl ?_|refine Yg rfl rfl tg ?_|apply Y3|apply Y1
 refine S.callG rfl rfl rfl rfl tg rfl rfl (fun _ => pc_outref2_Of _ nameS (by decide) (by decide) (by omega)) ?_
 refine S.pickAnd tOk zOk rfl rfl tg ?_
 refine Yp rfl ?_
 refine Yg rfl rfl tg ?_
 refine YG rfl rfl tg (fun h => sl_okT (l := 0) (h := 1) rfl rfl (by decide) (by decide) (name_len h)) rfl ?_
 refine S.callG rfl rfl rfl rfl tg rfl rfl (fun _ => pc_outref2_Of _ smallS (by decide) (by decide) (by simp; omega)) ?_
 refine S.pickAnd tOk zOk rfl rfl tg ?_
 refine Yp rfl ?_
 apply Yn
 apply Yt
 exact Yz rfl rfl rfl (by rw [← nameR s]; rfl)
theorem pc_outref2_PathOf (s : List UInt8) (hs : s.length < 4294967281) :
  PureCall Tryz.prog J 52 [.one (.d (.str s))] (.one (.d (.bool (pathB s)))) := by
 have hl := split_le s [47]
 have hm := fun i => @split_at s [47] i
 refine PureCall.of_body tOk (fn := Tryz.f52) Tryz.func52 (by kernel_rfl) rfl (Nat.le_of_ble_eq_true rfl) (fun E => ?_)
 iterate 9 first|refine Yp rfl ?_|apply Y1|apply Yn|apply Ys
 refine W.cond rfl (fun c1=>?_) fun c1=>?_
 ·skip
  apply Y1
  refine Yp rfl ?_
  apply Yn
  apply Yt
  apply Yu
  exact Yz rfl rfl rfl (by rw [pathB, Bool.and_comm, not_le_of c1]; rfl)
 apply Yk
 apply Yn
 apply Ys
 apply Y1
 refine Yp rfl ?_
 refine S.call rfl rfl rfl rfl rfl (pc_Split _ _ hs (by decide)) ?_
 iterate 2 refine Yp rfl ?_
 apply Yn
 apply Yb
 refine W.loop (fun k st => ∃ i : Nat, i ≤ (Lib.split s [47]).length ∧ ((Lib.split s [47]).take i).all partB = true ∧ k = (Lib.split s [47]).length - i ∧ ∃ t b2 r2 m2, st = ⟨t, [] ++ b2, [] ++ r2, [] ++ m2⟩ ∧ holdsL t [(9, .one (.d (.vec 1 ((Lib.split s [47]).map fun x => [.str x])))), (10, .one (.d (.int .i64 (((Lib.split s [47]).map fun x => ([.str x] : List D)).length : Int)))), (11, .one (.d (.int .i64 (i : Int))))]) ((Lib.split s [47]).length) ⟨0, Nat.zero_le _, by simp, rfl, _, _, _, _, rfl, rfl, rfl, rfl, trivial⟩ ?_
 rintro k0 _ ⟨i, f0_0, f0_1, rfl, t0, bb0, rr0, mm0, rfl, hh0⟩
 refine W.keepR _ _ _ _ _ _ _ hh0 rfl ?_
 apply Y1
 refine Yp rfl ?_
 apply Yn
 apply Ys
 refine W.cond rfl (fun c2=>?_) fun c2=>?_
 ·skip
  have hi := row_lt c2
  apply Yk
  apply Yn
  apply Ys
  apply Yb
  apply Y1
  refine YE rfl (row_ok hi) (row_at [] hi) rfl ?_
  iterate 20 first|refine S.pickOr tOk zOk rfl rfl tg ?_|refine Yg rfl rfl tg ?_|refine Yp rfl ?_|apply Y3
  refine S.callG rfl rfl rfl rfl tg rfl rfl (fun _ => pc_outref2_Of _ partS (by decide) (by decide) (by have := hm i; omega)) ?_
  refine Yg rfl rfl tg ?_
  refine S.pickOr tOk zOk rfl rfl tg ?_
  apply Yn
  refine W.cond rfl (fun c3=>?_) fun c3=>?_
  ·skip
   iterate 9 first|apply Yu|apply Yv|apply Yt|refine Yp rfl ?_|apply Y1|apply Yn
   exact Yz rfl rfl rfl (by rw [pathB, all_false_of (d := []) hi (path_f c3)]; rfl)
  apply Yk
  apply Yw
  apply Y4
  iterate 2 refine Yp rfl ?_
  refine loop_n ((Lib.split s [47]).length - (i + 1)) (by omega) ⟨i + 1, hi, all_take_succ (d := []) hi f0_1 (path_t c3), rfl, _, _, _, _, rfl, rfl, rfl, inc_i64 (by omega), trivial⟩
 have hi := row_ge c2
 apply Yq
 apply Ye
 apply Ye
 apply Yx
 apply Y3
 refine Yp rfl ?_
 apply Yn
 apply Yt
 exact Yz rfl rfl rfl (by rw [pathB, all_of_take hi f0_1, le_of c1]; rfl)
theorem pc_outref2_ValueOf (s : List UInt8) (hs : s.length < 4294967281) :
  PureCall Tryz.prog J 54 [.one (.d (.str s))] (.one (.d (.bool (valueB s)))) := by
 refine PureCall.of_body tOk (fn := Tryz.f54) Tryz.func54 (by kernel_rfl) rfl (Nat.le_of_ble_eq_true rfl) (fun E => ?_)
 iterate 9 first|refine Yp rfl ?_|apply Y1|apply Yn|apply Ys
 apply Yb
 refine W.loop (fun k st => ∃ i : Nat, i ≤ s.length ∧ (s.take i).all (fun c => !(decide (bI c < 32) || decide (bI c > 126))) = true ∧ k = s.length - i ∧ ∃ t b2 r2 m2, st = ⟨t, [] ++ b2, [] ++ r2, [] ++ m2⟩ ∧ holdsL t [(0, .one (.d (.str s))), (5, .one (.d (.int .i64 (s.length : Int)))), (6, .one (.d (.int .i64 (i : Int))))]) (s.length) ⟨0, Nat.zero_le _, by simp, rfl, _, _, _, _, rfl, rfl, rfl, rfl, trivial⟩ ?_
 rintro k0 _ ⟨i, f0_0, f0_1, rfl, t0, bb0, rr0, mm0, rfl, hh0⟩
 refine W.keepR _ _ _ _ _ _ _ hh0 rfl ?_
 apply Y1
 refine Yp rfl ?_
 apply Yn
 apply Ys
 refine W.cond rfl (fun c1=>?_) fun c1=>?_
 ·skip
  have hi : i < s.length := by simpa using c1
  iterate 10 first|refine Yp rfl ?_|apply Yb|apply Yk|apply Y3|apply Y1|apply Ys|apply Yn
  refine YP rfl (str_ok hi) rfl ?_
  iterate 4 first|refine Yg rfl rfl tg ?_|refine Yp rfl ?_
  refine YG rfl rfl tg (fun _ => str_ok hi) rfl ?_
  refine Yg rfl rfl tg ?_
  refine S.pickOr tOk zOk rfl rfl tg ?_
  apply Yn
  refine W.cond rfl (fun c2=>?_) fun c2=>?_
  ·skip
   iterate 9 first|apply Yu|apply Yv|apply Yt|refine Yp rfl ?_|apply Y1|apply Yn
   exact Yz rfl rfl rfl (by rw [← valueR, all_false_of (d := 0) hi (not_t c2)]; rfl)
  apply Yk
  apply Yw
  apply Y4
  iterate 2 refine Yp rfl ?_
  refine loop_n (s.length - (i + 1)) (by omega) ⟨i + 1, by omega, all_take_succ (d := 0) hi f0_1 (not_f c2), rfl, _, _, _, _, rfl, rfl, rfl, inc_i64 (by omega), trivial⟩
 have hi : s.length ≤ i := by simpa using c1
 iterate 11 first|refine Yp rfl ?_|apply Ye|apply Yt|apply Yx|apply Yq|apply Y3|apply Yn
 exact Yz rfl rfl rfl (by rw [← valueR, all_of_take hi f0_1]; rfl)
end
section
open Go
theorem index_none {c : UInt8} : ∀ {s : List UInt8}, c ∉ s → Lib.index s [c] = -1
  | [], _ => rfl
  | b :: l, h => by
    have h1 : c ≠ b := fun e => h (e ▸ List.mem_cons_self ..)
    have h2 := index_none (s := l) (fun e => h (List.mem_cons_of_mem _ e))
    have hp : List.isPrefixOf [c] (b :: l) = false := by simp [List.isPrefixOf, h1]
    unfold Lib.index
    rw [hp, h2]; rfl
theorem index_at {c : UInt8} {y : List UInt8} : ∀ {x : List UInt8}, c ∉ x → Lib.index (x ++ c :: y) [c] = x.length
  | [], _ => by
    have hp : List.isPrefixOf [c] (c :: y) = true := by simp [List.isPrefixOf]
    show Lib.index (c :: y) [c] = 0
    unfold Lib.index
    rw [hp]; rfl
  | b :: l, h => by
    have h1 : c ≠ b := fun e => h (e ▸ List.mem_cons_self ..)
    have h2 := index_at (x := l) (y := y) (fun e => h (List.mem_cons_of_mem _ e))
    have hp : List.isPrefixOf [c] (b :: (l ++ c :: y)) = false := by simp [List.isPrefixOf, h1]
    show Lib.index (b :: (l ++ c :: y)) [c] = _
    unfold Lib.index
    rw [hp, h2]
    simp only [List.length_cons, Bool.false_eq_true, if_false]
    rw [if_neg (by simp)]
    rfl
theorem countFrom_fuel {sub : List UInt8} (hs : sub ≠ []) : ∀ (f g : Nat) (s : List UInt8), s.length < f → s.length < g → Lib.countFrom sub f s = Lib.countFrom sub g s
  | 0, _, _, h, _ => absurd h (Nat.not_lt_zero _)
  | _ + 1, 0, _, _, h => absurd h (Nat.not_lt_zero _)
  | f + 1, g + 1, s, h1, h2 => by
    unfold Lib.countFrom
    split
    · rfl
    · rename_i hi
      have h0 : 0 ≤ Lib.index s sub := by
        rcases Lib.index_spec s sub with h | ⟨i, h, _⟩
        · simp [h.1] at hi
        · omega
      have hr := Lib.index_room s sub h0
      have hl : 1 ≤ sub.length := by cases sub with | nil => exact absurd rfl hs | cons a l => simp
      rw [countFrom_fuel hs f g _ (by simp; omega) (by simp; omega)]
theorem split_none {c : UInt8} {s : List UInt8} (h : c ∉ s) : Lib.split s [c] = [s] := by
 have : Lib.count s [c] = 0 := by simp [Lib.count, Lib.countFrom, index_none h]
 unfold Lib.split
 rw [this]; rfl
theorem split_cons {c : UInt8} {x y : List UInt8} (h : c ∉ x) : Lib.split (x ++ c :: y) [c] = x :: Lib.split y [c] := by
 have hi := index_at (y := y) h
 have hm : ¬ (Lib.index (x ++ c :: y) [c] == -1) = true := by rw [hi]; simp
 have e1 : ((x.length : Int)).toNat = x.length := by omega
 have hd : (x ++ c :: y).drop (x.length + [c].length) = y := by
  have e2 : x.length + [c].length = (x ++ [c]).length := by simp
  have e3 : x ++ c :: y = (x ++ [c]) ++ y := by simp
  rw [e2, e3, List.drop_left]
 have hc : Lib.count (x ++ c :: y) [c] = Lib.count y [c] + 1 := by
  unfold Lib.count
  rw [Lib.countFrom, if_neg hm, hi, e1, hd, Nat.add_comm 1]
  rw [countFrom_fuel (by simp) _ (y.length + 1) y (by simp; omega) (by omega)]
 unfold Lib.split
 rw [hc, Lib.splitK, if_neg hm, hi, e1, hd]
 simp
def dstep (a : Nat) (c : UInt8) : Nat := a * 10 + (c.toNat - 48)
theorem dstep_eq (a : Nat) (c : UInt8) : dstep a c = a * 10 + (c.toNat - 48) := by unfold dstep; rfl
def dec (acc : Nat) (l : List UInt8) : Nat := l.foldl dstep acc
theorem dec_nil (acc : Nat) : dec acc [] = acc := by unfold dec; rw [List.foldl_nil]
theorem dec_cons (acc : Nat) (c : UInt8) (l : List UInt8) : dec acc (c :: l) = dec (acc * 10 + (c.toNat - 48)) l := by unfold dec; rw [List.foldl_cons, dstep_eq]
end
section
open Go
section
variable {v : Ver}
theorem chk_a (h : (!inB v.a 0 999999) = true) : v.check = 3 := by
 rw [inB_eq, Bool.not_not] at h
 simp [Ver.check, checkB, outsideN, h]
theorem in_out {x : Int} (h : (!inB x 0 999999) = false) : outsideN x = false := by
 rw [inB_eq, Bool.not_not] at h; exact h
theorem chk_b (ha : (!inB v.a 0 999999) = false) (h : (!inB v.b 0 999999) = true) : v.check = 3 := by
 rw [inB_eq, Bool.not_not] at h
 simp [Ver.check, checkB, outsideN, h]
theorem chk_c (ha : (!inB v.a 0 999999) = false) (hb : (!inB v.b 0 999999) = false) (h : (!inB v.c 0 999999) = true) : v.check = 3 := by
 rw [inB_eq, Bool.not_not] at h
 simp [Ver.check, checkB, outsideN, h]
theorem chk_0 (ha : (!inB v.a 0 999999) = false) (hb : (!inB v.b 0 999999) = false) (hc : (!inB v.c 0 999999) = false) (he : (v.e == []) = true) : v.check = 0 := by
 simp [Ver.check, checkB, in_out ha, in_out hb, in_out hc, he]
theorem chk_e (ha : (!inB v.a 0 999999) = false) (hb : (!inB v.b 0 999999) = false) (hc : (!inB v.c 0 999999) = false) (he : (v.e == []) = false) : v.check = if earlyB v.e then 0 else 2 := by
 simp only [Ver.check, checkB, in_out ha, in_out hb, in_out hc, he]
 cases earlyB v.e <;> rfl
theorem chk_len (ha : (!inB v.a 0 999999) = false) (hb : (!inB v.b 0 999999) = false) (hc : (!inB v.c 0 999999) = false) (he : (v.e == []) = false) (h : decide ((v.e.length : Int) > 40) = true) : v.check = 2 := by
 rw [chk_e ha hb hc he, earlyB, Bool.and_comm, not_le_of h]; rfl
theorem chk_word {j : Nat} (ha : (!inB v.a 0 999999) = false) (hb : (!inB v.b 0 999999) = false) (hc : (!inB v.c 0 999999) = false) (he : (v.e == []) = false) (hj : j < (Lib.split v.e [46]).length) (h : wordB ((Lib.split v.e [46]).getD j []) = false) : v.check = 2 := by
 rw [chk_e ha hb hc he, earlyB, all_false_of hj h]; rfl
theorem chk_ok {j : Nat} (ha : (!inB v.a 0 999999) = false) (hb : (!inB v.b 0 999999) = false) (hc : (!inB v.c 0 999999) = false) (he : (v.e == []) = false) (hl : decide ((v.e.length : Int) ≤ 40) = true) (hj : (Lib.split v.e [46]).length ≤ j) (h : ((Lib.split v.e [46]).take j).all wordB = true) : v.check = 0 := by
 rw [chk_e ha hb hc he, earlyB, all_of_take hj h, hl]; rfl
end
theorem verr_at {vs : List Ver} {i : Nat} (hi : i < vs.length) : (vs.map Ver.check).getD i 0 = (vs.getD i Ver.z).check := by
 simp [List.getD, List.getElem?_eq_getElem hi]
theorem verr_go {vs : List Ver} {i : Nat} (hi : i < vs.length) (h : (vs.getD i Ver.z).check = 0) : ((vs.map Ver.check).getD i 0 == 0) = true := by
 rw [verr_at hi, h]; rfl
theorem verr_hit {vs : List Ver} {i : Nat} {n : Int} (hi : i < vs.length) (ht : ((vs.map Ver.check).take i).all (· == 0) = true) (h : (vs.getD i Ver.z).check = n) (hn : n ≠ 0) : firstNe (vs.map Ver.check) = n := by
 rw [firstNe_hit (by simpa using hi) ht (by rw [verr_at hi, h]; exact hn), verr_at hi, h]
theorem ver_at {vs : List Ver} {i n : Nat} (hv : ∀ v ∈ vs, v.e.length < n) (hi : i < vs.length) : (vs.getD i Ver.z).e.length < n := by
 rw [List.getD_eq_getElem?_getD, List.getElem?_eq_getElem hi]
 exact hv _ (List.getElem_mem hi)
theorem cw_pq {p q : List UInt8} (h : (ofB p digitS && ofB q digitS) = true) : cwR p q = Lib.compareInt (atoiV p) (atoiV q) := if_pos h
theorem cw_p {p q : List UInt8} (h : (ofB p digitS && ofB q digitS) = false) (hp : ofB p digitS = true) : cwR p q = -1 := by rw [cwR, if_neg (Bool.eq_false_iff.1 h), if_pos hp]
theorem cw_q {p q : List UInt8} (h : (ofB p digitS && ofB q digitS) = false) (hp : ofB p digitS = false) (hq : ofB q digitS = true) : cwR p q = 1 := by rw [cwR, if_neg (Bool.eq_false_iff.1 h), if_neg (Bool.eq_false_iff.1 hp), if_pos hq]
theorem cw_n {p q : List UInt8} (h : (ofB p digitS && ofB q digitS) = false) (hp : ofB p digitS = false) (hq : ofB q digitS = false) : cwR p q = Lib.compareBytes p q := by rw [cwR, if_neg (Bool.eq_false_iff.1 h), if_neg (Bool.eq_false_iff.1 hp), if_neg (Bool.eq_false_iff.1 hq)]
theorem cw_go {xs ys : List (List UInt8)} {i : Nat} {x : Int} (hi : i < xs.length ∧ i < ys.length) (h : cwR (xs.getD i []) (ys.getD i []) = x) (hx : (x != 0) = false) : ((List.zipWith cwR xs ys).getD i 0 == 0) = true := by
 rw [zip_at [] [] hi.1 hi.2, h]; simpa using hx
theorem cw_lt {xs ys : List (List UInt8)} {i : Nat} (hi : i < xs.length ∧ i < ys.length) : i < (List.zipWith cwR xs ys).length := by simp; omega
theorem cw_hit {xs ys : List (List UInt8)} {i : Nat} {x : Int} (hi : i < xs.length ∧ i < ys.length) (ht : ((List.zipWith cwR xs ys).take i).all (· == 0) = true) (h : cwR (xs.getD i []) (ys.getD i []) = x) (hx : (x != 0) = true) : rowsR xs ys = x := by
 have hz := zip_at (f := cwR) [] [] hi.1 hi.2
 have hh := firstNe_hit (cw_lt hi) ht (by rw [hz, h]; simpa using hx)
 rw [hz, h] at hh
 rw [rowsR, hh, if_pos hx]
theorem cw_end {xs ys : List (List UInt8)} {i : Nat} (hi : xs.length ≤ i ∨ ys.length ≤ i) (ht : ((List.zipWith cwR xs ys).take i).all (· == 0) = true) : rowsR xs ys = Lib.compareInt xs.length ys.length := by
 rw [rowsR, firstNe_none (by simp; omega) ht]; rfl
section
variable {v w : Ver}
theorem cmp_1 (h : (firstNe [Lib.compareInt v.a w.a, Lib.compareInt v.b w.b, Lib.compareInt v.c w.c] != 0) = true) : compareR v w = firstNe [Lib.compareInt v.a w.a, Lib.compareInt v.b w.b, Lib.compareInt v.c w.c] := if_pos h
theorem cmp_2 (h : (firstNe [Lib.compareInt v.a w.a, Lib.compareInt v.b w.b, Lib.compareInt v.c w.c] != 0) = false) (he : (v.e == [] || w.e == []) = true) : compareR v w = Lib.compareInt (min1 w.e.length) (min1 v.e.length) := by
 rw [compareR, if_neg (Bool.eq_false_iff.1 h), if_pos he]
theorem cmp_3 (h : (firstNe [Lib.compareInt v.a w.a, Lib.compareInt v.b w.b, Lib.compareInt v.c w.c] != 0) = false) (he : (v.e == [] || w.e == []) = false) : compareR v w = rowsR (Lib.split v.e [46]) (Lib.split w.e [46]) := by
 rw [compareR, if_neg (Bool.eq_false_iff.1 h), if_neg (Bool.eq_false_iff.1 he)]
end
theorem dec_ge : ∀ (l : List UInt8) (acc : Nat), acc * 10 ^ l.length ≤ dec acc l
  | [], acc => by rw [dec_nil]; exact Nat.le_of_eq (Nat.mul_one acc)
  | c :: l, acc => by
    have h := dec_ge l (acc * 10 + (c.toNat - 48))
    simp only [dec_cons, List.length_cons, Nat.pow_succ]
    refine Nat.le_trans ?_ h
    rw [Nat.mul_comm (10 ^ l.length) 10, ← Nat.mul_assoc]
    exact Nat.mul_le_mul_right _ (by omega)
theorem dig_le {c : UInt8} (h : isDigit (bI c) = true) : 48 ≤ c.toNat ∧ c.toNat ≤ 57 := by
 unfold isDigit bI at h; simp at h; omega
theorem dec_lt : ∀ (l : List UInt8) (acc : Nat), (l.all fun c => isDigit (bI c)) = true → dec acc l < (acc + 1) * 10 ^ l.length
  | [], acc, _ => by rw [dec_nil]; exact Nat.lt_of_lt_of_le (Nat.lt_succ_self acc) (Nat.le_of_eq (Nat.mul_one _).symm)
  | c :: l, acc, h => by
    simp only [List.all_cons, Bool.and_eq_true] at h
    have h1 := dig_le h.1
    have h2 := dec_lt l (acc * 10 + (c.toNat - 48)) h.2
    simp only [dec_cons, List.length_cons, Nat.pow_succ]
    refine Nat.lt_of_lt_of_le h2 ?_
    rw [Nat.mul_comm (10 ^ l.length) 10, ← Nat.mul_assoc]
    exact Nat.mul_le_mul_right _ (by omega)
theorem dec_mono {l m : List UInt8} {a b : Nat} (hn : l.length = m.length) (hl : (l.all fun c => isDigit (bI c)) = true) (h : a < b) : dec a l < dec b m := by
 refine Nat.lt_of_lt_of_le (dec_lt l a hl) (Nat.le_trans ?_ (dec_ge m b))
 rw [hn]; exact Nat.mul_le_mul_right _ h
theorem cmp_refl (x : Int) : Lib.compareInt x x = 0 := by unfold Lib.compareInt; rw [if_neg (by omega), if_neg (by omega)]
theorem cmp_lt {x y : Int} (h : x < y) : Lib.compareInt x y = -1 := by unfold Lib.compareInt; rw [if_pos h]
theorem cmp_gt {x y : Int} (h : y < x) : Lib.compareInt x y = 1 := by unfold Lib.compareInt; rw [if_neg (by omega), if_pos h]
theorem dec_cmp : ∀ (l m : List UInt8) (acc : Nat), l.length = m.length → (l.all fun c => isDigit (bI c)) = true → (m.all fun c => isDigit (bI c)) = true → Lib.compareBytes l m = Lib.compareInt (dec acc l) (dec acc m)
  | [], [], acc, _, _, _ => by rw [dec_nil, cmp_refl]; rfl
  | [], _ :: _, _, h, _, _ => by simp at h
  | _ :: _, [], _, h, _, _ => by simp at h
  | a :: l, b :: m, acc, h, hl, hm => by
    simp only [List.length_cons, Nat.add_right_cancel_iff] at h
    simp only [List.all_cons, Bool.and_eq_true] at hl hm
    have h1 := dig_le hl.1
    have h2 := dig_le hm.1
    unfold Lib.compareBytes
    split
    · rename_i hab
      have hab' : a.toNat < b.toNat := hab
      have := dec_mono (l := l) (m := m) (a := acc * 10 + (a.toNat - 48)) (b := acc * 10 + (b.toNat - 48)) h hl.2 (by omega)
      rw [cmp_lt (by rw [dec_cons, dec_cons]; omega)]
    · split
      · rename_i hab
        have hab' : b.toNat < a.toNat := hab
        have := dec_mono (l := m) (m := l) (a := acc * 10 + (b.toNat - 48)) (b := acc * 10 + (a.toNat - 48)) h.symm hm.2 (by omega)
        rw [cmp_gt (by rw [dec_cons, dec_cons]; omega)]
      · rename_i h3 h4
        have h3' : ¬ a.toNat < b.toNat := h3
        have h4' : ¬ b.toNat < a.toNat := h4
        have e : a.toNat = b.toNat := by omega
        rw [dec_cons, dec_cons, e]
        exact dec_cmp l m _ h hl.2 hm.2
theorem decFrom_dec : ∀ (l : List UInt8) (acc : Nat), (l.all fun c => isDigit (bI c)) = true → Lib.decFrom acc l = some (dec acc l)
  | [], acc, _ => by rw [dec_nil]; rfl
  | c :: l, acc, h => by
    simp only [List.all_cons, Bool.and_eq_true] at h
    have h1 := dig_le h.1
    unfold Lib.decFrom
    rw [show Lib.digitVal c = some (c.toNat - 48) by unfold Lib.digitVal; rw [if_pos h1]]
    rw [dec_cons]
    exact decFrom_dec l _ h.2
theorem atoi_dec {l : List UInt8} (hn : l ≠ []) (hl : l.length ≤ 18) (h : (l.all fun c => isDigit (bI c)) = true) : atoiV l = dec 0 l ∧ atoiOk l = true := by
 have e : Lib.atoiAll l = .ok ((dec 0 l : Nat) : Int) := by
  rw [Lib.atoiAll_short l hl]
  have : Lib.atoi l = some ((dec 0 l : Nat) : Int) := by
   match l, hn with
   | c :: r, _ =>
    have hd := decFrom_dec (c :: r) 0 h
    simp only [List.all_cons, Bool.and_eq_true] at h
    have h1 := dig_le h.1
    have h45 : (c == 45) = false := by rw [beq_eq_false_iff_ne]; intro e; subst e; simp at h1
    have h43 : (c == 43) = false := by rw [beq_eq_false_iff_ne]; intro e; subst e; simp at h1
    simp only [Lib.atoi, h45, h43, Lib.decNat, hd]
    rfl
  rw [this]; rfl
 unfold atoiV atoiOk
 rw [e]; exact ⟨rfl, rfl⟩
theorem numeral_of {w : List UInt8} (h : numeralB w = true) : (w.all fun c => isDigit (bI c)) = true ∧ w ≠ [] ∧ w.length ≤ 10 := by
 unfold numeralB eachB at h
 simp only [Bool.and_eq_true, Bool.not_eq_true', beq_eq_false_iff_ne, decide_eq_true_eq] at h
 exact ⟨h.1, h.2.1, by omega⟩
theorem word_of {w : List UInt8} (h : wordB w = true) : w ≠ [] ∧ w.length ≤ 10 ∧ numeralB w = ofB w digitS ∧ (numeralB w = true → bI (w.getD 0 0) = 48 → w = [48]) := by
 unfold wordB eachB at h
 simp only [Bool.and_eq_true, Bool.not_eq_true', beq_eq_false_iff_ne, decide_eq_true_eq] at h
 refine ⟨h.1.2.1, by omega, ?_, fun h1 h2 => ?_⟩
 ·skip
  rw [ofB_digit, numeralB, eachB]
  have h10 : decide ((w.length : Int) ≤ 10) = true := decide_eq_true h.1.2.2
  rw [h10, show (w == []) = false from beq_eq_false_iff_ne.2 h.1.2.1]
  simp
 ·skip
  have := h.2
  rw [h1, h2] at this
  simpa using this
theorem dec_long {p q : List UInt8} (hp : numeralB p = true) (hq : numeralB q = true) (h0 : bI (q.getD 0 0) = 48 → q = [48]) (h : p.length < q.length) : dec 0 p < dec 0 q := by
 obtain ⟨p1, p2, p3⟩ := numeral_of hp
 obtain ⟨q1, q2, q3⟩ := numeral_of hq
 have hlt := dec_lt p 0 p1
 match q, q2 with
 | c :: r, _ =>
  have hr : p.length ≤ r.length := by simp at h; omega
  have hc : c.toNat - 48 ≥ 1 := by
   simp only [List.all_cons, Bool.and_eq_true] at q1
   have h1 := dig_le q1.1
   apply Decidable.byContradiction; intro hh
   have e := h0 (by simp [bI]; omega)
   have : p.length = 0 := by
    have := congrArg List.length e; simp at this; simp [this] at hr
    exact hr ▸ rfl
   exact p2 (List.length_eq_zero_iff.1 this)
  have hge := dec_ge r (c.toNat - 48)
  have h2 : 10 ^ p.length ≤ 10 ^ r.length := Nat.pow_le_pow_right (by decide) hr
  have h3 : 1 * 10 ^ r.length ≤ (c.toNat - 48) * 10 ^ r.length := Nat.mul_le_mul_right _ hc
  simp only [dec_cons, Nat.zero_mul, Nat.zero_add] at hge ⊢
  omega
theorem cw_eq {p q : List UInt8} (hp : wordB p = true) (hq : wordB q = true) : cwB p q = cwR p q := by
  obtain ⟨p1, p2, p3, p4⟩ := word_of hp
  obtain ⟨q1, q2, q3, q4⟩ := word_of hq
  unfold cwB cwR
  rw [← p3, ← q3]
  cases np : numeralB p <;> cases nq : numeralB q <;> simp only [Bool.and_true, Bool.and_false, Bool.false_and, Bool.true_and, if_true, if_false, Bool.false_eq_true]
  · obtain ⟨dp, _, _⟩ := numeral_of np
    obtain ⟨dq, _, _⟩ := numeral_of nq
    rw [(atoi_dec p1 (by omega) dp).1, (atoi_dec q1 (by omega) dq).1]
    by_cases hl : p.length = q.length
    · rw [if_neg (by simp [hl])]
      exact dec_cmp p q 0 hl dp dq
    · rw [if_pos (by simp; omega)]
      by_cases h : p.length < q.length
      · rw [cmp_lt (by omega), cmp_lt (by have := dec_long np nq (q4 nq) h; omega)]
      · rw [cmp_gt (by omega), cmp_gt (by have := dec_long nq np (p4 np) (by omega); omega)]
theorem zip_eq : ∀ {xs ys : List (List UInt8)}, xs.all wordB = true → ys.all wordB = true → List.zipWith cwB xs ys = List.zipWith cwR xs ys
  | [], _, _, _ => by simp
  | _ :: _, [], _, _ => by simp
  | x :: xs, y :: ys, h1, h2 => by
    simp only [List.all_cons, Bool.and_eq_true] at h1 h2
    simp only [List.zipWith_cons_cons, cw_eq h1.1 h2.1, zip_eq h1.2 h2.2]
theorem bytes_refl : ∀ (l : List UInt8), Lib.compareBytes l l = 0
  | [] => rfl
  | a :: l => by
    unfold Lib.compareBytes
    rw [if_neg (by show ¬ a.toNat < a.toNat; omega), if_neg (by show ¬ a.toNat < a.toNat; omega)]
    exact bytes_refl l
theorem cwB_refl (p : List UInt8) : cwB p p = 0 := by
 unfold cwB
 cases numeralB p <;> simp [bytes_refl]
theorem rows_refl (xs : List (List UInt8)) : rowsB xs xs = 0 := by
 have : firstNe (List.zipWith cwB xs xs) = 0 := by
  unfold firstNe
  rw [List.find?_eq_none.2]
  ·skip
   rfl
  ·skip
   intro x hx
   have : ∀ (l : List (List UInt8)), ∀ x ∈ List.zipWith cwB l l, x = 0 := by
    intro l
    induction l with
    | nil => simp
    | cons a l ih => intro x hx; simp only [List.zipWith_cons_cons, List.mem_cons, cwB_refl] at hx; exact hx.elim id (ih x)
   simp [this xs x hx]
 rw [rowsB, this, cmp_refl]; rfl
theorem check_early {v : Ver} (h : v.check = 0) : v.e = [] ∨ (Lib.split v.e [46]).all wordB = true := by
 unfold Ver.check checkB at h
 split at h
 ·skip
  cases h
 ·skip
  split at h
  ·skip
   cases h
  ·skip
   rename_i h2
   cases he : (v.e == []) with
   | true => exact .inl (by simpa using he)
   | false =>
    refine .inr ?_
    rw [he] at h2
    simp only [Bool.not_false, Bool.true_and, Bool.not_eq_true, Bool.not_eq_false'] at h2
    unfold earlyB at h2
    exact (Bool.and_eq_true_iff.1 h2).1
theorem first3 (a b c d : Int) : firstNe [a, b, c, d] = if firstNe [a, b, c] != 0 then firstNe [a, b, c] else d := by
 unfold firstNe
 by_cases ha : a = 0 <;> by_cases hb : b = 0 <;> by_cases hc : c = 0 <;> by_cases hd : d = 0 <;> simp [ha, hb, hc, hd, bne_iff_ne]
theorem min1_nil : min1 (([] : List UInt8).length : Int) = 0 := rfl
theorem min1_pos {l : List UInt8} (h : l ≠ []) : min1 (l.length : Int) = 1 := by
 unfold min1
 cases l with
 | nil => exact absurd rfl h
 | cons a l => rw [if_neg (by simp only [List.length_cons]; omega)]
theorem compare_eq {v w : Ver} (hv : v.check = 0) (hw : w.check = 0) : compareR v w = orderB v w := by
  unfold compareR orderB
  rw [first3]
  split
  · rfl
  · unfold ceB
    by_cases e1 : v.e = []
    · by_cases e2 : w.e = []
      · simp [e1, e2, min1, Lib.compareInt]
      · have hs : (([] : List UInt8) == w.e) = false := by rw [beq_eq_false_iff_ne]; exact fun e => e2 e.symm
        rw [e1, min1_nil, min1_pos e2, hs]; rfl
    · by_cases e2 : w.e = []
      · have hs : (v.e == ([] : List UInt8)) = false := by rw [beq_eq_false_iff_ne]; exact e1
        rw [e2, min1_nil, min1_pos e1, hs]; rfl
      · have h1 : (v.e == ([] : List UInt8)) = false := by rw [beq_eq_false_iff_ne]; exact e1
        have h2 : (w.e == ([] : List UInt8)) = false := by rw [beq_eq_false_iff_ne]; exact e2
        rw [h1, h2]
        have hr : rowsR (Lib.split v.e [46]) (Lib.split w.e [46]) = rowsB (Lib.split v.e [46]) (Lib.split w.e [46]) := by
          unfold rowsR rowsB
          rw [zip_eq ((check_early hv).resolve_left e1) ((check_early hw).resolve_left e2)]
        simp only [Bool.or_self, Bool.false_eq_true, if_false]
        rw [hr]
        by_cases e : v.e = w.e
        · rw [e, rows_refl]; simp
        · rw [if_neg (by simpa using e)]
end
section
open Go
open Go.RowKit
attribute [local irreducible] thenK blockK W
theorem pc_outref2_VersionError (vs : List Ver) (hl : vs.length ≤ 2000000) (hv : ∀ v ∈ vs, v.e.length < 4294967281) :
  PureCall Tryz.prog J 80 [.one (.d (.vec 4 (vs.map verD)))] (.one (.d (.int .i64 (firstNe (vs.map Ver.check))))) := by
 refine PureCall.of_body tOk (fn := Tryz.f80) Tryz.func80 (by kernel_rfl) rfl (Nat.le_of_ble_eq_true rfl) (fun E => ?_)
 iterate 9 first|refine Yp rfl ?_|apply Y1|apply Yn|apply Ys
 apply Yb
 refine W.loop (fun k st => ∃ i : Nat, i ≤ vs.length ∧ ((vs.map Ver.check).take i).all (· == 0) = true ∧ k = vs.length - i ∧ ∃ t b2 r2 m2, st = ⟨t, [] ++ b2, [] ++ r2, [] ++ m2⟩ ∧ holdsL t [(9, .one (.d (.vec 4 (vs.map fun x => verD x)))), (10, .one (.d (.int .i64 ((vs.map fun x => (verD x : List D)).length : Int)))), (11, .one (.d (.int .i64 (i : Int))))]) (vs.length) ⟨0, Nat.zero_le _, by simp, rfl, _, _, _, _, rfl, rfl, rfl, rfl, trivial⟩ ?_
 rintro k0 _ ⟨i, f0_0, f0_1, rfl, t0, bb0, rr0, mm0, rfl, hh0⟩
 refine W.keepR _ _ _ _ _ _ _ hh0 rfl ?_
 apply Y1
 refine Yp rfl ?_
 apply Yn
 apply Ys
 refine W.cond rfl (fun c1=>?_) fun c1=>?_
 ·skip
  have hi := row_lt c1
  have hei : (vs.getD i Ver.z).e.length < 4294967281 := ver_at hv hi
  have hsl := split_le (vs.getD i Ver.z).e [46]
  have hsm := fun j => @split_at (vs.getD i Ver.z).e [46] j
  apply Yk
  apply Yn
  apply Ys
  apply Yb
  apply Y1
  refine YE rfl (row_ok hi) (row_at Ver.z hi) rfl ?_
  iterate 12 first|refine Yp rfl ?_|refine S.store tOk rfl rfl rfl rfl rfl rfl rfl rfl ?_|refine S.alloc tOk rfl rfl rfl rfl ?_|apply Y1|apply Ys|apply Yn
  refine S.slice tOk rfl rfl ?_
  iterate 2 refine Yp rfl ?_
  apply Yn
  apply Yb
  refine W.rounds 4 ?_
  refine WR.succ ?_
  apply Y1
  refine Yp rfl ?_
  apply Yn
  apply Ys
  refine W.condT rfl rfl ?_
  apply Yk
  apply Yn
  apply Ys
  apply Yb
  apply Y1
  refine YP rfl (by first | rfl | exact idx_ok (by omega) (by omega)) rfl ?_
  iterate 4 first|refine Yp rfl ?_|apply Y3
  refine S.call rfl rfl rfl rfl rfl (pc_outref2_In _ _ _) ?_
  refine Yp rfl ?_
  apply Yn
  refine W.cond rfl (fun c3=>?_) fun c3=>?_
  ·skip
   iterate 14 first|apply Yu|apply Yv|apply Yt|refine Yp rfl ?_|apply Y1|apply Yn
   exact ⟨_, rfl, rfl, LeV.of_eq (congrArg (fun x => V.one (C.d (D.int .i64 x))) (verr_hit hi f0_1 (chk_a c3) (by decide)).symm)⟩
  iterate 6 first|refine Yp rfl ?_|apply Yw|apply Yk|apply Y4|apply Yn
  refine WR.succ ?_
  apply Y1
  refine Yp rfl ?_
  apply Yn
  apply Ys
  refine W.condT rfl rfl ?_
  apply Yk
  apply Yn
  apply Ys
  apply Yb
  apply Y1
  refine YP rfl (by first | rfl | exact idx_ok (by omega) (by omega)) rfl ?_
  iterate 4 first|refine Yp rfl ?_|apply Y3
  refine S.call rfl rfl rfl rfl rfl (pc_outref2_In _ _ _) ?_
  refine Yp rfl ?_
  apply Yn
  refine W.cond rfl (fun c5=>?_) fun c5=>?_
  ·skip
   iterate 14 first|apply Yu|apply Yv|apply Yt|refine Yp rfl ?_|apply Y1|apply Yn
   exact ⟨_, rfl, rfl, LeV.of_eq (congrArg (fun x => V.one (C.d (D.int .i64 x))) (verr_hit hi f0_1 (chk_b c3 c5) (by decide)).symm)⟩
  iterate 6 first|refine Yp rfl ?_|apply Yw|apply Yk|apply Y4|apply Yn
  refine WR.succ ?_
  apply Y1
  refine Yp rfl ?_
  apply Yn
  apply Ys
  refine W.condT rfl rfl ?_
  apply Yk
  apply Yn
  apply Ys
  apply Yb
  apply Y1
  refine YP rfl (by first | rfl | exact idx_ok (by omega) (by omega)) rfl ?_
  iterate 4 first|refine Yp rfl ?_|apply Y3
  refine S.call rfl rfl rfl rfl rfl (pc_outref2_In _ _ _) ?_
  refine Yp rfl ?_
  apply Yn
  refine W.cond rfl (fun c7=>?_) fun c7=>?_
  ·skip
   iterate 14 first|apply Yu|apply Yv|apply Yt|refine Yp rfl ?_|apply Y1|apply Yn
   exact ⟨_, rfl, rfl, LeV.of_eq (congrArg (fun x => V.one (C.d (D.int .i64 x))) (verr_hit hi f0_1 (chk_c c3 c5 c7) (by decide)).symm)⟩
  iterate 6 first|refine Yp rfl ?_|apply Yw|apply Yk|apply Y4|apply Yn
  refine WR.succ ?_
  apply Y1
  refine Yp rfl ?_
  apply Yn
  apply Ys
  refine W.condF rfl rfl ?_
  iterate 11 first|refine Yp rfl ?_|apply Ye|apply Yx|apply Yq|apply Y1|apply Yn|apply Ys
  refine W.cond rfl (fun c9=>?_) fun c9=>?_
  ·skip
   iterate 6 first|refine Yp rfl ?_|apply Yx|apply Ye|apply Yq|apply Y4
   refine loop_n (vs.length - (i + 1)) (by omega) ⟨i + 1, hi, all_take_succ (d := 0) (by simpa using hi) f0_1 (verr_go hi (chk_0 c3 c5 c7 c9)), rfl, _, _, _, _, rfl, rfl, rfl, inc_i64 (by omega), trivial⟩
  iterate 9 first|refine Yp rfl ?_|apply Yk|apply Y1|apply Yn|apply Ys
  refine W.cond rfl (fun c10=>?_) fun c10=>?_
  ·skip
   iterate 10 first|apply Yu|apply Yv|apply Yt|refine Yp rfl ?_|apply Y1|apply Yn
   exact ⟨_, rfl, rfl, LeV.of_eq (congrArg (fun x => V.one (C.d (D.int .i64 x))) (verr_hit hi f0_1 (chk_len c3 c5 c7 c9 c10) (by decide)).symm)⟩
  apply Yk
  apply Y3
  iterate 2 refine Yp rfl ?_
  refine S.call rfl rfl rfl rfl rfl (pc_Split _ _ hei (by decide)) ?_
  iterate 2 refine Yp rfl ?_
  apply Yn
  apply Yb
  refine W.loop (fun k st => ∃ j : Nat, j ≤ (Lib.split (vs.getD i Ver.z).e [46]).length ∧ ((Lib.split (vs.getD i Ver.z).e [46]).take j).all wordB = true ∧ k = (Lib.split (vs.getD i Ver.z).e [46]).length - j ∧ ∃ t b2 r2 m2, st = ⟨t, [(verD (vs.getD i Ver.z)).map .d] ++ b2, [] ++ r2, [] ++ m2⟩ ∧ holdsL t [(9, .one (.d (.vec 4 (vs.map verD)))), (10, .one (.d (.int .i64 ((vs.map verD).length : Int)))), (11, .one (.d (.int .i64 (i : Int)))), (40, .one (.d (.vec 1 ((Lib.split (vs.getD i Ver.z).e [46]).map fun x => [.str x])))), (41, .one (.d (.int .i64 (((Lib.split (vs.getD i Ver.z).e [46]).map fun x => [D.str x]).length : Int)))), (42, .one (.d (.int .i64 (j : Int))))]) ((Lib.split (vs.getD i Ver.z).e [46]).length) ⟨0, Nat.zero_le _, by simp, rfl, _, _, _, _, rfl, rfl, rfl, rfl, rfl, rfl, rfl, trivial⟩ ?_
  rintro k4 _ ⟨j, f4_0, f4_1, rfl, t4, bb4, rr4, mm4, rfl, hh4⟩
  refine W.keepR _ _ _ _ _ _ _ hh4 rfl ?_
  apply Y1
  refine Yp rfl ?_
  apply Yn
  apply Ys
  refine W.cond rfl (fun c11=>?_) fun c11=>?_
  ·skip
   have hj := row_lt c11
   apply Yk
   apply Yn
   apply Ys
   apply Yb
   apply Y1
   refine YE rfl (row_ok hj) (row_at [] hj) rfl ?_
   iterate 12 first|refine S.pickOr tOk zOk rfl rfl tg ?_|refine Yp rfl ?_|refine Yg rfl rfl tg ?_|apply Y3
   refine S.callG rfl rfl rfl rfl tg rfl rfl (fun _ => pc_outref2_Of _ smallDigitS (by decide) (by decide) (by have := hsm j; omega)) ?_
   iterate 4 first|refine S.pickOr tOk zOk rfl rfl tg ?_|refine Yg rfl rfl tg ?_|refine Yp rfl ?_
   refine S.callG rfl rfl rfl rfl tg rfl rfl (fun _ => pc_outref2_Of _ digitS (by decide) (by decide) (by have := hsm j; omega)) ?_
   iterate 7 first|refine S.pickAndG tOk zOk rfl rfl rfl tg tg ?_|refine Yg rfl rfl tg ?_
   refine YG rfl rfl tg (fun h => idx_ok (Int.le_refl _) (gt1 (andr (andr h)))) rfl ?_
   refine Yg rfl rfl tg ?_
   refine S.pickAndG tOk zOk rfl rfl rfl tg tg ?_
   refine S.pickOr tOk zOk rfl rfl tg ?_
   apply Yn
   refine W.cond rfl (fun c12=>?_) fun c12=>?_
   ·skip
    iterate 13 first|apply Yu|apply Yv|apply Yt|refine Yp rfl ?_|apply Y1|apply Yn
    exact ⟨_, rfl, rfl, LeV.of_eq (congrArg (fun x => V.one (C.d (D.int .i64 x))) (verr_hit hi f0_1 (chk_word c3 c5 c7 c9 hj (word_f' c12)) (by decide)).symm)⟩
   iterate 5 first|refine Yp rfl ?_|apply Yw|apply Yk|apply Y4
   refine loop_n ((Lib.split (vs.getD i Ver.z).e [46]).length - (j + 1)) (by omega) ⟨j + 1, hj, all_take_succ (d := []) hj f4_1 (word_t' c12), rfl, _, _, _, _, rfl, rfl, rfl, rfl, rfl, rfl, inc_i64 (by omega), trivial⟩
  have hj := row_ge c11
  iterate 8 first|refine Yp rfl ?_|apply Ye|apply Yw|apply Yx|apply Yq|apply Y4
  refine loop_n (vs.length - (i + 1)) (by omega) ⟨i + 1, hi, all_take_succ (d := 0) (by simpa using hi) f0_1 (verr_go hi (chk_ok c3 c5 c7 c9 (le_of c10) hj f4_1)), rfl, _, _, _, _, rfl, rfl, rfl, inc_i64 (by omega), trivial⟩
 have hi := row_ge c1
 apply Yq
 apply Ye
 apply Ye
 apply Yx
 apply Y3
 refine Yp rfl ?_
 apply Yn
 apply Yt
 exact ⟨_, rfl, rfl, LeV.of_eq (congrArg (fun x => V.one (C.d (D.int .i64 x))) (firstNe_none (by simpa using hi) f0_1).symm)⟩
theorem pc_outref2_CompareOf (v w : Ver) (hv : v.e.length < 4294967281) (hw : w.e.length < 4294967281) :
  PureCall Tryz.prog J 24 [verV v, verV w] (.one (.d (.int .i64 (compareR v w)))) := by
 have hl := split_le v.e [46]
 have hl2 := split_le w.e [46]
 refine PureCall.of_body tOk (fn := Tryz.f24) Tryz.func24 (by kernel_rfl) rfl (Nat.le_of_ble_eq_true rfl) (fun E => ?_)
 iterate 7 first|refine S.box rfl rfl rfl rfl ?_|refine Yp rfl ?_|apply Y1|apply Ys|apply Yn
 refine W.regionD mixed (by kernel_rfl) ?_
 iterate 4 refine Ym rfl rfl ?_
 refine D.call rfl rfl rfl rfl rfl (pc_cmpInt _ _) ?_
 iterate 4 refine Ym rfl rfl ?_
 refine D.call rfl rfl rfl rfl rfl (pc_cmpInt _ _) ?_
 iterate 4 refine Ym rfl rfl ?_
 refine D.call rfl rfl rfl rfl rfl (pc_cmpInt _ _) ?_
 refine D.slice tOk rfl rfl ?_
 refine D.call rfl rfl rfl rfl rfl (pc_cmp_Or_int_ [_, _, _] (by simp)) ?_
 refine Ym rfl rfl ?_
 apply Y3
 iterate 2 refine Yp rfl ?_
 apply Yn
 refine W.cond rfl (fun c1=>?_) fun c1=>?_
 ·skip
  iterate 6 first|refine Yp rfl ?_|apply Yu|apply Yt|apply Y1|apply Yn
  exact ⟨_, rfl, rfl, LeV.of_eq (congrArg (fun x => V.one (C.d (D.int .i64 x))) (cmp_1 c1).symm)⟩
 iterate 13 first|refine S.pickOr tOk zOk rfl rfl tg ?_|refine Yp rfl ?_|refine Yg rfl rfl tg ?_|apply Yk|apply Y1|apply Yn|apply Ys
 refine W.cond rfl (fun c2=>?_) fun c2=>?_
 ·skip
  apply Y1
  iterate 8 refine Yp rfl ?_
  refine S.call rfl rfl rfl rfl rfl (pc_cmpInt _ _) ?_
  refine Yp rfl ?_
  apply Yn
  apply Yt
  apply Yu
  exact ⟨_, rfl, rfl, LeV.of_eq (congrArg (fun x => V.one (C.d (D.int .i64 x))) (cmp_2 c1 c2).symm)⟩
 apply Yk
 apply Yn
 apply Ys
 refine W.regionD mixed (by kernel_rfl) ?_
 iterate 2 refine Ym rfl rfl ?_
 refine D.call rfl rfl rfl rfl rfl (pc_Split _ _ hv (by decide)) ?_
 iterate 2 refine Ym rfl rfl ?_
 refine D.call rfl rfl rfl rfl rfl (pc_Split _ _ hw (by decide)) ?_
 iterate 2 refine Ym rfl rfl ?_
 iterate 11 first|refine Yp rfl ?_|apply Yb|apply Y1|apply Yn|apply Ys
 refine W.loop (fun k st => ∃ i : Nat, i ≤ (Lib.split v.e [46]).length ∧ ((List.zipWith cwR (Lib.split v.e [46]) (Lib.split w.e [46])).take i).all (· == 0) = true ∧ k = (Lib.split v.e [46]).length - i ∧ ∃ t b2 r2 m2, st = ⟨t, [] ++ b2, [] ++ r2, [] ++ m2⟩ ∧ holdsL t [(6, .one (.d (.vec 1 ((Lib.split v.e [46]).map fun x => [.str x])))), (7, .one (.d (.vec 1 ((Lib.split w.e [46]).map fun x => [.str x])))), (63, .one (.d (.int .i64 (if (((Lib.split w.e [46]).map fun x => [D.str x]).length : Int) < (((Lib.split v.e [46]).map fun x => [D.str x]).length : Int) then (((Lib.split w.e [46]).map fun x => [D.str x]).length : Int) else (((Lib.split v.e [46]).map fun x => [D.str x]).length : Int))))), (64, .one (.d (.int .i64 (i : Int))))]) ((Lib.split v.e [46]).length) ⟨0, Nat.zero_le _, by simp, rfl, _, _, _, _, rfl, rfl, rfl, rfl, rfl, trivial⟩ ?_
 rintro k0 _ ⟨i, f0_0, f0_1, rfl, t0, bb0, rr0, mm0, rfl, hh0⟩
 refine W.keepR _ _ _ _ _ _ _ hh0 rfl ?_
 apply Y1
 refine Yp rfl ?_
 apply Yn
 apply Ys
 refine W.cond rfl (fun c3=>?_) fun c3=>?_
 ·skip
  have hi := min_lt (xs := (Lib.split v.e [46])) (ys := (Lib.split w.e [46])) (by simp) (by simp) c3
  iterate 9 first|refine Yp rfl ?_|apply Yb|apply Yk|apply Y1|apply Ys|apply Yn
  refine W.regionD mixed (by kernel_rfl) ?_
  iterate 2 refine Ym rfl rfl ?_
  refine D.pureE tOk zOk rfl rfl (row_ok hi.1) (row_at [] hi.1) rfl ?_
  refine Ym rfl rfl ?_
  refine D.call rfl rfl rfl rfl rfl (pc_outref2_Of _ digitS (by decide) (by decide) (by have := @split_at v.e [46] i; omega)) ?_
  iterate 2 refine Ym rfl rfl ?_
  refine D.pureE tOk zOk rfl rfl (row_ok hi.2) (row_at [] hi.2) rfl ?_
  refine Ym rfl rfl ?_
  refine D.call rfl rfl rfl rfl rfl (pc_outref2_Of _ digitS (by decide) (by decide) (by have := @split_at w.e [46] i; omega)) ?_
  iterate 2 refine Ym rfl rfl ?_
  apply Y3
  iterate 2 refine Yp rfl ?_
  refine YE rfl (row_ok hi.1) (row_at [] hi.1) rfl ?_
  refine Yp rfl ?_
  refine S.call rfl rfl rfl rfl rfl (pc_Atoi _ (by have := @split_at v.e [46] i; omega)) ?_
  iterate 8 first|refine Yp rfl ?_|apply Y3
  refine YE rfl (row_ok hi.2) (row_at [] hi.2) rfl ?_
  refine Yp rfl ?_
  refine S.call rfl rfl rfl rfl rfl (pc_Atoi _ (by have := @split_at w.e [46] i; omega)) ?_
  iterate 5 refine Yp rfl ?_
  apply Yn
  apply Ys
  refine W.regionD mixed (by kernel_rfl) ?_
  iterate 2 refine Ym rfl rfl ?_
  refine D.pureE tOk zOk rfl rfl (row_ok hi.1) (row_at [] hi.1) rfl ?_
  iterate 3 refine Ym rfl rfl ?_
  refine D.pureE tOk zOk rfl rfl (row_ok hi.2) (row_at [] hi.2) rfl ?_
  refine Ym rfl rfl ?_
  refine D.call rfl rfl rfl rfl rfl (pc_Compare _ _) ?_
  refine Ym rfl rfl ?_
  iterate 10 first|refine S.pickAnd tOk zOk rfl rfl tg ?_|refine Yp rfl ?_|refine Yg rfl rfl tg ?_|apply Yb|apply Y1|apply Yn|apply Ys
  refine W.cond rfl (fun c4=>?_) fun c4=>?_
  ·skip
   apply Yr
   iterate 2 refine Yp rfl ?_
   refine S.call rfl rfl rfl rfl rfl (pc_cmpInt _ _) ?_
   iterate 6 first|refine Yp rfl ?_|apply Yw|apply Y3|apply Yn
   refine W.cond rfl (fun c5=>?_) fun c5=>?_
   ·skip
    iterate 10 first|apply Yu|apply Yv|refine Yp rfl ?_|apply Yt|apply Y1|apply Yn
    exact ⟨_, rfl, rfl, LeV.of_eq (congrArg (fun x => V.one (C.d (D.int .i64 x))) ((cmp_3 c1 c2).trans (cw_hit hi f0_1 (cw_pq c4) c5)).symm)⟩
   iterate 5 first|refine Yp rfl ?_|apply Yw|apply Yk|apply Y4
   refine loop_n ((Lib.split v.e [46]).length - (i + 1)) (by omega) ⟨i + 1, by omega, all_take_succ (d := 0) (cw_lt hi) f0_1 (cw_go hi (cw_pq c4) c5), rfl, _, _, _, _, rfl, rfl, rfl, rfl, inc_i64 (by omega), trivial⟩
  apply Y1
  iterate 2 refine Yp rfl ?_
  apply Yn
  refine W.cond rfl (fun c6=>?_) fun c6=>?_
  ·skip
   iterate 7 first|refine Yp rfl ?_|apply Yw|apply Y3|apply Yn|apply Yr
   refine W.cond rfl (fun c7=>?_) fun c7=>?_
   ·skip
    iterate 10 first|apply Yu|apply Yv|refine Yp rfl ?_|apply Yt|apply Y1|apply Yn
    exact ⟨_, rfl, rfl, LeV.of_eq (congrArg (fun x => V.one (C.d (D.int .i64 x))) ((cmp_3 c1 c2).trans (cw_hit hi f0_1 (cw_p c4 c6) c7)).symm)⟩
   iterate 5 first|refine Yp rfl ?_|apply Yw|apply Yk|apply Y4
   refine loop_n ((Lib.split v.e [46]).length - (i + 1)) (by omega) ⟨i + 1, by omega, all_take_succ (d := 0) (cw_lt hi) f0_1 (cw_go hi (cw_p c4 c6) c7), rfl, _, _, _, _, rfl, rfl, rfl, rfl, inc_i64 (by omega), trivial⟩
  apply Y1
  iterate 2 refine Yp rfl ?_
  apply Yn
  refine W.cond rfl (fun c8=>?_) fun c8=>?_
  ·skip
   iterate 7 first|refine Yp rfl ?_|apply Yw|apply Y3|apply Yn|apply Yr
   refine W.cond rfl (fun c9=>?_) fun c9=>?_
   ·skip
    iterate 10 first|apply Yu|apply Yv|refine Yp rfl ?_|apply Yt|apply Y1|apply Yn
    exact ⟨_, rfl, rfl, LeV.of_eq (congrArg (fun x => V.one (C.d (D.int .i64 x))) ((cmp_3 c1 c2).trans (cw_hit hi f0_1 (cw_q c4 c6 c8) c9)).symm)⟩
   iterate 5 first|refine Yp rfl ?_|apply Yw|apply Yk|apply Y4
   refine loop_n ((Lib.split v.e [46]).length - (i + 1)) (by omega) ⟨i + 1, by omega, all_take_succ (d := 0) (cw_lt hi) f0_1 (cw_go hi (cw_q c4 c6 c8) c9), rfl, _, _, _, _, rfl, rfl, rfl, rfl, inc_i64 (by omega), trivial⟩
  iterate 6 first|refine Yp rfl ?_|apply Yw|apply Yk|apply Y3|apply Yn
  refine W.cond rfl (fun c10=>?_) fun c10=>?_
  ·skip
   iterate 10 first|apply Yu|apply Yv|refine Yp rfl ?_|apply Yt|apply Y1|apply Yn
   exact ⟨_, rfl, rfl, LeV.of_eq (congrArg (fun x => V.one (C.d (D.int .i64 x))) ((cmp_3 c1 c2).trans (cw_hit hi f0_1 (cw_n c4 c6 c8) c10)).symm)⟩
  apply Yk
  apply Yw
  apply Y4
  iterate 2 refine Yp rfl ?_
  refine loop_n ((Lib.split v.e [46]).length - (i + 1)) (by omega) ⟨i + 1, by omega, all_take_succ (d := 0) (cw_lt hi) f0_1 (cw_go hi (cw_n c4 c6 c8) c10), rfl, _, _, _, _, rfl, rfl, rfl, rfl, inc_i64 (by omega), trivial⟩
 have hi := min_ge (xs := (Lib.split v.e [46])) (ys := (Lib.split w.e [46])) (by simp) (by simp) c3
 iterate 9 first|refine Yp rfl ?_|apply Ye|apply Yx|apply Yq|apply Y3
 refine S.call rfl rfl rfl rfl rfl (pc_cmpInt _ _) ?_
 refine Yp rfl ?_
 apply Yn
 apply Yt
 exact Yz rfl rfl rfl (by rw [(cmp_3 c1 c2).trans (cw_end hi f0_1)]; simp)
end
section
open Go
def firstB (a b : Int) : Int := if a != 0 then a else b
theorem first2 (a b : Int) : firstNe [a, b] = firstB a b := by
 unfold firstNe firstB
 by_cases ha : a = 0 <;> by_cases hb : b = 0 <;> simp [ha, hb, bne_iff_ne]
theorem first1 (a : Int) : firstNe [a] = a := by
 unfold firstNe
 by_cases ha : a = 0 <;> simp [ha, bne_iff_ne]
end
section
open Go
open Go.RowKit
attribute [local irreducible] thenK blockK W
theorem pc_first2 (a b : Int) : PureCall Tryz.prog J 16 [.one (.d (.vec 1 [[.int .i64 a], [.int .i64 b]]))] (.one (.d (.int .i64 (firstB a b)))) := by
 have h := pc_outref2_First [a, b] (by simp)
 rw [first2] at h
 exact h
end
section
open Go
structure Sp where
 hf : Bool
 ht : Bool
 f : Ver
 t : Ver
 deriving DecidableEq
def Sp.z : Sp := ⟨false, false, Ver.z, Ver.z⟩
def Ver.eqb (v w : Ver) : Bool := v.a == w.a && (v.b == w.b && (v.c == w.c && (v.e == w.e && true)))
theorem Ver.eqb_iff {v w : Ver} : v.eqb w = true ↔ v = w := by
 cases v; cases w
 simp [Ver.eqb]
def spanE (s : Sp) : Int :=
 if (!(s.f.eqb Ver.z) && !s.hf) || (!(s.t.eqb Ver.z) && !s.ht) then 2
 else if s.hf && s.f.check != 0 then s.f.check
 else if s.ht && s.t.check != 0 then s.t.check
 else if (s.hf && s.ht) && decide (orderB s.f s.t ≥ 0) then 7 else 0
section
variable {s : Sp}
theorem spE_form (h1 : ((!(s.f.eqb Ver.z) && !s.hf) || (!(s.t.eqb Ver.z) && !s.ht)) = true) : spanE s = 2 := if_pos h1
theorem spE_f (h1 : ((!(s.f.eqb Ver.z) && !s.hf) || (!(s.t.eqb Ver.z) && !s.ht)) = false) (h2 : (s.hf && s.f.check != 0) = true) : spanE s = s.f.check := by
 rw [spanE, if_neg (Bool.eq_false_iff.1 h1), if_pos h2]
theorem spE_t (h1 : ((!(s.f.eqb Ver.z) && !s.hf) || (!(s.t.eqb Ver.z) && !s.ht)) = false) (h2 : (s.hf && s.f.check != 0) = false) (h3 : (s.ht && s.t.check != 0) = true) : spanE s = s.t.check := by
 rw [spanE, if_neg (Bool.eq_false_iff.1 h1), if_neg (Bool.eq_false_iff.1 h2), if_pos h3]
theorem spE_o (h1 : ((!(s.f.eqb Ver.z) && !s.hf) || (!(s.t.eqb Ver.z) && !s.ht)) = false) (h2 : (s.hf && s.f.check != 0) = false) (h3 : (s.ht && s.t.check != 0) = false) (h4 : ((s.hf && s.ht) && decide (orderB s.f s.t ≥ 0)) = true) : spanE s = 7 := by
 rw [spanE, if_neg (Bool.eq_false_iff.1 h1), if_neg (Bool.eq_false_iff.1 h2), if_neg (Bool.eq_false_iff.1 h3), if_pos h4]
theorem spE_ok (h1 : ((!(s.f.eqb Ver.z) && !s.hf) || (!(s.t.eqb Ver.z) && !s.ht)) = false) (h2 : (s.hf && s.f.check != 0) = false) (h3 : (s.ht && s.t.check != 0) = false) (h4 : ((s.hf && s.ht) && decide (orderB s.f s.t ≥ 0)) = false) : spanE s = 0 := by
 rw [spanE, if_neg (Bool.eq_false_iff.1 h1), if_neg (Bool.eq_false_iff.1 h2), if_neg (Bool.eq_false_iff.1 h3), if_neg (Bool.eq_false_iff.1 h4)]
end
def behindE (p s : Sp) : Int := if (!p.ht || !s.hf) || decide (orderB s.f p.t ≤ 0) then 7 else 0
def spAt (ss : List Sp) (i : Nat) : Int :=
 if spanE (ss.getD i Sp.z) != 0 then spanE (ss.getD i Sp.z) else if (i : Int) == 0 then 0 else behindE (ss.getD (i - 1) Sp.z) (ss.getD i Sp.z)
def rangeE (ss : List Sp) : Int := if decide ((ss.length : Int) > 10) then 4 else firstNe ((List.range ss.length).map (spAt ss))
theorem spAt_get {ss : List Sp} {i : Nat} (hi : i < ss.length) : ((List.range ss.length).map (spAt ss)).getD i 0 = spAt ss i := by
 simp [List.getD, hi]
theorem spAt_go {ss : List Sp} {i : Nat} (hi : i < ss.length) (h : spAt ss i = 0) : (((List.range ss.length).map (spAt ss)).getD i 0 == 0) = true := by
 rw [spAt_get hi, h]; rfl
theorem spAt_hit {ss : List Sp} {i : Nat} {n : Int} (hi : i < ss.length) (ht : (((List.range ss.length).map (spAt ss)).take i).all (· == 0) = true) (h : spAt ss i = n) (hn : n ≠ 0) : firstNe ((List.range ss.length).map (spAt ss)) = n := by
 rw [firstNe_hit (by simpa using hi) ht (by rw [spAt_get hi, h]; exact hn), spAt_get hi, h]
theorem rangeE_large {ss : List Sp} (h : decide ((ss.length : Int) > 10) = true) : rangeE ss = 4 := if_pos h
theorem rangeE_list {ss : List Sp} (h : decide ((ss.length : Int) > 10) = false) : rangeE ss = firstNe ((List.range ss.length).map (spAt ss)) := if_neg (Bool.eq_false_iff.1 h)
theorem spAt_own {ss : List Sp} {i : Nat} (h : (spanE (ss.getD i Sp.z) != 0) = true) : spAt ss i = spanE (ss.getD i Sp.z) := if_pos h
theorem spAt_first {ss : List Sp} {i : Nat} (h : (spanE (ss.getD i Sp.z) != 0) = false) (h0 : ((i : Int) == 0) = true) : spAt ss i = 0 := by
 rw [spAt, if_neg (Bool.eq_false_iff.1 h), if_pos h0]
theorem spAt_bad {ss : List Sp} {i : Nat} (h : (spanE (ss.getD i Sp.z) != 0) = false) (h0 : ((i : Int) == 0) = false)
  (hb : ((!(ss.getD (i - 1) Sp.z).ht || !(ss.getD i Sp.z).hf) || decide (orderB (ss.getD i Sp.z).f (ss.getD (i - 1) Sp.z).t ≤ 0)) = true) : spAt ss i = 7 := by
 rw [spAt, if_neg (Bool.eq_false_iff.1 h), if_neg (Bool.eq_false_iff.1 h0), behindE, if_pos hb]
theorem spAt_ok {ss : List Sp} {i : Nat} (h : (spanE (ss.getD i Sp.z) != 0) = false) (h0 : ((i : Int) == 0) = false)
  (hb : ((!(ss.getD (i - 1) Sp.z).ht || !(ss.getD i Sp.z).hf) || decide (orderB (ss.getD i Sp.z).f (ss.getD (i - 1) Sp.z).t ≤ 0)) = false) : spAt ss i = 0 := by
 rw [spAt, if_neg (Bool.eq_false_iff.1 h), if_neg (Bool.eq_false_iff.1 h0), behindE, if_neg (Bool.eq_false_iff.1 hb)]
def SpLen (s : Sp) : Prop := s.f.e.length < 4294967281 ∧ s.t.e.length < 4294967281
theorem sp_at {ss : List Sp} {i : Nat} (hv : ∀ s ∈ ss, SpLen s) (hi : i < ss.length) : SpLen (ss.getD i Sp.z) := by
 rw [List.getD_eq_getElem?_getD, List.getElem?_eq_getElem hi]
 exact hv _ (List.getElem_mem hi)
structure It where
 sign : Int
 first : List UInt8
 last : List UInt8
def rowB (s : List UInt8) : Bool := !(Lib.contains s [32])
def wrongB (s : List UInt8) : Bool := (parseB s).2 == 8
def SpOk (s : Sp) : Prop := VerOk s.f ∧ VerOk s.t
theorem take_snoc2 {α β γ : Type} {f : β → γ} {p : α → β} {l : List α} {i : Nat} (d : α) (h : i < l.length) : ((l.take i).map p).map f ++ [f (p (l.getD i d))] = ((l.take (i + 1)).map p).map f := by
 rw [List.take_add_one, List.getElem?_eq_getElem h, List.map_append, List.map_append]
 simp [List.getD, List.getElem?_eq_getElem h]
end
section
open Go Go.RowKit
def spD (s : Sp) : List D := [.bool s.hf, .bool s.ht, .int .i64 s.f.a, .int .i64 s.f.b, .int .i64 s.f.c, .str s.f.e, .int .i64 s.t.a, .int .i64 s.t.b, .int .i64 s.t.c, .str s.t.e]
def spV (s : Sp) : V := .agg [.d (.bool s.hf), .d (.bool s.ht), .d (.int .i64 s.f.a), .d (.int .i64 s.f.b), .d (.int .i64 s.f.c), .d (.str s.f.e), .d (.int .i64 s.t.a), .d (.int .i64 s.t.b), .d (.int .i64 s.t.c), .d (.str s.t.e)]
def rgV (ss : List Sp) : V := .agg [.d (.vec 10 (ss.map spD))]
end
section
open Go
open Go.RowKit
attribute [local irreducible] thenK blockK W
theorem pc_ver_spanFault (s : Sp) (h1 : s.f.e.length < 4294967281) (h2 : s.t.e.length < 4294967281) :
  PureCall Tryz.prog J 129 [spV s] (.one (.d (.int .i64 (spanE s)))) := by
 refine PureCall.of_body tOk (fn := Tryz.f129) Tryz.func129 (by kernel_rfl) rfl (Nat.le_of_ble_eq_true rfl) (fun E => ?_)
 apply Y1
 refine S.box rfl rfl rfl rfl ?_
 iterate 26 first|refine S.pickAnd tOk zOk rfl rfl tg ?_|refine Yg rfl rfl tg ?_|refine Yp rfl ?_|refine S.store tOk rfl rfl rfl rfl rfl rfl rfl rfl ?_|refine S.alloc tOk rfl rfl rfl rfl ?_|apply Y1|apply Y3|apply Ys|apply Yn
 refine S.pickAndG tOk zOk rfl rfl rfl tg tg ?_
 refine S.pickOr tOk zOk rfl rfl tg ?_
 apply Yn
 refine W.cond rfl (fun c1=>?_) fun c1=>?_
 ·skip
  apply Y1
  refine Yp rfl ?_
  apply Yn
  apply Yt
  apply Yu
  exact ⟨_, rfl, rfl, LeV.of_eq (congrArg (fun x => V.one (C.d (D.int .i64 x))) (spE_form c1).symm)⟩
 apply Yk
 apply Yn
 apply Ys
 apply Y1
 iterate 2 refine Yp rfl ?_
 refine S.call rfl rfl rfl rfl rfl (pc_ver_Check s.f h1) ?_
 iterate 9 first|refine S.pickAnd tOk zOk rfl rfl tg ?_|refine Yp rfl ?_|refine Yg rfl rfl tg ?_|apply Y3|apply Yn
 refine W.cond rfl (fun c2=>?_) fun c2=>?_
 ·skip
  iterate 6 first|refine Yp rfl ?_|apply Yu|apply Yt|apply Y1|apply Yn
  exact ⟨_, rfl, rfl, LeV.of_eq (congrArg (fun x => V.one (C.d (D.int .i64 x))) (spE_f c1 c2).symm)⟩
 apply Yk
 apply Yn
 apply Ys
 apply Y1
 iterate 2 refine Yp rfl ?_
 refine S.call rfl rfl rfl rfl rfl (pc_ver_Check s.t h2) ?_
 iterate 9 first|refine S.pickAnd tOk zOk rfl rfl tg ?_|refine Yp rfl ?_|refine Yg rfl rfl tg ?_|apply Y3|apply Yn
 refine W.cond rfl (fun c3=>?_) fun c3=>?_
 ·skip
  iterate 6 first|refine Yp rfl ?_|apply Yu|apply Yt|apply Y1|apply Yn
  exact ⟨_, rfl, rfl, LeV.of_eq (congrArg (fun x => V.one (C.d (D.int .i64 x))) (spE_t c1 c2 c3).symm)⟩
 iterate 15 first|refine S.pickAnd tOk zOk rfl rfl tg ?_|refine Yg rfl rfl tg ?_|refine Yp rfl ?_|apply Yk|apply Y1|apply Ys|apply Yn
 refine S.callG rfl rfl rfl rfl tg rfl rfl (fun _ => pc_ver_Order s.f s.t h1 h2) ?_
 refine Yg rfl rfl tg ?_
 refine S.pickAnd tOk zOk rfl rfl tg ?_
 apply Yn
 refine W.cond rfl (fun c4=>?_) fun c4=>?_
 ·skip
  apply Y1
  refine Yp rfl ?_
  apply Yn
  apply Yt
  apply Yu
  exact ⟨_, rfl, rfl, LeV.of_eq (congrArg (fun x => V.one (C.d (D.int .i64 x))) (spE_o c1 c2 c3 c4).symm)⟩
 apply Yk
 apply Y3
 refine Yp rfl ?_
 apply Yn
 apply Yt
 exact ⟨_, rfl, rfl, LeV.of_eq (congrArg (fun x => V.one (C.d (D.int .i64 x))) (spE_ok c1 c2 c3 c4).symm)⟩
theorem pc_ver_CheckRange (ss : List Sp) (hl : ss.length ≤ 1000000000) (hv : ∀ s ∈ ss, SpLen s) :
  PureCall Tryz.prog J 76 [rgV ss] (.one (.d (.int .i64 (rangeE ss)))) := by
 refine PureCall.of_body tOk (fn := Tryz.f76) Tryz.func76 (by kernel_rfl) rfl (Nat.le_of_ble_eq_true rfl) (fun E => ?_)
 iterate 11 first|refine Yp rfl ?_|refine S.box rfl rfl rfl rfl ?_|apply Y1|apply Yn|apply Ys
 refine W.cond rfl (fun c1=>?_) fun c1=>?_
 ·skip
  apply Y1
  refine Yp rfl ?_
  apply Yn
  apply Yt
  apply Yu
  exact ⟨_, rfl, rfl, LeV.of_eq (congrArg (fun x => V.one (C.d (D.int .i64 x))) (rangeE_large (by simpa using c1)).symm)⟩
 have hlen := rangeE_list (ss := ss) (by simpa using c1)
 iterate 9 first|refine Yp rfl ?_|apply Yk|apply Y1|apply Yn|apply Ys
 apply Yb
 refine W.loop (fun k st => ∃ i : Nat, i ≤ ss.length ∧ (((List.range ss.length).map (spAt ss)).take i).all (· == 0) = true ∧ k = ss.length - i ∧ ∃ t b2 r2 m2, st = ⟨t, [[.d (.vec 10 (ss.map spD))]] ++ b2, [] ++ r2, [] ++ m2⟩ ∧ holdsL t [(1, .one (.ptr 0 0)), (12, .one (.d (.vec 10 (ss.map spD)))), (13, .one (.d (.int .i64 ((ss.map spD).length : Int)))), (14, .one (.d (.int .i64 (i : Int))))]) (ss.length) ⟨0, Nat.zero_le _, by simp, rfl, _, _, _, _, rfl, rfl, rfl, rfl, rfl, trivial⟩ ?_
 rintro k0 _ ⟨i, f0_0, f0_1, rfl, t0, bb0, rr0, mm0, rfl, hh0⟩
 refine W.keepR _ _ _ _ _ _ _ hh0 rfl ?_
 apply Y1
 refine Yp rfl ?_
 apply Yn
 apply Ys
 refine W.cond rfl (fun c2=>?_) fun c2=>?_
 ·skip
  have hi := row_lt c2
  have hs := sp_at hv hi
  apply Yk
  apply Yn
  apply Ys
  apply Yb
  apply Y1
  refine Yp rfl ?_
  refine YE rfl (row_ok hi) (row_at Sp.z hi) rfl ?_
  iterate 8 first|refine Yp rfl ?_|refine S.store tOk rfl rfl rfl rfl rfl rfl rfl rfl ?_|refine S.alloc tOk rfl rfl rfl rfl ?_|apply Y1|apply Ys|apply Yn
  refine S.call rfl rfl rfl rfl rfl (pc_ver_spanFault (ss.getD i Sp.z) hs.1 hs.2) ?_
  iterate 5 first|refine Yp rfl ?_|apply Y3|apply Yn
  refine W.cond rfl (fun c3=>?_) fun c3=>?_
  ·skip
   iterate 11 first|apply Yu|apply Yv|refine Yp rfl ?_|apply Yt|apply Y1|apply Yn
   exact ⟨_, rfl, rfl, LeV.of_eq (congrArg (fun x => V.one (C.d (D.int .i64 x))) (hlen.trans (spAt_hit hi f0_1 (spAt_own c3) (by simpa using c3))).symm)⟩
  iterate 7 first|refine Yp rfl ?_|apply Yk|apply Y1|apply Yn|apply Ys
  refine W.cond rfl (fun c4=>?_) fun c4=>?_
  ·skip
   iterate 6 first|refine Yp rfl ?_|apply Yx|apply Ye|apply Yq|apply Y4
   refine loop_n (ss.length - (i + 1)) (by omega) ⟨i + 1, hi, all_take_succ (d := 0) (by simpa using hi) f0_1 (spAt_go hi (spAt_first c3 c4)), rfl, _, _, _, _, rfl, rfl, rfl, rfl, inc_i64 (by omega), trivial⟩
  have hi1 : i - 1 < ss.length := by omega
  have hs1 := sp_at hv hi1
  apply Yk
  apply Y3
  iterate 3 refine Yp rfl ?_
  refine YE rfl rfl (dec_i64 c4 (by omega)) rfl ?_
  refine YE rfl (row_ok hi1) (row_at Sp.z hi1) rfl ?_
  iterate 17 first|refine S.pickOr tOk zOk rfl rfl tg ?_|refine Yg rfl rfl tg ?_|refine Yp rfl ?_|refine S.store tOk rfl rfl rfl rfl rfl rfl rfl rfl ?_|refine S.alloc tOk rfl rfl rfl rfl ?_|apply Y3
  refine S.callG rfl rfl rfl rfl tg rfl rfl (fun _ => pc_ver_Order (ss.getD i Sp.z).f (ss.getD (i - 1) Sp.z).t hs.1 hs1.2) ?_
  refine Yg rfl rfl tg ?_
  refine S.pickOr tOk zOk rfl rfl tg ?_
  apply Yn
  refine W.cond rfl (fun c5=>?_) fun c5=>?_
  ·skip
   iterate 9 first|apply Yu|apply Yv|apply Yt|refine Yp rfl ?_|apply Y1|apply Yn
   exact ⟨_, rfl, rfl, LeV.of_eq (congrArg (fun x => V.one (C.d (D.int .i64 x))) (hlen.trans (spAt_hit hi f0_1 (spAt_bad c3 c4 c5) (by decide))).symm)⟩
  apply Yk
  apply Yw
  apply Y4
  iterate 2 refine Yp rfl ?_
  refine loop_n (ss.length - (i + 1)) (by omega) ⟨i + 1, hi, all_take_succ (d := 0) (by simpa using hi) f0_1 (spAt_go hi (spAt_ok c3 c4 c5)), rfl, _, _, _, _, rfl, rfl, rfl, rfl, inc_i64 (by omega), trivial⟩
 have hi := row_ge c2
 apply Yq
 apply Ye
 apply Ye
 apply Yx
 apply Y3
 refine Yp rfl ?_
 apply Yn
 apply Yt
 exact ⟨_, rfl, rfl, LeV.of_eq (congrArg (fun x => V.one (C.d (D.int .i64 x))) (hlen.trans (firstNe_none (by simpa using hi) f0_1)).symm)⟩
theorem pc_ver_isRow (s : List UInt8) (hs : s.length < 4294967281) :
  PureCall Tryz.prog J 312 [.one (.d (.str s))] (.one (.d (.bool (rowB s)))) := by
 refine PureCall.of_body tOk (fn := Tryz.f312) Tryz.func312 (by kernel_rfl) rfl (Nat.le_of_ble_eq_true rfl) (fun E => ?_)
 iterate 4 first|refine Yp rfl ?_|apply Y3|apply Y1
 refine S.call rfl rfl rfl rfl rfl (pc_Contains _ _ (by omega)) ?_
 iterate 2 refine Yp rfl ?_
 apply Yn
 apply Yt
 exact ⟨_, rfl, rfl, LeV.refl _⟩
theorem pc_ver_wrong (s : List UInt8) (hs : s.length < 4294967281) :
  PureCall Tryz.prog J 291 [.one (.d (.str s))] (.one (.d (.bool (wrongB s)))) := by
 refine PureCall.of_body tOk (fn := Tryz.f291) Tryz.func291 (by kernel_rfl) rfl (Nat.le_of_ble_eq_true rfl) (fun E => ?_)
 iterate 4 first|refine Yp rfl ?_|apply Y3|apply Y1
 refine S.call rfl rfl rfl rfl rfl (pc_ver_Parse _ (by omega)) ?_
 iterate 12 first|refine Yp rfl ?_|apply Yt|refine S.store tOk rfl rfl rfl rfl rfl rfl rfl rfl ?_|refine S.alloc tOk rfl rfl rfl rfl ?_|apply Y3|apply Yn
 exact ⟨_, rfl, rfl, LeV.refl _⟩
end
end Go.Proofs.YtpelfildfidnbaaGreatDoor
namespace Go.Proofs.YtpelfildfidnbaaGreatDoor
section
open Go
theorem cmpInt_neg (x y : Int) : Lib.compareInt y x = -Lib.compareInt x y := by
 unfold Lib.compareInt
 by_cases h1 : x < y
 ·skip
  rw [if_pos h1, if_neg (by omega), if_pos h1]; rfl
 ·skip
  by_cases h2 : y < x
  ·skip
   rw [if_pos h2, if_neg h1, if_pos h2]
  ·skip
   rw [if_neg h2, if_neg h1, if_neg h1, if_neg h2]; rfl
theorem cmpBytes_neg : ∀ (a b : List UInt8), Lib.compareBytes b a = -Lib.compareBytes a b
  | [], [] => rfl
  | [], _ :: _ => rfl
  | _ :: _, [] => rfl
  | a :: l, b :: m => by
    have ih := cmpBytes_neg l m
    by_cases h1 : a < b
    · have h2 : ¬ b < a := by
        have h1' : a.toNat < b.toNat := h1
        show ¬ b.toNat < a.toNat
        omega
      simp only [Lib.compareBytes, h1, h2, if_true, if_false]; rfl
    · by_cases h2 : b < a
      · simp only [Lib.compareBytes, h1, h2, if_true, if_false]
      · simp only [Lib.compareBytes, h1, h2, if_false]; exact ih
theorem cwB_neg (a b : List UInt8) : cwB b a = -cwB a b := by
 unfold cwB
 cases ha : numeralB a <;> cases hb : numeralB b <;> simp only [Bool.and_true, Bool.and_false, Bool.false_and, Bool.true_and, if_true, if_false, Bool.false_eq_true]
 ·skip
  exact cmpBytes_neg a b
 ·skip
  rfl
 ·skip
  by_cases h : a.length = b.length
  ·skip
   rw [if_neg (by simp [h]), if_neg (by simp [h])]; exact cmpBytes_neg a b
  ·skip
   rw [if_pos (by simp; omega), if_pos (by simp; omega)]; exact cmpInt_neg _ _
theorem firstNe_neg (l : List Int) : firstNe (l.map fun x => -x) = -firstNe l := by
  induction l with
  | nil => rfl
  | cons a l ih =>
    unfold firstNe at ih ⊢
    by_cases h : a = 0
    · subst h; simpa using ih
    · have h' : ¬ -a = 0 := by omega
      simp [List.find?_cons, bne_iff_ne, h, h']
theorem zip_neg : ∀ (xs ys : List (List UInt8)), List.zipWith cwB ys xs = (List.zipWith cwB xs ys).map fun x => -x
 | [], ys => by cases ys <;> rfl
 | x :: xs, [] => rfl
 | x :: xs, y :: ys => by simp only [List.zipWith_cons_cons, List.map_cons, zip_neg xs ys, cwB_neg x y]
theorem rowsB_neg (xs ys : List (List UInt8)) : rowsB ys xs = -rowsB xs ys := by
  unfold rowsB
  rw [zip_neg, firstNe_neg]
  by_cases h : firstNe (List.zipWith cwB xs ys) = 0
  · rw [h]; exact cmpInt_neg _ _
  · have h' : ¬ -firstNe (List.zipWith cwB xs ys) = 0 := by omega
    rw [if_pos (by simpa using h), if_pos (by simpa using h')]
theorem ceB_neg (a b : List UInt8) : ceB b a = -ceB a b := by
  unfold ceB
  by_cases h : a = b
  · subst h; simp
  · have h1 : (a == b) = false := by simpa using h
    have h2 : (b == a) = false := by rw [beq_eq_false_iff_ne]; exact fun e => h e.symm
    rw [h1, h2]
    cases ha : (a == []) <;> cases hb : (b == [])
    · exact rowsB_neg _ _
    · rfl
    · rfl
    · exact absurd ((by simpa using ha : a = []).trans (by simpa using hb : b = []).symm) h
theorem orderB_neg (v w : Ver) : orderB w v = -orderB v w := by
 unfold orderB
 rw [← firstNe_neg]
 simp only [List.map_cons, List.map_nil, cmpInt_neg v.a w.a, cmpInt_neg v.b w.b, cmpInt_neg v.c w.c, ceB_neg v.e w.e]
theorem check_z : Ver.z.check = 0 := by decide
theorem form_f {s : Sp} (h : ((!(s.f.eqb Ver.z) && !s.hf) || (!(s.t.eqb Ver.z) && !s.ht)) = false) : (s.hf = false → s.f = Ver.z) ∧ (s.ht = false → s.t = Ver.z) := by
 rw [Bool.or_eq_false_iff] at h
 constructor
 ·skip
  intro hf
  have := h.1
  rw [hf] at this
  simp at this
  exact Ver.eqb_iff.1 this
 ·skip
  intro ht
  have := h.2
  rw [ht] at this
  simp at this
  exact Ver.eqb_iff.1 this
def formR (s : Sp) : Bool := (!s.hf && !(s.f.eqb Ver.z)) || (!s.ht && !(s.t.eqb Ver.z))
theorem formR_eq (s : Sp) : formR s = ((!(s.f.eqb Ver.z) && !s.hf) || (!(s.t.eqb Ver.z) && !s.ht)) := by
 unfold formR; rw [Bool.and_comm, Bool.and_comm (!s.ht)]
theorem spanR_form {s : Sp} (h : formR s = true) : spanE s = 2 := spE_form (by rw [← formR_eq]; exact h)
theorem spanR_ver {s : Sp} (h : formR s = false) (h2 : (firstB s.f.check s.t.check != 0) = true) : spanE s = firstB s.f.check s.t.check := by
  rw [formR_eq] at h
  obtain ⟨hf, ht⟩ := form_f h
  unfold firstB at h2 ⊢
  by_cases hc : s.f.check = 0
  · simp only [hc, bne_self_eq_false, Bool.false_eq_true, if_false] at h2 ⊢
    have h3 : s.ht = true := by
      cases hh : s.ht with
      | true => rfl
      | false => rw [ht hh, check_z] at h2; cases h2
    exact spE_t h (by simp [hc]) (by rw [h3]; simpa using h2)
  · rw [if_pos (by simpa using hc)]
    have h3 : s.hf = true := by
      cases hh : s.hf with
      | true => rfl
      | false => rw [hf hh] at hc; exact absurd check_z hc
    exact spE_f h (by rw [h3]; simpa using hc)
theorem checks_0 {s : Sp} (h2 : (firstB s.f.check s.t.check != 0) = false) : s.f.check = 0 ∧ s.t.check = 0 := by
 unfold firstB at h2
 by_cases hc : s.f.check = 0
 ·skip
  exact ⟨hc, by simpa [hc] using h2⟩
 ·skip
  simp [hc] at h2
theorem spanR_order {s : Sp} (h : formR s = false) (h2 : (firstB s.f.check s.t.check != 0) = false) (h3 : ((s.hf && s.ht) && decide (compareR s.f s.t ≥ 0)) = true) : spanE s = 7 := by
 rw [formR_eq] at h
 obtain ⟨c1, c2⟩ := checks_0 h2
 rw [compare_eq c1 c2] at h3
 exact spE_o h (by simp [c1]) (by simp [c2]) h3
theorem spanR_ok {s : Sp} (h : formR s = false) (h2 : (firstB s.f.check s.t.check != 0) = false) (h3 : ((s.hf && s.ht) && decide (compareR s.f s.t ≥ 0)) = false) : spanE s = 0 := by
 rw [formR_eq] at h
 obtain ⟨c1, c2⟩ := checks_0 h2
 rw [compare_eq c1 c2] at h3
 exact spE_ok h (by simp [c1]) (by simp [c2]) h3
theorem span_checks {s : Sp} (h : spanE s = 0) : s.f.check = 0 ∧ s.t.check = 0 := by
 have hform : ((!(s.f.eqb Ver.z) && !s.hf) || (!(s.t.eqb Ver.z) && !s.ht)) = false := by
  cases hh : ((!(s.f.eqb Ver.z) && !s.hf) || (!(s.t.eqb Ver.z) && !s.ht)) with
  | false => rfl
  | true => rw [spE_form hh] at h; cases h
 obtain ⟨hf, ht⟩ := form_f hform
 have h1 : s.f.check = 0 := by
  apply Decidable.byContradiction; intro hc
  have hh : s.hf = true := by
   cases hh : s.hf with
   | true => rfl
   | false => rw [hf hh] at hc; exact absurd check_z hc
  rw [spE_f hform (by rw [hh]; simpa using hc)] at h
  exact hc h
 refine ⟨h1, ?_⟩
 apply Decidable.byContradiction; intro hc
 have hh : s.ht = true := by
  cases hh : s.ht with
  | true => rfl
  | false => rw [ht hh] at hc; exact absurd check_z hc
 rw [spE_t hform (by simp [h1]) (by rw [hh]; simpa using hc)] at h
 exact hc h
theorem prev_ok {ss : List Sp} {i : Nat} (hi : i < ss.length) (h0 : 0 < i) (ht : (((List.range ss.length).map (spAt ss)).take i).all (· == 0) = true) : spanE (ss.getD (i - 1) Sp.z) = 0 := by
 have h1 : spAt ss (i - 1) = 0 := by
  have h2 := List.all_eq_true.1 ht (spAt ss (i - 1)) (by
   rw [List.mem_iff_getElem?]
   refine ⟨i - 1, ?_⟩
   rw [List.getElem?_take, if_pos (by omega)]
   have : i - 1 < ss.length := by omega
   simp [this])
  simpa using h2
 apply Decidable.byContradiction; intro hne
 rw [spAt_own (by simpa using hne)] at h1
 exact hne h1
theorem behindR {p s : Sp} (hp : p.t.check = 0) (hs : s.f.check = 0) : decide (compareR p.t s.f ≥ 0) = decide (orderB s.f p.t ≤ 0) := by
 rw [compare_eq hp hs, orderB_neg s.f p.t]
 simp only [decide_eq_decide]; omega
theorem spAt_form {ss : List Sp} {i : Nat} (h : formR (ss.getD i Sp.z) = true) : spAt ss i = 2 := (spAt_own (by rw [spanR_form h]; rfl)).trans (spanR_form h)
theorem spAt_ver {ss : List Sp} {i : Nat} (h : formR (ss.getD i Sp.z) = false) (h2 : (firstB (ss.getD i Sp.z).f.check (ss.getD i Sp.z).t.check != 0) = true) : spAt ss i = firstB (ss.getD i Sp.z).f.check (ss.getD i Sp.z).t.check :=
 (spAt_own (by rw [spanR_ver h h2]; exact h2)).trans (spanR_ver h h2)
theorem spAt_ord {ss : List Sp} {i : Nat} (h : formR (ss.getD i Sp.z) = false) (h2 : (firstB (ss.getD i Sp.z).f.check (ss.getD i Sp.z).t.check != 0) = false)
  (h3 : (((ss.getD i Sp.z).hf && (ss.getD i Sp.z).ht) && decide (compareR (ss.getD i Sp.z).f (ss.getD i Sp.z).t ≥ 0)) = true) : spAt ss i = 7 := (spAt_own (by rw [spanR_order h h2 h3]; rfl)).trans (spanR_order h h2 h3)
section
variable {ss : List Sp} {i : Nat} (hi : i < ss.length) (ht : (((List.range ss.length).map (spAt ss)).take i).all (· == 0) = true) (h : formR (ss.getD i Sp.z) = false) (h2 : (firstB (ss.getD i Sp.z).f.check (ss.getD i Sp.z).t.check != 0) = false)
  (h3 : (((ss.getD i Sp.z).hf && (ss.getD i Sp.z).ht) && decide (compareR (ss.getD i Sp.z).f (ss.getD i Sp.z).t ≥ 0)) = false)
include hi ht h h2 h3
theorem spAt_r7 (h6 : (decide ((i : Int) > 0) && ((!(ss.getD (i - 1) Sp.z).ht || !(ss.getD i Sp.z).hf) || decide (compareR (ss.getD (i - 1) Sp.z).t (ss.getD i Sp.z).f ≥ 0))) = true) : spAt ss i = 7 := by
 rw [Bool.and_eq_true] at h6
 have h0 : 0 < i := by have := of_decide_eq_true h6.1; omega
 have hp := (span_checks (prev_ok hi h0 ht)).2
 rw [behindR hp (checks_0 h2).1] at h6
 exact spAt_bad (by rw [spanR_ok h h2 h3]; rfl) (by simp; omega) h6.2
theorem spAt_r0 (h6 : (decide ((i : Int) > 0) && ((!(ss.getD (i - 1) Sp.z).ht || !(ss.getD i Sp.z).hf) || decide (compareR (ss.getD (i - 1) Sp.z).t (ss.getD i Sp.z).f ≥ 0))) = false) : spAt ss i = 0 := by
 by_cases h0 : 0 < i
 ·skip
  have hp := (span_checks (prev_ok hi h0 ht)).2
  rw [show decide ((i : Int) > 0) = true from decide_eq_true (by omega), Bool.true_and, behindR hp (checks_0 h2).1] at h6
  exact spAt_ok (by rw [spanR_ok h h2 h3]; rfl) (by simp; omega) h6
 ·skip
  exact spAt_first (by rw [spanR_ok h h2 h3]; rfl) (by simp; omega)
end
end
section
open Go
open Go.RowKit
attribute [local irreducible] thenK blockK W
theorem pc_verr2 (v w : Ver) (hv : v.e.length < 4294967281) (hw : w.e.length < 4294967281) : PureCall Tryz.prog J 80 [.one (.d (.vec 4 [verD v, verD w]))] (.one (.d (.int .i64 (firstB v.check w.check)))) := by
 have h := pc_outref2_VersionError [v, w] (by simp) (by intro u hu; simp at hu; rcases hu with rfl | rfl <;> assumption)
 rw [show firstNe ([v, w].map Ver.check) = firstB v.check w.check from first2 _ _] at h
 exact h
theorem pc_outref2_RangeError (ss : List Sp) (hl : ss.length ≤ 1000000000) (hv : ∀ s ∈ ss, SpLen s) :
  PureCall Tryz.prog J 79 [rgV ss] (.one (.d (.int .i64 (rangeE ss)))) := by
 refine PureCall.of_body tOk (fn := Tryz.f79) Tryz.func79 (by kernel_rfl) rfl (Nat.le_of_ble_eq_true rfl) (fun E => ?_)
 iterate 11 first|refine Yp rfl ?_|refine S.box rfl rfl rfl rfl ?_|apply Y1|apply Yn|apply Ys
 refine W.cond rfl (fun c1=>?_) fun c1=>?_
 ·skip
  apply Y1
  refine Yp rfl ?_
  apply Yn
  apply Yt
  apply Yu
  exact ⟨_, rfl, rfl, LeV.of_eq (congrArg (fun x => V.one (C.d (D.int .i64 x))) (rangeE_large (by simpa using c1)).symm)⟩
 have hlen := rangeE_list (ss := ss) (by simpa using c1)
 iterate 9 first|refine Yp rfl ?_|apply Yk|apply Y1|apply Yn|apply Ys
 apply Yb
 refine W.loop (fun k st => ∃ i : Nat, i ≤ ss.length ∧ (((List.range ss.length).map (spAt ss)).take i).all (· == 0) = true ∧ k = ss.length - i ∧ ∃ t b2 r2 m2, st = ⟨t, [[.d (.vec 10 (ss.map spD))]] ++ b2, [] ++ r2, [] ++ m2⟩ ∧ holdsL t [(1, .one (.ptr 0 0)), (11, .one (.d (.vec 10 (ss.map spD)))), (12, .one (.d (.int .i64 ((ss.map spD).length : Int)))), (13, .one (.d (.int .i64 (i : Int))))]) (ss.length) ⟨0, Nat.zero_le _, by simp, rfl, _, _, _, _, rfl, rfl, rfl, rfl, rfl, trivial⟩ ?_
 rintro k0 _ ⟨i, f0_0, f0_1, rfl, t0, bb0, rr0, mm0, rfl, hh0⟩
 refine W.keepR _ _ _ _ _ _ _ hh0 rfl ?_
 apply Y1
 refine Yp rfl ?_
 apply Yn
 apply Ys
 refine W.cond rfl (fun c2=>?_) fun c2=>?_
 ·skip
  have hi := row_lt c2
  have hs := sp_at hv hi
  have hi1 : i - 1 < ss.length := by omega
  have hs1 := sp_at hv hi1
  apply Yk
  apply Yn
  apply Ys
  apply Yb
  apply Y1
  refine Yp rfl ?_
  refine YE rfl (row_ok hi) (row_at Sp.z hi) rfl ?_
  iterate 26 first|refine S.pickAndG tOk zOk rfl rfl rfl tg tg ?_|refine S.pickAnd tOk zOk rfl rfl tg ?_|refine Yg rfl rfl tg ?_|refine Yp rfl ?_|refine S.store tOk rfl rfl rfl rfl rfl rfl rfl rfl ?_|refine S.alloc tOk rfl rfl rfl rfl ?_|apply Y1|apply Ys|apply Yn
  refine S.pickOr tOk zOk rfl rfl tg ?_
  apply Yn
  refine W.cond rfl (fun c3=>?_) fun c3=>?_
  ·skip
   iterate 10 first|apply Yu|apply Yv|apply Yt|refine Yp rfl ?_|apply Y1|apply Yn
   exact ⟨_, rfl, rfl, LeV.of_eq (congrArg (fun x => V.one (C.d (D.int .i64 x))) (hlen.trans (spAt_hit hi f0_1 (spAt_form c3) (by decide))).symm)⟩
  iterate 8 first|refine Yp rfl ?_|apply Yk|apply Y1|apply Ys|apply Yn
  refine S.slice tOk rfl rfl ?_
  refine S.call rfl rfl rfl rfl rfl (pc_verr2 (ss.getD i Sp.z).f (ss.getD i Sp.z).t hs.1 hs.2) ?_
  iterate 5 first|refine Yp rfl ?_|apply Y3|apply Yn
  refine W.cond rfl (fun c4=>?_) fun c4=>?_
  ·skip
   iterate 11 first|apply Yu|apply Yv|refine Yp rfl ?_|apply Yt|apply Y1|apply Yn
   exact ⟨_, rfl, rfl, LeV.of_eq (congrArg (fun x => V.one (C.d (D.int .i64 x))) (hlen.trans (spAt_hit hi f0_1 (spAt_ver c3 c4) (by simpa using c4))).symm)⟩
  iterate 15 first|refine S.pickAnd tOk zOk rfl rfl tg ?_|refine Yg rfl rfl tg ?_|refine Yp rfl ?_|apply Yk|apply Y1|apply Ys|apply Yn
  refine S.callG rfl rfl rfl rfl tg rfl rfl (fun _ => pc_outref2_CompareOf (ss.getD i Sp.z).f (ss.getD i Sp.z).t hs.1 hs.2) ?_
  refine Yg rfl rfl tg ?_
  refine S.pickAnd tOk zOk rfl rfl tg ?_
  apply Yn
  refine W.cond rfl (fun c5=>?_) fun c5=>?_
  ·skip
   iterate 10 first|apply Yu|apply Yv|apply Yt|refine Yp rfl ?_|apply Y1|apply Yn
   exact ⟨_, rfl, rfl, LeV.of_eq (congrArg (fun x => V.one (C.d (D.int .i64 x))) (hlen.trans (spAt_hit hi f0_1 (spAt_ord c3 c4 c5) (by decide))).symm)⟩
  apply Yk
  apply Yn
  apply Ys
  refine W.regionD mixed (by kernel_rfl) ?_
  iterate 7 first|refine Yy rfl rfl rfl tg ?_|refine Ym rfl rfl ?_
  refine D.pureEG tOk zOk rfl rfl rfl tg (fun h => pred_ok h hi (by omega)) (row_pred Sp.z hi (by omega)) rfl ?_
  iterate 7 refine Yy rfl rfl rfl tg ?_
  refine D.pickOrG tOk zOk rfl rfl rfl tg tg ?_
  iterate 5 refine Yy rfl rfl rfl tg ?_
  refine D.pureEG tOk zOk rfl rfl rfl tg (fun h => pred_ok (andl h) hi (by omega)) (row_pred Sp.z hi (by omega)) rfl ?_
  iterate 4 refine Yy rfl rfl rfl tg ?_
  refine D.callG rfl rfl rfl rfl tg rfl rfl (fun _ => pc_outref2_CompareOf (ss.getD (i - 1) Sp.z).t (ss.getD i Sp.z).f hs1.2 hs.1) ?_
  refine Yy rfl rfl rfl tg ?_
  refine D.pickOrG tOk zOk rfl rfl rfl tg tg ?_
  refine D.pickAnd tOk zOk rfl rfl tg ?_
  apply Yn
  refine W.cond rfl (fun c6=>?_) fun c6=>?_
  ·skip
   iterate 9 first|apply Yu|apply Yv|apply Yt|refine Yp rfl ?_|apply Y1|apply Yn
   exact ⟨_, rfl, rfl, LeV.of_eq (congrArg (fun x => V.one (C.d (D.int .i64 x))) (hlen.trans (spAt_hit hi f0_1 (spAt_r7 hi f0_1 c3 c4 c5 c6) (by decide))).symm)⟩
  apply Yk
  apply Yw
  apply Y4
  iterate 2 refine Yp rfl ?_
  refine loop_n (ss.length - (i + 1)) (by omega) ⟨i + 1, hi, all_take_succ (d := 0) (by simpa using hi) f0_1 (spAt_go hi (spAt_r0 hi f0_1 c3 c4 c5 c6)), rfl, _, _, _, _, rfl, rfl, rfl, rfl, inc_i64 (by omega), trivial⟩
 have hi := row_ge c2
 apply Yq
 apply Ye
 apply Ye
 apply Yx
 apply Y3
 refine Yp rfl ?_
 apply Yn
 apply Yt
 exact ⟨_, rfl, rfl, LeV.of_eq (congrArg (fun x => V.one (C.d (D.int .i64 x))) (hlen.trans (firstNe_none (by simpa using hi) f0_1)).symm)⟩
end
end Go.Proofs.YtpelfildfidnbaaGreatDoor
namespace Go.Proofs.YtpelfildfidnbaaGreatDoor
section
open Go
def itemB (s : List UInt8) : It × Bool :=
  if s == [42] then (⟨42, [], []⟩, true)
  else if Lib.hasPrefix s [62, 61] then
    (if (Lib.cut (Lib.trimPrefix s [62, 61]) [32]).2.2 then
      (⟨98, (Lib.cut (Lib.trimPrefix s [62, 61]) [32]).1, Lib.trimPrefix (Lib.cut (Lib.trimPrefix s [62, 61]) [32]).2.1 [60]⟩,
        (Lib.hasPrefix (Lib.cut (Lib.trimPrefix s [62, 61]) [32]).2.1 [60] && rowB (Lib.cut (Lib.trimPrefix s [62, 61]) [32]).1) && rowB (Lib.trimPrefix (Lib.cut (Lib.trimPrefix s [62, 61]) [32]).2.1 [60]))
     else (⟨62, Lib.trimPrefix s [62, 61], []⟩, rowB (Lib.trimPrefix s [62, 61])))
  else if !(s == []) && decide (Lib.indexByte [60, 61, 94, 126] (bI (s.getD 0 0)).toNat.toUInt8 ≥ 0) then (⟨bI (s.getD 0 0), s.drop 1, []⟩, rowB (s.drop 1))
  else (⟨94, s, []⟩, rowB s)
def behindB (v : Ver) (g : Int) : Ver × Int :=
 if g == 61 && !(v.e == []) then (⟨v.a, v.b, v.c, v.e ++ [46, 48]⟩, checkB v.a v.b v.c (v.e ++ [46, 48]))
 else if g == 61 then (⟨(nextB v 2).1.a, (nextB v 2).1.b, (nextB v 2).1.c, [48]⟩, (nextB v 2).2)
 else if g == 94 && !(v.a == 0) then nextB v 0 else nextB v 1
def spanB (it : It) : Sp × Int :=
 if it.sign == 42 then (Sp.z, 0)
 else if (parseB it.first).2 != 0 then (Sp.z, (parseB it.first).2)
 else if it.sign == 62 then (⟨true, false, (parseB it.first).1, Ver.z⟩, 0)
 else if it.sign == 60 then (⟨false, true, Ver.z, (parseB it.first).1⟩, 0)
 else if it.sign == 98 then (⟨true, true, (parseB it.first).1, (parseB it.last).1⟩, (parseB it.last).2)
 else (⟨true, true, (parseB it.first).1, (behindB (parseB it.first).1 it.sign).1⟩, (behindB (parseB it.first).1 it.sign).2)
def badB (t : List UInt8) : Bool := (!(itemB t).2 || (!((itemB t).1.sign == 42) && wrongB (itemB t).1.first)) || ((itemB t).1.sign == 98 && wrongB (itemB t).1.last)
abbrev partsR (s : List UInt8) : List (List UInt8) := Lib.split s [44, 32]
def rangeB (s : List UInt8) : List Sp × Int :=
 if decide ((s.length : Int) > 1000) then ([], 4) else if s == [110, 111, 110, 101] then ([], 0)
 else if (partsR s).any badB then ([], 8)
 else if firstNe ((partsR s).map fun t => (spanB (itemB t).1).2) != 0 then ([], firstNe ((partsR s).map fun t => (spanB (itemB t).1).2))
 else if rangeE ((partsR s).map fun t => (spanB (itemB t).1).1) != 0 then ([], rangeE ((partsR s).map fun t => (spanB (itemB t).1).1))
 else ((partsR s).map fun t => (spanB (itemB t).1).1, 0)
theorem trim_le (s p : List UInt8) : (Lib.trimPrefix s p).length ≤ s.length := by
 unfold Lib.trimPrefix
 split <;> simp
theorem cut3_le (s p : List UInt8) : (Lib.trimPrefix (Lib.cut s p).2.1 [60]).length ≤ s.length := Nat.le_trans (trim_le _ _) (cut_le s p).2
theorem checkB_ver (v : Ver) : checkB v.a v.b v.c v.e = v.check := rfl
theorem item_le (s : List UInt8) : (itemB s).1.first.length ≤ s.length ∧ (itemB s).1.last.length ≤ s.length := by
 unfold itemB
 have h1 := trim_le s [62, 61]
 have h2 := cut_le (Lib.trimPrefix s [62, 61]) [32]
 have h3 := cut3_le (Lib.trimPrefix s [62, 61]) [32]
 split
 ·skip
  simp
 ·skip
  split
  ·skip
   split
   ·skip
    exact ⟨by simp only; omega, by simp only; omega⟩
   ·skip
    exact ⟨h1, by simp⟩
  ·skip
   split
   ·skip
    simp
   ·skip
    simp
theorem parse_e (s : List UInt8) : (parseB s).1.e.length ≤ s.length := by
 have hc := cut_le s [45]
 unfold parseB parseW
 split
 ·skip
  simp [Ver.z]
 ·skip
  split
  ·skip
   unfold threeB
   split
   ·skip
    simp [Ver.z]
   ·skip
    split
    ·skip
     simp [Ver.z]
    ·skip
     split
     ·skip
      simp [Ver.z]
     ·skip
      split
      ·skip
       simp [Ver.z]
      ·skip
       exact hc.2
  ·skip
   simp [Ver.z]
theorem next_e (v : Ver) (p : Int) : (nextB v p).1.e = [] := by
 have h : ∀ x y z, (nextOk x y z).1.e = [] := fun x y z => by unfold nextOk; split <;> rfl
 unfold nextB
 split
 ·skip
  rfl
 ·skip
  split
  ·skip
   exact h _ _ _
  ·skip
   split
   ·skip
    exact h _ _ _
   ·skip
    split
    ·skip
     exact h _ _ _
    ·skip
     split
     ·skip
      rfl
     ·skip
      exact h _ _ _
theorem behind_e (v : Ver) (g : Int) : (behindB v g).1.e.length ≤ v.e.length + 2 := by
 unfold behindB
 split
 ·skip
  simp
 ·skip
  split
  ·skip
   simp
  ·skip
   split
   ·skip
    rw [next_e]; simp
   ·skip
    rw [next_e]; simp
theorem span_e (t : List UInt8) : (spanB (itemB t).1).1.f.e.length ≤ t.length + 2 ∧ (spanB (itemB t).1).1.t.e.length ≤ t.length + 2 := by
 have h := item_le t
 have h1 := parse_e (itemB t).1.first
 have h2 := parse_e (itemB t).1.last
 have h3 := behind_e (parseB (itemB t).1.first).1 (itemB t).1.sign
 unfold spanB
 split
 ·skip
  simp [Sp.z, Ver.z]
 ·skip
  split
  ·skip
   simp [Sp.z, Ver.z]
  ·skip
   split
   ·skip
    exact ⟨by simp only; omega, by simp [Ver.z]⟩
   ·skip
    split
    ·skip
     exact ⟨by simp [Ver.z], by simp only; omega⟩
    ·skip
     split
     ·skip
      exact ⟨by simp only; omega, by simp only; omega⟩
     ·skip
      exact ⟨by simp only; omega, by simp only; omega⟩
def spRes (t : List UInt8) : Sp := (spanB (itemB t).1).1
theorem any_take {α : Type} {xs : List α} {p : α → Bool} {i : Nat} {d : α} (hi : i < xs.length) (h : (xs.take i).any p = false) (hp : p (xs.getD i d) = false) : (xs.take (i + 1)).any p = false := by
 rw [List.take_add_one, List.any_append, h]
 simp only [List.getD_eq_getElem?_getD, List.getElem?_eq_getElem hi, Option.getD_some] at hp
 simp [List.getElem?_eq_getElem hi, hp]
theorem any_hit {α : Type} {xs : List α} {p : α → Bool} {i : Nat} {d : α} (hi : i < xs.length) (hp : p (xs.getD i d) = true) : xs.any p = true := by
 simp only [List.getD_eq_getElem?_getD, List.getElem?_eq_getElem hi, Option.getD_some] at hp
 exact List.any_eq_true.2 ⟨_, List.getElem_mem hi, hp⟩
theorem any_end {α : Type} {xs : List α} {p : α → Bool} {i : Nat} (hi : xs.length ≤ i) (h : (xs.take i).any p = false) : xs.any p = false := by rwa [List.take_of_length_le hi] at h
section
variable {s : List UInt8}
theorem rB_large (h : decide ((s.length : Int) > 1000) = true) : rangeB s = ([], 4) := if_pos h
theorem rB_none (h : decide ((s.length : Int) > 1000) = false) (h2 : (s == [110, 111, 110, 101]) = true) : rangeB s = ([], 0) := by
 rw [rangeB, if_neg (Bool.eq_false_iff.1 h), if_pos h2]
theorem rB_bad (h : decide ((s.length : Int) > 1000) = false) (h2 : (s == [110, 111, 110, 101]) = false) (h3 : (partsR s).any badB = true) : rangeB s = ([], 8) := by
 rw [rangeB, if_neg (Bool.eq_false_iff.1 h), if_neg (Bool.eq_false_iff.1 h2), if_pos h3]
theorem rB_err {n : Int} (h : decide ((s.length : Int) > 1000) = false) (h2 : (s == [110, 111, 110, 101]) = false) (h3 : (partsR s).any badB = false) (h4 : firstNe ((partsR s).map fun t => (spanB (itemB t).1).2) = n) (hn : n ≠ 0) : rangeB s = ([], n) := by
 rw [rangeB, if_neg (Bool.eq_false_iff.1 h), if_neg (Bool.eq_false_iff.1 h2), if_neg (Bool.eq_false_iff.1 h3), h4, if_pos (by simpa using hn)]
theorem rB_range (h : decide ((s.length : Int) > 1000) = false) (h2 : (s == [110, 111, 110, 101]) = false) (h3 : (partsR s).any badB = false) (h4 : firstNe ((partsR s).map fun t => (spanB (itemB t).1).2) = 0)
  (h5 : (rangeE ((partsR s).map spRes) != 0) = true) : rangeB s = ([], rangeE ((partsR s).map spRes)) := by
 rw [rangeB, if_neg (Bool.eq_false_iff.1 h), if_neg (Bool.eq_false_iff.1 h2), if_neg (Bool.eq_false_iff.1 h3), h4, if_neg (by simp)]
 exact if_pos h5
theorem rB_ok (h : decide ((s.length : Int) > 1000) = false) (h2 : (s == [110, 111, 110, 101]) = false) (h3 : (partsR s).any badB = false) (h4 : firstNe ((partsR s).map fun t => (spanB (itemB t).1).2) = 0)
  (h5 : (rangeE ((partsR s).map spRes) != 0) = false) : rangeB s = ((partsR s).map spRes, 0) := by
 rw [rangeB, if_neg (Bool.eq_false_iff.1 h), if_neg (Bool.eq_false_iff.1 h2), if_neg (Bool.eq_false_iff.1 h3), h4, if_neg (by simp)]
 exact if_neg (Bool.eq_false_iff.1 h5)
end
theorem code_at {ts : List (List UInt8)} {i : Nat} {f : List UInt8 → Int} (hi : i < ts.length) : (ts.map f).getD i 0 = f (ts.getD i []) := by
 simp [List.getD_eq_getElem?_getD, hi]
theorem code_go {ts : List (List UInt8)} {i : Nat} {f : List UInt8 → Int} (hi : i < ts.length) (h : (f (ts.getD i []) != 0) = false) : ((ts.map f).getD i 0 == 0) = true := by
 rw [code_at hi]; simpa using h
theorem code_hit {ts : List (List UInt8)} {i : Nat} {f : List UInt8 → Int} (hi : i < ts.length) (ht : ((ts.map f).take i).all (· == 0) = true) (h : (f (ts.getD i []) != 0) = true) : firstNe (ts.map f) = f (ts.getD i []) := by
 rw [firstNe_hit (by simpa using hi) ht (by rw [code_at hi]; simpa using h), code_at hi]
theorem code_end {ts : List (List UInt8)} {i : Nat} {f : List UInt8 → Int} (hi : ts.length ≤ i) (ht : ((ts.map f).take i).all (· == 0) = true) : firstNe (ts.map f) = 0 := firstNe_none (by simpa using hi) ht
theorem firstNe_snoc (l : List Int) (x : Int) : firstNe (l ++ [x]) = firstB (firstNe l) x := by
 induction l with
 | nil => by_cases h : x = 0 <;> simp [firstNe, firstB, h]
 | cons a l ih =>
  simp only [List.cons_append, firstNe] at ih ⊢
  by_cases h : a = 0
  ·skip
   subst h; simpa using ih
  ·skip
   simp [h, firstB]
theorem split_pos (s sep : List UInt8) : 0 < (Lib.split s sep).length := by
 unfold Lib.split
 cases Lib.count s sep with
 | zero => simp [Lib.splitK]
 | succ k => unfold Lib.splitK; split <;> simp
end
section
open Go
open Go.RowKit
attribute [local irreducible] thenK blockK W
def itV (it : It) : V := .agg [.d (.int .u8 it.sign), .d (.str it.first), .d (.str it.last)]
def itD (t : List UInt8) : List D := [.int .u8 (itemB t).1.sign, .str (itemB t).1.first, .str (itemB t).1.last]
theorem sl_tail (s : List UInt8) : V.one (.d (.str ((s.take ((s.length : Int)).toNat).drop (1 : Int).toNat))) = V.one (.d (.str (s.drop 1))) := by simp
theorem le_rgNil {n : Int} {x : List Sp × Int} (h : x = ([], n)) : LeV (.tup [.agg [.d .nilsl], .one (.d (.int .i64 n))]) (.tup [rgV x.1, .one (.d (.int .i64 x.2))]) := by
 subst h; exact LeV.tup2 (LeV.aggNil 10) (LeV.refl _)
theorem le_rg {ss : List Sp} {n : Int} {x : List Sp × Int} (h : x = (ss, n)) : LeV (.tup [.agg [.d (.vec 10 (ss.map spD))], .one (.d (.int .i64 n))]) (.tup [rgV x.1, .one (.d (.int .i64 x.2))]) := by
 subst h; exact LeV.refl _
theorem len_pos {s : List UInt8} {b : Bool} (h : (!(s == []) && b) = true) : (1 : Int) ≤ (s.length : Int) := by
 cases s with
 | nil => simp at h
 | cons a l => simp only [List.length_cons]; omega
theorem pc_ver_itemOf (s : List UInt8) (hs : s.length < 4294967281) :
  PureCall Tryz.prog J 290 [.one (.d (.str s))] (.tup [itV (itemB s).1, .one (.d (.bool (itemB s).2))]) := by
 have h1 := trim_le s [62, 61]
 have h2 := cut_le (Lib.trimPrefix s [62, 61]) [32]
 have h3 := cut3_le (Lib.trimPrefix s [62, 61]) [32]
 refine PureCall.of_body tOk (fn := Tryz.f290) Tryz.func290 (by kernel_rfl) rfl (Nat.le_of_ble_eq_true rfl) (fun E => ?_)
 iterate 9 first|refine Yp rfl ?_|refine S.alloc tOk rfl rfl rfl rfl ?_|apply Y1|apply Yn|apply Ys
 refine W.cond rfl (fun c1=>?_) fun c1=>?_
 ·skip
  iterate 7 first|refine Yp rfl ?_|apply Yu|apply Yt|refine S.store tOk rfl rfl rfl rfl rfl rfl rfl rfl ?_|apply Y1|apply Yn
  exact Yz rfl rfl rfl (congrArg (fun x : It × Bool => V.tup [itV x.1, .one (.d (.bool x.2))]) ((if_pos c1) : itemB s = _)).symm
 apply Yk
 iterate 9 first|refine Yp rfl ?_|refine S.store tOk rfl rfl rfl rfl rfl rfl rfl rfl ?_|refine S.alloc tOk rfl rfl rfl rfl ?_|apply Y1|apply Y3|apply Ys|apply Yn
 refine S.call rfl rfl rfl rfl rfl (pc_CutPrefix s [62, 61]) ?_
 iterate 8 first|refine Yp rfl ?_|apply Y3|apply Yn
 refine W.cond rfl (fun c2=>?_) fun c2=>?_
 ·skip
  iterate 6 first|refine Yp rfl ?_|refine S.store tOk rfl rfl rfl rfl rfl rfl rfl rfl ?_|apply Y3|apply Y1
  refine S.call rfl rfl rfl rfl rfl (pc_Cut (Lib.trimPrefix s [62, 61]) [32] (by omega)) ?_
  iterate 10 first|refine Yp rfl ?_|apply Y3|apply Yn
  refine W.cond rfl (fun c3=>?_) fun c3=>?_
  ·skip
   apply Y1
   refine Yp rfl ?_
   refine S.call rfl rfl rfl rfl rfl (pc_CutPrefix (Lib.cut (Lib.trimPrefix s [62, 61]) [32]).2.1 [60]) ?_
   iterate 12 first|refine Yp rfl ?_|refine Yg rfl rfl tg ?_|apply Y3
   refine S.callG rfl rfl rfl rfl tg rfl rfl (fun _ => pc_ver_isRow _ (by first | omega | (simp; omega))) ?_
   refine S.pickAnd tOk zOk rfl rfl tg ?_
   refine Yp rfl ?_
   refine Yg rfl rfl tg ?_
   refine S.callG rfl rfl rfl rfl tg rfl rfl (fun _ => pc_ver_isRow _ (by first | omega | (simp; omega))) ?_
   refine S.pickAnd tOk zOk rfl rfl tg ?_
   refine S.store tOk rfl rfl rfl rfl rfl rfl rfl rfl ?_
   refine Yp rfl ?_
   apply Yn
   apply Yt
   apply Yu
   exact Yz rfl rfl rfl (congrArg (fun x : It × Bool => V.tup [itV x.1, .one (.d (.bool x.2))]) (((if_neg (Bool.eq_false_iff.1 c1)).trans ((if_pos c2).trans (if_pos c3))) : itemB s = _)).symm
  apply Yk
  apply Yn
  apply Ys
  refine W.regionD mixed (by kernel_rfl) ?_
  iterate 3 refine Ym rfl rfl ?_
  refine D.call rfl rfl rfl rfl rfl (pc_ver_isRow _ (by first | omega | (simp; omega))) ?_
  refine D.store tOk rfl rfl rfl rfl rfl rfl rfl rfl ?_
  refine Ym rfl rfl ?_
  apply Yn
  apply Yt
  exact Yz rfl rfl rfl (congrArg (fun x : It × Bool => V.tup [itV x.1, .one (.d (.bool x.2))]) (((if_neg (Bool.eq_false_iff.1 c1)).trans ((if_pos c2).trans (if_neg (Bool.eq_false_iff.1 c3)))) : itemB s = _)).symm
 apply Y1
 iterate 3 refine Yp rfl ?_
 refine Yg rfl rfl tg ?_
 refine YG rfl rfl tg (fun h => idx_ok (Int.le_refl _) (by have := len_pos (b := true) (by simpa using h); omega)) rfl ?_
 refine S.callG rfl rfl rfl rfl tg rfl rfl (fun _ => pc_IndexByte _ _) ?_
 refine Yg rfl rfl tg ?_
 refine S.pickAnd tOk zOk rfl rfl tg ?_
 apply Yn
 refine W.cond rfl (fun c4=>?_) fun c4=>?_
 ·skip
  refine W.regionD mixed (by kernel_rfl) ?_
  refine Ym rfl rfl ?_
  refine D.pure tOk zOk rfl rfl (idx_ok (Int.le_refl _) (by have := len_pos c4; omega)) rfl ?_
  refine Ym rfl rfl ?_
  refine D.pureE tOk zOk rfl rfl (sl_ok (l := 1) (h := (s.length : Int)) (n := (s.length : Int)) (by decide) (len_pos c4) (Int.le_refl _)) (sl_tail s) rfl ?_
  refine Ym rfl rfl ?_
  refine D.store tOk rfl rfl rfl rfl rfl rfl rfl rfl ?_
  apply Yn
  apply Ys
  refine W.regionD mixed (by kernel_rfl) ?_
  iterate 3 refine Ym rfl rfl ?_
  refine D.call rfl rfl rfl rfl rfl (pc_ver_isRow _ (by first | omega | (simp; omega))) ?_
  refine D.store tOk rfl rfl rfl rfl rfl rfl rfl rfl ?_
  refine Ym rfl rfl ?_
  apply Yn
  apply Yt
  exact Yz rfl rfl rfl (congrArg (fun x : It × Bool => V.tup [itV x.1, .one (.d (.bool x.2))]) (((if_neg (Bool.eq_false_iff.1 c1)).trans ((if_neg (Bool.eq_false_iff.1 c2)).trans (if_pos c4))) : itemB s = _)).symm
 apply Yk
 apply Yn
 apply Ys
 refine W.regionD mixed (by kernel_rfl) ?_
 iterate 3 refine Ym rfl rfl ?_
 refine D.call rfl rfl rfl rfl rfl (pc_ver_isRow _ (by first | omega | (simp; omega))) ?_
 refine D.store tOk rfl rfl rfl rfl rfl rfl rfl rfl ?_
 refine Ym rfl rfl ?_
 apply Yn
 apply Yt
 exact Yz rfl rfl rfl (congrArg (fun x : It × Bool => V.tup [itV x.1, .one (.d (.bool x.2))]) (((if_neg (Bool.eq_false_iff.1 c1)).trans ((if_neg (Bool.eq_false_iff.1 c2)).trans (if_neg (Bool.eq_false_iff.1 c4)))) : itemB s = _)).symm
theorem pc_ver_behind (v : Ver) (he : v.e.length < 4294967000) (g : Int) :
  PureCall Tryz.prog J 313 [verV v, .one (.d (.int .u8 g))] (.tup [verV (behindB v g).1, .one (.d (.int .i64 (behindB v g).2))]) := by
 refine PureCall.of_body tOk (fn := Tryz.f313) Tryz.func313 (by kernel_rfl) rfl (Nat.le_of_ble_eq_true rfl) (fun E => ?_)
 iterate 17 first|refine S.pickAnd tOk zOk rfl rfl tg ?_|refine Yp rfl ?_|refine Yg rfl rfl tg ?_|apply Yb|refine S.alloc tOk rfl rfl rfl rfl ?_|refine S.box rfl rfl rfl rfl ?_|apply Y1|apply Yn|apply Ys
 refine W.cond rfl (fun c1=>?_) fun c1=>?_
 ·skip
  apply Y1
  iterate 2 refine Yp rfl ?_
  refine YP rfl (cat_ok (by simp [-List.getD_eq_getElem?_getD]; omega)) rfl ?_
  refine Yp rfl ?_
  refine S.store tOk rfl rfl rfl rfl rfl rfl rfl rfl ?_
  apply Yn
  apply Ys
  refine W.regionD mixed (by kernel_rfl) ?_
  iterate 2 refine Ym rfl rfl ?_
  refine D.call rfl rfl rfl rfl rfl (pc_ver_Check ⟨v.a, v.b, v.c, v.e ++ [46, 48]⟩ (by simp; omega)) ?_
  refine D.store tOk rfl rfl rfl rfl rfl rfl rfl rfl ?_
  refine Ym rfl rfl ?_
  apply Yn
  apply Yt
  apply Yv
  apply Yu
  exact Yz rfl rfl rfl (congrArg (fun x : Ver × Int => V.tup [verV x.1, .one (.d (.int .i64 x.2))]) ((if_pos c1) : behindB v g = _)).symm
 apply Y1
 iterate 3 refine Yp rfl ?_
 apply Yn
 refine W.cond rfl (fun c2=>?_) fun c2=>?_
 ·skip
  apply Y1
  refine Yp rfl ?_
  refine S.call rfl rfl rfl rfl rfl (pc_ver_Next v (by omega) 2) ?_
  iterate 18 first|refine Yp rfl ?_|refine S.store tOk rfl rfl rfl rfl rfl rfl rfl rfl ?_|apply Yu|apply Yv|apply Yt|refine S.alloc tOk rfl rfl rfl rfl ?_|apply Y3|apply Yn
  exact Yz rfl rfl rfl (congrArg (fun x : Ver × Int => V.tup [verV x.1, .one (.d (.int .i64 x.2))]) (((if_neg (Bool.eq_false_iff.1 c1)).trans (if_pos c2)) : behindB v g = _)).symm
 iterate 9 first|refine S.pickAnd tOk zOk rfl rfl tg ?_|refine Yp rfl ?_|refine Yg rfl rfl tg ?_|apply Y1
 apply Yn
 refine W.cond rfl (fun c3=>?_) fun c3=>?_
 ·skip
  apply Y1
  refine Yp rfl ?_
  refine S.call rfl rfl rfl rfl rfl (pc_ver_Next v (by omega) 0) ?_
  iterate 8 first|refine Yp rfl ?_|apply Yu|apply Yv|apply Yt|refine S.store tOk rfl rfl rfl rfl rfl rfl rfl rfl ?_|apply Yn
  exact Yz rfl rfl rfl (congrArg (fun x : Ver × Int => V.tup [verV x.1, .one (.d (.int .i64 x.2))]) (((if_neg (Bool.eq_false_iff.1 c1)).trans ((if_neg (Bool.eq_false_iff.1 c2)).trans (if_pos c3))) : behindB v g = _)).symm
 apply Yk
 apply Yw
 apply Y3
 refine Yp rfl ?_
 refine S.call rfl rfl rfl rfl rfl (pc_ver_Next v (by omega) 1) ?_
 iterate 6 first|refine Yp rfl ?_|apply Yt|refine S.store tOk rfl rfl rfl rfl rfl rfl rfl rfl ?_|apply Yn
 exact Yz rfl rfl rfl (congrArg (fun x : Ver × Int => V.tup [verV x.1, .one (.d (.int .i64 x.2))]) (((if_neg (Bool.eq_false_iff.1 c1)).trans ((if_neg (Bool.eq_false_iff.1 c2)).trans (if_neg (Bool.eq_false_iff.1 c3)))) : behindB v g = _)).symm
theorem pc_ver_spanOf (it : It) (h1 : it.first.length < 4294967000) (h2 : it.last.length < 4294967000) :
  PureCall Tryz.prog J 292 [itV it] (.tup [spV (spanB it).1, .one (.d (.int .i64 (spanB it).2))]) := by
 have h3 := parse_e it.first
 refine PureCall.of_body tOk (fn := Tryz.f292) Tryz.func292 (by kernel_rfl) rfl (Nat.le_of_ble_eq_true rfl) (fun E => ?_)
 iterate 11 first|refine Yp rfl ?_|refine S.alloc tOk rfl rfl rfl rfl ?_|refine S.box rfl rfl rfl rfl ?_|apply Y1|apply Yn|apply Ys
 refine W.cond rfl (fun c1=>?_) fun c1=>?_
 ·skip
  iterate 7 first|refine Yp rfl ?_|apply Yu|apply Yt|refine S.store tOk rfl rfl rfl rfl rfl rfl rfl rfl ?_|apply Y1|apply Yn
  exact Yz rfl rfl rfl (congrArg (fun x : Sp × Int => V.tup [spV x.1, .one (.d (.int .i64 x.2))]) ((if_pos c1) : spanB it = _)).symm
 apply Yk
 apply Y3
 iterate 2 refine Yp rfl ?_
 refine S.call rfl rfl rfl rfl rfl (pc_ver_Parse it.first (by omega)) ?_
 iterate 12 first|refine Yp rfl ?_|refine S.store tOk rfl rfl rfl rfl rfl rfl rfl rfl ?_|refine S.alloc tOk rfl rfl rfl rfl ?_|apply Y1|apply Yn|apply Ys
 refine W.cond rfl (fun c2=>?_) fun c2=>?_
 ·skip
  iterate 8 first|refine Yp rfl ?_|apply Yu|apply Yt|refine S.store tOk rfl rfl rfl rfl rfl rfl rfl rfl ?_|apply Y1|apply Yn
  exact Yz rfl rfl rfl (congrArg (fun x : Sp × Int => V.tup [spV x.1, .one (.d (.int .i64 x.2))]) (((if_neg (Bool.eq_false_iff.1 c1)).trans (if_pos c2)) : spanB it = _)).symm
 iterate 12 first|refine Yp rfl ?_|apply Yb|apply Yk|apply Y1|apply Yn|apply Ys
 refine W.cond rfl (fun c3=>?_) fun c3=>?_
 ·skip
  iterate 9 first|refine Yp rfl ?_|apply Yu|apply Yv|apply Yt|refine S.store tOk rfl rfl rfl rfl rfl rfl rfl rfl ?_|apply Y1|apply Yn
  exact Yz rfl rfl rfl (congrArg (fun x : Sp × Int => V.tup [spV x.1, .one (.d (.int .i64 x.2))]) (((if_neg (Bool.eq_false_iff.1 c1)).trans ((if_neg (Bool.eq_false_iff.1 c2)).trans (if_pos c3))) : spanB it = _)).symm
 apply Y1
 iterate 2 refine Yp rfl ?_
 apply Yn
 refine W.cond rfl (fun c4=>?_) fun c4=>?_
 ·skip
  iterate 9 first|refine Yp rfl ?_|apply Yu|apply Yv|apply Yt|refine S.store tOk rfl rfl rfl rfl rfl rfl rfl rfl ?_|apply Y1|apply Yn
  exact Yz rfl rfl rfl (congrArg (fun x : Sp × Int => V.tup [spV x.1, .one (.d (.int .i64 x.2))]) (((if_neg (Bool.eq_false_iff.1 c1)).trans ((if_neg (Bool.eq_false_iff.1 c2)).trans ((if_neg (Bool.eq_false_iff.1 c3)).trans (if_pos c4)))) : spanB it = _)).symm
 apply Y1
 iterate 2 refine Yp rfl ?_
 apply Yn
 refine W.cond rfl (fun c5=>?_) fun c5=>?_
 ·skip
  apply Y1
  iterate 2 refine Yp rfl ?_
  refine S.call rfl rfl rfl rfl rfl (pc_ver_Parse it.last (by omega)) ?_
  iterate 17 first|refine Yp rfl ?_|refine S.store tOk rfl rfl rfl rfl rfl rfl rfl rfl ?_|apply Yu|apply Yv|apply Yt|refine S.alloc tOk rfl rfl rfl rfl ?_|apply Y3|apply Yn
  exact Yz rfl rfl rfl (congrArg (fun x : Sp × Int => V.tup [spV x.1, .one (.d (.int .i64 x.2))]) (((if_neg (Bool.eq_false_iff.1 c1)).trans ((if_neg (Bool.eq_false_iff.1 c2)).trans ((if_neg (Bool.eq_false_iff.1 c3)).trans ((if_neg (Bool.eq_false_iff.1 c4)).trans (if_pos c5))))) : spanB it = _)).symm
 apply Yk
 apply Yw
 apply Y3
 iterate 3 refine Yp rfl ?_
 refine S.call rfl rfl rfl rfl rfl (pc_ver_behind (parseB it.first).1 (by omega) it.sign) ?_
 iterate 15 first|refine Yp rfl ?_|refine S.store tOk rfl rfl rfl rfl rfl rfl rfl rfl ?_|apply Yt|refine S.alloc tOk rfl rfl rfl rfl ?_|apply Y3|apply Yn
 exact Yz rfl rfl rfl (congrArg (fun x : Sp × Int => V.tup [spV x.1, .one (.d (.int .i64 x.2))]) (((if_neg (Bool.eq_false_iff.1 c1)).trans ((if_neg (Bool.eq_false_iff.1 c2)).trans ((if_neg (Bool.eq_false_iff.1 c3)).trans ((if_neg (Bool.eq_false_iff.1 c4)).trans (if_neg (Bool.eq_false_iff.1 c5)))))) : spanB it = _)).symm
theorem pc_ver_ParseRange (s : List UInt8) (hs : s.length < 4294967000) :
  PureCall Tryz.prog J 263 [.one (.d (.str s))] (.tup [rgV (rangeB s).1, .one (.d (.int .i64 (rangeB s).2))]) := by
 have hmany := split_le s [44, 32]
 have hm := fun i => @split_at s [44, 32] i
 refine PureCall.of_body tOk (fn := Tryz.f263) Tryz.func263 (by kernel_rfl) rfl (Nat.le_of_ble_eq_true rfl) (fun E => ?_)
 iterate 10 first|refine Yp rfl ?_|refine S.alloc tOk rfl rfl rfl rfl ?_|apply Y1|apply Yn|apply Ys
 refine W.cond rfl (fun c1=>?_) fun c1=>?_
 ·skip
  iterate 7 first|refine Yp rfl ?_|apply Yu|apply Yt|refine S.store tOk rfl rfl rfl rfl rfl rfl rfl rfl ?_|apply Y1|apply Yn
  exact ⟨_, rfl, rfl, le_rgNil (rB_large c1)⟩
 iterate 7 first|refine Yp rfl ?_|apply Yk|apply Y1|apply Yn|apply Ys
 refine W.cond rfl (fun c2=>?_) fun c2=>?_
 ·skip
  iterate 7 first|refine Yp rfl ?_|apply Yu|apply Yt|refine S.store tOk rfl rfl rfl rfl rfl rfl rfl rfl ?_|apply Y1|apply Yn
  exact ⟨_, rfl, rfl, le_rgNil (rB_none c1 c2)⟩
 apply Yk
 apply Y3
 refine Yp rfl ?_
 apply Yn
 apply Ys
 apply Ys
 refine W.newRow 4 3 330 rfl ?_
 apply Yr
 refine Yp rfl ?_
 refine S.call rfl rfl rfl rfl rfl (pc_Split s [44, 32] (by omega) (by decide)) ?_
 iterate 2 refine Yp rfl ?_
 apply Yn
 apply Yb
 refine W.loop (fun k st => ∃ i : Nat, ∃ v : Nat, ∃ al : Bool, i ≤ (Lib.split s [44, 32]).length ∧ ((Lib.split s [44, 32]).take i).any badB = false ∧ k = (Lib.split s [44, 32]).length - i ∧ ∃ t b2 r2 m2, st = ⟨t, [[.d .nilsl]] ++ b2, [some ⟨al, v, 3, 330, (((Lib.split s [44, 32]).take i).map itD)⟩] ++ r2, [] ++ m2⟩ ∧ holdsL t [(2, .one (.ptr 0 0)), (4, .one (.row 0 v 0 (((Lib.split s [44, 32]).take i).map itD).length)), (23, .one (.d (.vec 1 ((Lib.split s [44, 32]).map fun x => [.str x])))), (24, .one (.d (.int .i64 (((Lib.split s [44, 32]).map fun x => ([.str x] : List D)).length : Int)))), (25, .one (.d (.int .i64 (i : Int))))]) ((Lib.split s [44, 32]).length) ⟨0, 0, false, Nat.zero_le _, by simp, rfl, _, _, _, _, rfl, rfl, rfl, rfl, rfl, rfl, trivial⟩ ?_
 rintro k0 _ ⟨i, v, al, f0_0, f0_1, rfl, t0, bb0, rr0, mm0, rfl, hh0⟩
 refine W.keepR _ _ _ _ _ _ _ hh0 rfl ?_
 apply Y1
 refine Yp rfl ?_
 apply Yn
 apply Ys
 refine W.cond rfl (fun c3=>?_) fun c3=>?_
 ·skip
  have hi := row_lt c3
  apply Yk
  apply Yn
  apply Ys
  apply Yb
  apply Y1
  refine YE rfl (row_ok hi) (row_at [] hi) rfl ?_
  iterate 4 first|refine Yp rfl ?_|apply Y3
  refine S.call rfl rfl rfl rfl rfl (pc_ver_itemOf ((Lib.split s [44, 32]).getD i []) (by have := hm i; omega)) ?_
  iterate 18 first|refine Yp rfl ?_|refine Yg rfl rfl tg ?_|refine S.store tOk rfl rfl rfl rfl rfl rfl rfl rfl ?_|refine S.alloc tOk rfl rfl rfl rfl ?_|apply Y1|apply Ys|apply Yn
  refine S.callG rfl rfl rfl rfl tg rfl rfl (fun _ => pc_ver_wrong (itemB ((Lib.split s [44, 32]).getD i [])).1.first (by have := hm i; have := item_le ((Lib.split s [44, 32]).getD i []); omega)) ?_
  refine S.pickAndG tOk zOk rfl rfl rfl tg tg ?_
  refine S.pickOr tOk zOk rfl rfl tg ?_
  refine Yp rfl ?_
  iterate 6 refine Yg rfl rfl tg ?_
  refine S.callG rfl rfl rfl rfl tg rfl rfl (fun _ => pc_ver_wrong (itemB ((Lib.split s [44, 32]).getD i [])).1.last (by have := hm i; have := item_le ((Lib.split s [44, 32]).getD i []); omega)) ?_
  refine S.pickAndG tOk zOk rfl rfl rfl tg tg ?_
  refine S.pickOr tOk zOk rfl rfl tg ?_
  apply Yn
  refine W.cond rfl (fun c4=>?_) fun c4=>?_
  ·skip
   iterate 12 first|apply Yu|apply Yv|refine Yp rfl ?_|apply Yt|refine S.store tOk rfl rfl rfl rfl rfl rfl rfl rfl ?_|apply Y1|apply Yn
   exact ⟨_, rfl, rfl, le_rgNil (rB_bad c1 c2 (any_hit (d := []) hi c4))⟩
  apply Yk
  apply Y4
  iterate 2 refine Yp rfl ?_
  refine S.slice tOk rfl rfl ?_
  refine S.append tOk rfl rfl rfl rfl rfl rfl rfl rfl rfl rfl rfl rfl (by show _ + 1 ≤ _; simp; omega) rfl (take_snoc [] hi) rfl ?_
  iterate 5 first|refine Yp rfl ?_|apply Yw|apply Y4
  refine loop_n ((Lib.split s [44, 32]).length - (i + 1)) (by omega) ⟨i + 1, _, _, hi, any_take (d := []) hi f0_1 c4, rfl, _, _, _, _, rfl, rfl, rfl, rfl, rfl, inc_i64 (by omega), trivial⟩
 have hi := row_ge c3
 apply Yq
 apply Ye
 apply Ye
 apply Yx
 apply Yn
 apply Ys
 refine W.freeze (q := ⟨_, _, _, _, _⟩) [4] rfl (by intro k hk; simp at hk; subst hk; rfl) ?_
 have hall := any_end hi f0_1
 have hts : (Lib.split s [44, 32]).take i = (Lib.split s [44, 32]) := List.take_of_length_le hi
 rw [hts]
 apply Yr
 refine Yp rfl ?_
 refine S.alloc tOk rfl rfl rfl rfl ?_
 refine S.store tOk rfl rfl rfl rfl rfl rfl rfl rfl ?_
 apply Yn
 apply Ys
 apply Ys
 refine W.newRowB 1 0 10 178 rfl rfl rfl ?_
 apply Yr
 iterate 3 refine Yp rfl ?_
 apply Yn
 apply Yb
 refine W.loop (fun k st => ∃ i : Nat, ∃ v : Nat, ∃ al : Bool, i ≤ (Lib.split s [44, 32]).length ∧ (((Lib.split s [44, 32]).map fun t => (spanB (itemB t).1).2).take i).all (· == 0) = true ∧ k = (Lib.split s [44, 32]).length - i ∧ ∃ t b2 r2 m2, st = ⟨t, [[.d .nilsl], [.row 1 v 0 ((((Lib.split s [44, 32]).take i).map spRes).map spD).length]] ++ b2, [none, some ⟨al, v, 10, 178, ((((Lib.split s [44, 32]).take i).map spRes).map spD)⟩] ++ r2, [] ++ m2⟩ ∧ holdsL t [(2, .one (.ptr 0 0)), (9, .one (.ptr 1 0)), (63, .one (.d (.vec 3 ((Lib.split s [44, 32]).map itD)))), (64, .one (.d (.int .i64 (((Lib.split s [44, 32]).map itD).length : Int)))), (65, .one (.d (.int .i64 (i : Int))))]) ((Lib.split s [44, 32]).length) ⟨0, 0, false, Nat.zero_le _, by simp, rfl, _, _, _, _, rfl, rfl, rfl, rfl, rfl, rfl, trivial⟩ ?_
 rintro k2 _ ⟨i, v, al, f2_0, f2_1, rfl, t2, bb2, rr2, mm2, rfl, hh2⟩
 refine W.keepR _ _ _ _ _ _ _ hh2 rfl ?_
 apply Y1
 refine Yp rfl ?_
 apply Yn
 apply Ys
 refine W.cond rfl (fun c5=>?_) fun c5=>?_
 ·skip
  have hi := row_lt c5
  apply Yk
  apply Yn
  apply Ys
  apply Yb
  apply Y1
  refine YE rfl (row_ok hi) (row_at [] hi) rfl ?_
  iterate 5 first|refine Yp rfl ?_|refine S.store tOk rfl rfl rfl rfl rfl rfl rfl rfl ?_|refine S.alloc tOk rfl rfl rfl rfl ?_|apply Y3
  refine S.call rfl rfl rfl rfl rfl (pc_ver_spanOf (itemB ((Lib.split s [44, 32]).getD i [])).1 (by have := hm i; have := item_le ((Lib.split s [44, 32]).getD i []); omega) (by have := hm i; have := item_le ((Lib.split s [44, 32]).getD i []); omega)) ?_
  iterate 12 first|refine Yp rfl ?_|refine S.store tOk rfl rfl rfl rfl rfl rfl rfl rfl ?_|refine S.alloc tOk rfl rfl rfl rfl ?_|apply Y1|apply Yn|apply Ys
  refine W.cond rfl (fun c6=>?_) fun c6=>?_
  ·skip
   iterate 13 first|apply Yu|refine Yp rfl ?_|apply Yv|apply Yt|refine S.store tOk rfl rfl rfl rfl rfl rfl rfl rfl ?_|apply Y1|apply Yn
   exact ⟨_, rfl, rfl, le_rgNil (rB_err c1 c2 hall (code_hit hi f2_1 c6) (by simpa using c6))⟩
  apply Yk
  apply Y4
  iterate 3 refine Yp rfl ?_
  refine S.slice tOk rfl rfl ?_
  refine S.append tOk rfl rfl rfl rfl rfl rfl rfl rfl rfl rfl rfl rfl (by show _ + 1 ≤ _; simp; omega) rfl (take_snoc2 [] hi) rfl ?_
  iterate 6 first|refine Yp rfl ?_|apply Yw|refine S.store tOk rfl rfl rfl rfl rfl rfl rfl rfl ?_|apply Y4
  refine loop_n ((Lib.split s [44, 32]).length - (i + 1)) (by omega) ⟨i + 1, _, _, hi, all_take_succ (d := 0) (by simpa using hi) f2_1 (code_go hi c6), rfl, _, _, _, _, rfl, rfl, rfl, rfl, rfl, inc_i64 (by omega), trivial⟩
 have hi := row_ge c5
 iterate 7 first|apply Ye|apply Yx|apply Yq|apply Ys|apply Yn
 refine W.freezeB (ri := 1) (q := ⟨_, _, _, _, _⟩) 1 0 rfl rfl rfl rfl ?_
 have hcode := code_end hi f2_1
 have hts2 : (Lib.split s [44, 32]).take i = (Lib.split s [44, 32]) := List.take_of_length_le hi
 rw [hts2]
 have hsp : ∀ u ∈ (Lib.split s [44, 32]).map spRes, SpLen u := fun u hu => by
  obtain ⟨x, hx, rfl⟩ := List.mem_map.1 hu
  have h1 := span_e x
  have h2 : x.length ≤ s.length := split_mem hx
  unfold spRes SpLen; omega
 apply Yr
 refine Yp rfl ?_
 refine S.call rfl rfl rfl rfl rfl (pc_ver_CheckRange ((Lib.split s [44, 32]).map spRes) (by have := c1; simp at this ⊢; omega) hsp) ?_
 iterate 5 first|refine Yp rfl ?_|apply Y3|apply Yn
 refine W.cond rfl (fun c7=>?_) fun c7=>?_
 ·skip
  iterate 8 first|refine Yp rfl ?_|apply Yu|apply Yt|refine S.store tOk rfl rfl rfl rfl rfl rfl rfl rfl ?_|apply Y1|apply Yn
  exact ⟨_, rfl, rfl, le_rgNil (rB_range c1 c2 hall hcode c7)⟩
 iterate 7 first|refine Yp rfl ?_|apply Yt|refine S.store tOk rfl rfl rfl rfl rfl rfl rfl rfl ?_|apply Yk|apply Y3|apply Yn
 exact ⟨_, rfl, rfl, le_rg (rB_ok c1 c2 hall hcode c7)⟩
end
section
open Go
open Go.RowKit
attribute [local irreducible] thenK blockK W
attribute [local irreducible] parseB nextB Lib.split Lib.trimPrefix Lib.hasPrefix
end
section
open Go
theorem first_of {c : UInt8} {s : List UInt8} (h : c ∈ s) : ∃ x y, s = x ++ c :: y ∧ c ∉ x := by
  induction s with
  | nil => cases h
  | cons a s ih =>
    by_cases ha : a = c
    · subst ha; exact ⟨[], s, rfl, by simp⟩
    · have h' : c ∈ s := by rcases List.mem_cons.1 h with h | h; exact absurd h.symm ha; exact h
      obtain ⟨x, y, rfl, hx⟩ := ih h'
      exact ⟨a :: x, y, rfl, by simp [hx, Ne.symm ha]⟩
theorem firstNe_zero : ∀ {l : List Int}, firstNe l = 0 → ∀ x ∈ l, x = 0
  | [], _, x, hx => by cases hx
  | a :: l, h, x, hx => by
    by_cases ha : a = 0
    · subst ha
      have h' : firstNe l = 0 := by simpa [firstNe] using h
      rcases List.mem_cons.1 hx with rfl | hx
      · rfl
      · exact firstNe_zero h' x hx
    · unfold firstNe at h
      rw [List.find?_cons, show (a != 0) = true by simpa using ha] at h
      exact absurd h ha
end
end Go.Proofs.YtpelfildfidnbaaGreatDoor
namespace Go.Proofs.YtpelfildfidnbaaGreatDoor
section
open Go
def withinB (s : Sp) (v : Ver) : Bool := (!s.hf || decide (orderB v s.f ≥ 0)) && (!s.ht || decide (orderB v s.t < 0))
def namesB (h : Bool) (e v : Ver) : Bool := (((h && !(e.e == [])) && e.a == v.a) && e.b == v.b) && e.c == v.c
def hasAt (n : Nat) (v : Ver) (s : Sp) : Bool :=
 withinB s v && (((v.e == [] || (((n : Int) == 1 && !s.hf) && !s.ht)) || namesB s.hf s.f v) || namesB s.ht s.t v)
def hasB (ss : List Sp) (v : Ver) : Bool := ss.any (hasAt ss.length v)
def HasB (ss : List Sp) (v : Ver) : Bool × Int := if rangeE ss != 0 then (false, rangeE ss) else if v.check != 0 then (false, v.check) else (hasB ss v, 0)
def insideR (s : Sp) (v : Ver) : Bool := !(s.hf && decide (compareR v s.f < 0)) && !(s.ht && decide (compareR v s.t ≥ 0))
def hasAtR (all : Bool) (v : Ver) (s : Sp) : Bool := insideR s v && (((v.e == [] || all) || namesB s.hf s.f v) || namesB s.ht s.t v)
def allR (ss : List Sp) : Bool := ((ss.length : Int) == 1 && !(ss.getD 0 Sp.z).hf) && !(ss.getD 0 Sp.z).ht
def hasR (ss : List Sp) (v : Ver) : Bool := ss.any (hasAtR (allR ss) v)
def idxOf {α : Type} (φ : α → Bool) : List α → Int
 | [] => -1
 | x :: l => if φ x then 0 else if idxOf φ l == -1 then -1 else idxOf φ l + 1
theorem idxOf_none {α : Type} {φ : α → Bool} : ∀ {l : List α}, l.any φ = false → idxOf φ l = -1
  | [], _ => rfl
  | x :: l, h => by
    simp only [List.any_cons, Bool.or_eq_false_iff] at h
    unfold idxOf
    rw [if_neg (by simp [h.1]), idxOf_none h.2]; rfl
theorem idxOf_at {α : Type} {φ : α → Bool} {d : α} : ∀ {l : List α} {i : Nat}, i < l.length → (l.take i).any φ = false → φ (l.getD i d) = true → idxOf φ l = i
  | [], i, h, _, _ => by simp at h
  | x :: l, 0, _, _, hp => by simp at hp; simp [idxOf, hp]
  | x :: l, i + 1, h, ht, hp => by
    simp only [List.take_succ_cons, List.any_cons, Bool.or_eq_false_iff] at ht
    have ih := idxOf_at (d := d) (l := l) (i := i) (by simpa using h) ht.2 (by simpa using hp)
    unfold idxOf
    rw [if_neg (by simp [ht.1]), ih, if_neg (by rw [beq_iff_eq]; omega)]; omega
theorem idxOf_ge {α : Type} {φ : α → Bool} : ∀ {l : List α}, decide (idxOf φ l ≥ 0) = l.any φ
  | [] => rfl
  | x :: l => by
    have ih := idxOf_ge (φ := φ) (l := l)
    simp only [List.any_cons]
    unfold idxOf
    cases hx : φ x with
    | true => simp
    | false =>
      rw [← ih]
      simp only [Bool.false_eq_true, if_false, Bool.false_or]
      by_cases h : idxOf φ l = -1
      · simp [h]
      · have hb : ∀ (l : List α), -1 ≤ idxOf φ l := fun l => by
          induction l with
          | nil => simp [idxOf]
          | cons y l ih => unfold idxOf; split; omega; split <;> omega
        have := hb l
        simp [h]; omega
end
section
open Go
structure Pre {α : Type} (c : α → α → Int) : Prop where
 neg : ∀ x y, c y x = -c x y
 trans : ∀ x y z, c x y ≤ 0 → c y z ≤ 0 → c x z ≤ 0
theorem Pre.on {α β : Type} {c : β → β → Int} (h : Pre c) (f : α → β) : Pre (fun x y => c (f x) (f y)) := ⟨fun x y => h.neg _ _, fun x y z => h.trans _ _ _⟩
theorem firstB_le {a b : Int} : firstB a b ≤ 0 ↔ a < 0 ∨ (a = 0 ∧ b ≤ 0) := by
 unfold firstB
 split
 ·skip
  rename_i h; simp at h; omega
 ·skip
  rename_i h; simp at h; omega
theorem Pre.lex {α : Type} {c d : α → α → Int} (h : Pre c) (k : Pre d) : Pre (fun x y => firstB (c x y) (d x y)) where
 neg x y := by
  show firstB (c y x) (d y x) = -firstB (c x y) (d x y)
  rw [h.neg x y, k.neg x y]
  unfold firstB
  by_cases h0 : c x y = 0
  ·skip
   rw [h0]; rfl
  ·skip
   rw [if_pos (by simpa using h0), if_pos (by simpa using h0)]
 trans x y z h1 h2 := by
  have h1 := firstB_le.1 h1
  have h2 := firstB_le.1 h2
  refine firstB_le.2 ?_
  have a1 := h.trans x y z
  have a2 := h.trans y z x
  have a3 := h.trans z x y
  have a4 := k.trans x y z
  have n1 := h.neg x y
  have n2 := h.neg y z
  have n3 := h.neg x z
  omega
theorem pre_int : Pre Lib.compareInt where
 neg x y := cmpInt_neg x y
 trans x y z := by
  unfold Lib.compareInt
  repeat' split
  all_goals omega
theorem cmpInt_0 {x y : Int} (h : Lib.compareInt x y = 0) : x = y := by
 unfold Lib.compareInt at h
 split at h
 ·skip
  omega
 ·skip
  split at h
  ·skip
   omega
  ·skip
   omega
def lexL {α : Type} (c : α → α → Int) : List α → List α → Int
 | [], [] => 0
 | [], _ :: _ => -1
 | _ :: _, [] => 1
 | x :: xs, y :: ys => firstB (c x y) (lexL c xs ys)
theorem lexL_pre {α : Type} {c : α → α → Int} (h : Pre c) : Pre (lexL c) where
 neg := by
  intro xs
  induction xs with
  | nil => intro ys; cases ys <;> rfl
  | cons x xs ih =>
   intro ys
   cases ys with
   | nil => rfl
   | cons y ys =>
    show firstB (c y x) (lexL c ys xs) = -firstB (c x y) (lexL c xs ys)
    rw [h.neg x y, ih ys]
    unfold firstB
    by_cases h0 : c x y = 0
    ·skip
     rw [h0]; rfl
    ·skip
     rw [if_pos (by simpa using h0), if_pos (by simpa using h0)]
 trans := by
  intro xs
  induction xs with
  | nil => intro ys zs h1 h2; cases zs <;> simp [lexL]
  | cons x xs ih =>
   intro ys zs h1 h2
   cases ys with
   | nil => simp [lexL] at h1
   | cons y ys =>
    cases zs with
    | nil => simp [lexL] at h2
    | cons z zs =>
     have h1 := firstB_le.1 h1
     have h2 := firstB_le.1 h2
     refine firstB_le.2 ?_
     have a1 := h.trans x y z
     have a2 := h.trans y z x
     have a3 := h.trans z x y
     have a4 := ih ys zs
     have n1 := h.neg x y
     have n2 := h.neg y z
     have n3 := h.neg x z
     omega
theorem firstB_0 {a b : Int} (h : firstB a b = 0) : a = 0 ∧ b = 0 := by
 unfold firstB at h
 by_cases h0 : a = 0
 ·skip
  subst h0; exact ⟨rfl, h⟩
 ·skip
  rw [if_pos (by simpa using h0)] at h; exact absurd h h0
theorem lexL_0 {α : Type} {c : α → α → Int} (h : ∀ x y, c x y = 0 → x = y) : ∀ {xs ys : List α}, lexL c xs ys = 0 → xs = ys
  | [], [], _ => rfl
  | [], _ :: _, e => by simp [lexL] at e
  | _ :: _, [], e => by simp [lexL] at e
  | x :: xs, y :: ys, e => by
    have e := firstB_0 e
    rw [h x y e.1, lexL_0 h e.2]
theorem bytes_lex : ∀ (a b : List UInt8), Lib.compareBytes a b = lexL (fun a b => Lib.compareInt (bI a) (bI b)) a b
  | [], [] => rfl
  | [], _ :: _ => rfl
  | _ :: _, [] => rfl
  | a :: l, b :: m => by
    have ih := bytes_lex l m
    show _ = firstB (Lib.compareInt (bI a) (bI b)) _
    by_cases h1 : a < b
    · have h1' : a.toNat < b.toNat := h1
      simp only [Lib.compareBytes, h1, if_true]
      rw [cmp_lt (show bI a < bI b by unfold bI; omega)]; rfl
    · have h1' : ¬ a.toNat < b.toNat := h1
      by_cases h2 : b < a
      · have h2' : b.toNat < a.toNat := h2
        simp only [Lib.compareBytes, h1, h2, if_true, if_false]
        rw [cmp_gt (show bI b < bI a by unfold bI; omega)]; rfl
      · have h2' : ¬ b.toNat < a.toNat := h2
        simp only [Lib.compareBytes, h1, h2, if_false]
        rw [show bI a = bI b by unfold bI; omega, cmp_refl]; exact ih
theorem bI_inj {a b : UInt8} (h : bI a = bI b) : a = b := by
 unfold bI at h
 exact UInt8.toNat_inj.1 (by omega)
theorem pre_bytes : Pre Lib.compareBytes := by
 have h : Lib.compareBytes = lexL (fun a b => Lib.compareInt (bI a) (bI b)) := funext fun a => funext fun b => bytes_lex a b
 rw [h]
 exact lexL_pre (pre_int.on bI)
theorem bytes_0 {a b : List UInt8} (h : Lib.compareBytes a b = 0) : a = b := by
 rw [bytes_lex] at h
 exact lexL_0 (fun x y e => bI_inj (cmpInt_0 e)) h
def nfl (a : List UInt8) : Int := if numeralB a then 0 else 1
def nln (a : List UInt8) : Int := if numeralB a then (a.length : Int) else 0
theorem cwB_lex (a b : List UInt8) : cwB a b = firstB (Lib.compareInt (nfl a) (nfl b)) (firstB (Lib.compareInt (nln a) (nln b)) (Lib.compareBytes a b)) := by
  unfold cwB nfl nln
  cases ha : numeralB a <;> cases hb : numeralB b <;> simp only [Bool.and_true, Bool.and_false, Bool.false_and, Bool.true_and, if_true, if_false, Bool.false_eq_true]
  · rw [cmp_refl, cmp_refl]; rfl
  · rfl
  · rfl
  · rw [cmp_refl]
    by_cases h : (a.length : Int) = b.length
    · rw [h, cmp_refl]; simp [firstB]
    · rw [if_pos (by simpa using h)]
      have : Lib.compareInt a.length b.length ≠ 0 := fun e => h (cmpInt_0 e)
      unfold firstB
      rw [if_neg (by simp), if_pos (by simpa using this)]
theorem pre_cw : Pre cwB := by
 have h : cwB = fun a b => firstB (Lib.compareInt (nfl a) (nfl b)) (firstB (Lib.compareInt (nln a) (nln b)) (Lib.compareBytes a b)) := funext fun a => funext fun b => cwB_lex a b
 rw [h]
 exact (pre_int.on nfl).lex ((pre_int.on nln).lex pre_bytes)
theorem cw_0 {a b : List UInt8} (h : cwB a b = 0) : a = b := by
 rw [cwB_lex] at h
 exact bytes_0 (firstB_0 (firstB_0 h).2).2
theorem firstNe_cons (a : Int) (l : List Int) : firstNe (a :: l) = firstB a (firstNe l) := by
 unfold firstNe firstB
 rw [List.find?_cons]
 by_cases h : a = 0
 ·skip
  subst h; simp
 ·skip
  rw [show (a != 0) = true by simpa using h]; rfl
theorem firstB_assoc (a b c : Int) : firstB (firstB a b) c = firstB a (firstB b c) := by
 unfold firstB
 by_cases h : a = 0
 ·skip
  subst h; simp
 ·skip
  simp [h]
theorem rows_first (xs ys : List (List UInt8)) : rowsB xs ys = firstB (firstNe (List.zipWith cwB xs ys)) (Lib.compareInt xs.length ys.length) := rfl
theorem rows_lex : ∀ (xs ys : List (List UInt8)), rowsB xs ys = lexL cwB xs ys
  | [], [] => by decide
  | [], y :: ys => by
    rw [rows_first, List.zipWith_nil_left, show firstNe [] = 0 from rfl, cmp_lt (by simp <;> omega)]; rfl
  | x :: xs, [] => by
    rw [rows_first, List.zipWith_nil_right, show firstNe [] = 0 from rfl, cmp_gt (by simp <;> omega)]; rfl
  | x :: xs, y :: ys => by
    have ih := rows_lex xs ys
    show _ = firstB (cwB x y) (lexL cwB xs ys)
    rw [← ih, rows_first, rows_first, List.zipWith_cons_cons, firstNe_cons, firstB_assoc]
    have e2 : Lib.compareInt ((x :: xs).length : Int) ((y :: ys).length : Int) = Lib.compareInt xs.length ys.length := by
      simp only [List.length_cons]
      unfold Lib.compareInt
      repeat' split
      all_goals omega
    rw [e2]
theorem join_split1 (c : UInt8) : ∀ (n : Nat) (s : List UInt8), s.length ≤ n → Lib.join (Lib.split s [c]) [c] = s
  | n, s, hn => by
    by_cases h : c ∈ s
    · obtain ⟨x, y, e, hx⟩ := first_of h
      subst e
      rw [split_cons hx]
      match n with
      | 0 => simp at hn
      | n + 1 =>
        have ih := join_split1 c n y (by simp at hn; omega)
        have hp := split_pos y [c]
        match hq : Lib.split y [c] with
        | [] => rw [hq] at hp; simp at hp
        | p :: q =>
          rw [hq] at ih
          show Lib.join (x :: p :: q) [c] = _
          rw [show Lib.join (x :: p :: q) [c] = x ++ [c] ++ Lib.join (p :: q) [c] by simp [Lib.join, List.intercalate, List.intersperse], ih]
          simp
    · rw [split_none h]; simp [Lib.join, List.intercalate, List.intersperse]
def efl (a : List UInt8) : Int := if a == [] then 0 else 1
theorem ce_lex (a b : List UInt8) : ceB a b = firstB (Lib.compareInt (efl b) (efl a)) (rowsB (Lib.split a [46]) (Lib.split b [46])) := by
  unfold ceB efl
  by_cases h : a = b
  · subst h; rw [cmp_refl, rows_refl]; simp [firstB]
  · rw [if_neg (by simpa using h)]
    cases ha : (a == []) <;> cases hb : (b == [])
    · simp only [Bool.false_eq_true, if_false]; rw [cmp_refl]; rfl
    · rfl
    · rfl
    · exact absurd ((by simpa using ha : a = []).trans (by simpa using hb : b = []).symm) h
theorem pre_rows : Pre rowsB := by
 rw [show rowsB = lexL cwB from funext fun a => funext fun b => rows_lex a b]
 exact lexL_pre pre_cw
theorem pre_ce : Pre ceB := by
 have h : ceB = fun a b => firstB (Lib.compareInt (efl b) (efl a)) (rowsB (Lib.split a [46]) (Lib.split b [46])) := funext fun a => funext fun b => ce_lex a b
 rw [h]
 refine Pre.lex (c := fun a b => Lib.compareInt (efl b) (efl a)) ⟨fun x y => pre_int.neg _ _, fun x y z h1 h2 => pre_int.trans _ _ _ h2 h1⟩ (pre_rows.on fun a => Lib.split a [46])
theorem ce_0 {a b : List UInt8} (h : ceB a b = 0) : a = b := by
 rw [ce_lex, rows_lex] at h
 have h2 := lexL_0 (fun x y e => cw_0 e) (firstB_0 h).2
 rw [← join_split1 46 _ a (Nat.le_refl _), h2, join_split1 46 _ b (Nat.le_refl _)]
theorem order_lex (v w : Ver) : orderB v w = firstB (Lib.compareInt v.a w.a) (firstB (Lib.compareInt v.b w.b) (firstB (Lib.compareInt v.c w.c) (ceB v.e w.e))) := by
 unfold orderB
 rw [firstNe_cons, firstNe_cons, firstNe_cons, first1]
theorem pre_order : Pre orderB := by
 have h : orderB = fun v w => firstB (Lib.compareInt v.a w.a) (firstB (Lib.compareInt v.b w.b) (firstB (Lib.compareInt v.c w.c) (ceB v.e w.e))) := funext fun a => funext fun b => order_lex a b
 rw [h]
 exact (pre_int.on Ver.a).lex ((pre_int.on Ver.b).lex ((pre_int.on Ver.c).lex (pre_ce.on Ver.e)))
theorem order_0 {v w : Ver} (h : orderB v w = 0) : v = w := by
 rw [order_lex] at h
 have h1 := firstB_0 h
 have h2 := firstB_0 h1.2
 have h3 := firstB_0 h2.2
 have e1 := cmpInt_0 h1.1
 have e2 := cmpInt_0 h2.1
 have e3 := cmpInt_0 h3.1
 have e4 := ce_0 h3.2
 cases v; cases w; simp_all
theorem order_refl (v : Ver) : orderB v v = 0 := by have := pre_order.neg v v; omega
end
end Go.Proofs.YtpelfildfidnbaaGreatDoor
namespace Go.Proofs.YtpelfildfidnbaaGreatDoor
section
open Go
theorem take_getD {α : Type} {l : List α} {i : Nat} {d : α} (h : i < l.length) : l.take (i + 1) = l.take i ++ [l.getD i d] := by
 rw [List.take_succ_eq_append_getElem h, List.getD_eq_getElem?_getD, List.getElem?_eq_getElem h]; rfl
end
section
open Go
inductive CT where
 | mk (k : Int) (n v : List UInt8) (l : List CT)
mutual
def CT.d : CT → List D
  | .mk k n v l => [.int .i64 k, .str n, .str v, .vec 4 (CT.ds l)]
def CT.ds : List CT → List (List D)
  | [] => []
  | c :: l => c.d :: CT.ds l
end
theorem ds_map : ∀ (l : List CT), CT.ds l = l.map CT.d
  | [] => rfl
  | c :: l => by
    show c.d :: CT.ds l = _
    rw [ds_map l]; rfl
def CT.z : CT := .mk 0 [] [] []
def CT.k : CT → Int | .mk k _ _ _ => k
def CT.n : CT → List UInt8 | .mk _ n _ _ => n
def CT.v : CT → List UInt8 | .mk _ _ v _ => v
def CT.l : CT → List CT | .mk _ _ _ l => l
mutual
def CT.w : CT → Nat
  | .mk _ _ _ l => CT.ws l + 1
def CT.ws : List CT → Nat
  | [] => 0
  | c :: l => c.w + CT.ws l
end
theorem ws_mem : ∀ {l : List CT} {a : CT}, a ∈ l → a.w ≤ CT.ws l
  | c :: l, a, h => by
    show a.w ≤ c.w + CT.ws l
    rcases List.mem_cons.1 h with rfl | h
    · omega
    · have := ws_mem h; omega
theorem CT.sz {c a : CT} (h : a ∈ c.l) : a.w < c.w := by
 cases c with
 | mk k n v l =>
  have h2 : a.w ≤ CT.ws l := ws_mem h
  show a.w < CT.ws l + 1
  omega
theorem CT.pos (c : CT) : 0 < c.w := by cases c; show 0 < CT.ws _ + 1; omega
abbrev ctV (c : CT) : V := .agg [.d (.int .i64 c.k), .d (.str c.n), .d (.str c.v), .d (.vec 4 (CT.ds c.l))]
theorem ct_d (c : CT) : c.d = [.int .i64 c.k, .str c.n, .str c.v, .vec 4 (CT.ds c.l)] := by cases c; rfl
def partP (k : Int) (n v : List UInt8) (m : Int) : Int :=
 if decide (k < 1) || decide (k > 8) then 1
 else if (((!(decide (k ≥ 2) && decide (k ≤ 5)) && !(n == [])) || (!((decide (k ≥ 2) && decide (k ≤ 5)) && k != 4) && !(v == []))) || (!decide (k ≥ 6) && decide (m > 0))) || (k == 6 && m != 1) then 2
 else if !(decide (k ≥ 2) && decide (k ≤ 5)) then 0
 else if !(if (k == 3 || k == 4) then pathB n else nameB n) then 5
 else if !valueB v then 2
 else if k == 5 then (rangeB v).2 else 0
def CT.part (c : CT) : Int := partP c.k c.n c.v (c.l.length : Int)
def up1 (n : Int) : Int := IntKind.i64.wrap (n + 1)
def visits {S : Type} (g : CT → S → Bool × S) : List CT → S → Bool × S
 | [], s => (true, s)
 | c :: l, s => if (g c s).1 then visits g l (g c s).2 else (false, (g c s).2)
theorem visits_nil {S : Type} {g : CT → S → Bool × S} {l : List CT} {s : S} : visits g (l.take 0) s = (true, s) := rfl
theorem visits_congr {S : Type} {g g' : CT → S → Bool × S} : ∀ {l : List CT}, (∀ c ∈ l, g c = g' c) → visits g l = visits g' l
  | [], _ => rfl
  | c :: l, h => by
    funext s
    have ih := visits_congr (l := l) (fun c hc => h c (List.mem_cons_of_mem _ hc))
    unfold visits
    rw [h c List.mem_cons_self, ih]
def visitN {S : Type} (f : CT → Int → S → Bool × S) : Nat → CT → Int → S → Bool × S
 | 0, c, lv, s => (true, s)
 | fuel + 1, c, lv, s => if (f c lv s).1 then visits (fun a => visitN f fuel a (up1 lv)) c.l (f c lv s).2 else (false, (f c lv s).2)
def visit {S : Type} (f : CT → Int → S → Bool × S) (c : CT) (lv : Int) (s : S) : Bool × S := visitN f c.w c lv s
theorem visitN_fuel {S : Type} (f : CT → Int → S → Bool × S) : ∀ (n m : Nat) (c : CT) (lv : Int), c.w ≤ n → c.w ≤ m → visitN f n c lv = visitN f m c lv
  | 0, m, c, lv, h, _ => by have := c.pos; omega
  | n + 1, 0, c, lv, _, h => by have := c.pos; omega
  | n + 1, m + 1, c, lv, h, h' => by
    funext s
    show (if (f c lv s).1 then visits (fun a => visitN f n a (up1 lv)) c.l (f c lv s).2 else _) = (if (f c lv s).1 then visits (fun a => visitN f m a (up1 lv)) c.l (f c lv s).2 else _)
    rw [visits_congr (fun a ha => visitN_fuel f n m a (up1 lv) (by have := CT.sz ha; omega) (by have := CT.sz ha; omega))]
theorem visit_eq {S : Type} (f : CT → Int → S → Bool × S) (c : CT) (lv : Int) (s : S) :
  visit f c lv s = if (f c lv s).1 then visits (fun a => visit f a (up1 lv)) c.l (f c lv s).2 else (false, (f c lv s).2) := by
 unfold visit
 obtain ⟨n, hn⟩ : ∃ n, c.w = n + 1 := ⟨c.w - 1, by have := c.pos; omega⟩
 rw [hn]
 show (if (f c lv s).1 then visits (fun a => visitN f n a (up1 lv)) c.l (f c lv s).2 else _) = _
 rw [visits_congr (fun a ha => visitN_fuel f n a.w a (up1 lv) (by have := CT.sz ha; omega) (Nat.le_refl _))]
theorem visit_no {S : Type} {f : CT → Int → S → Bool × S} {c : CT} {lv : Int} {s : S} (h : (f c lv s).1 = false) : visit f c lv s = (false, (f c lv s).2) := by rw [visit_eq, h]; simp
theorem visits_snoc {S : Type} {g : CT → S → Bool × S} : ∀ {l : List CT} {a : CT} {s s' : S}, visits g l s = (true, s') → visits g (l ++ [a]) s = g a s'
  | [], a, s, s', h => by
    have h2 : s = s' := (Prod.mk.inj h).2
    subst h2
    show (if (g a s).1 then (true, (g a s).2) else (false, (g a s).2)) = g a s
    cases h : g a s with
    | mk b q => cases b <;> rfl
  | c :: l, a, s, s', h => by
    unfold visits at h
    show (if (g c s).1 then visits g (l ++ [a]) (g c s).2 else _) = _
    cases hc : (g c s).1 with
    | true => rw [hc, if_pos rfl] at h; rw [if_pos rfl]; exact visits_snoc h
    | false => rw [hc] at h; simp at h
theorem visits_stop {S : Type} {g : CT → S → Bool × S} : ∀ {l : List CT} {i : Nat} {s s' : S}, i < l.length → visits g (l.take i) s = (true, s') → (g (l.getD i CT.z) s').1 = false → visits g l s = (false, (g (l.getD i CT.z) s').2)
  | [], i, s, s', hi, _, _ => by simp at hi
  | c :: l, 0, s, s', _, h, hc => by
    have h2 : s = s' := (Prod.mk.inj h).2
    subst h2
    have hc : (g c s).1 = false := hc
    show (if (g c s).1 then _ else (false, (g c s).2)) = _
    rw [hc]; rfl
  | c :: l, i + 1, s, s', hi, h, hc => by
    have h : (if (g c s).1 then visits g (l.take i) (g c s).2 else (false, (g c s).2)) = (true, s') := h
    show (if (g c s).1 then visits g l (g c s).2 else _) = _
    cases hq : (g c s).1 with
    | true => rw [hq, if_pos rfl] at h; rw [if_pos rfl]; exact visits_stop (by simpa using hi) h hc
    | false => rw [hq] at h; simp at h
def cc1 (c : CT) (lv : Int) (s : Int × Bool) : Bool × (Int × Bool) := (decide (up1 s.1 ≤ 100), (up1 s.1, s.2 || decide (lv > 20)))
def cc2 (c : CT) (lv : Int) (s : Int) : Bool × Int := (c.part == 0, c.part)
def checkP (c : CT) : Int :=
 if decide ((visit cc1 c 0 (0, false)).2.1 > 100) then 4
 else if (visit cc2 c 0 0).2 == 0 && (visit cc1 c 0 (0, false)).2.2 then 4 else (visit cc2 c 0 0).2
theorem getD_map_ct {l : List CT} {i : Nat} (h : i < l.length) : V.one (.eptr ((l.map CT.d).getD ((i : Int)).toNat [])) = V.one (.eptr [.int .i64 (l.getD i CT.z).k, .str (l.getD i CT.z).n, .str (l.getD i CT.z).v, .vec 4 (CT.ds (l.getD i CT.z).l)]) :=
 (row_at (f := CT.d) CT.z h).trans (by rw [ct_d])
theorem take_ct {l : List CT} {i : Nat} (h : i < l.length) : l.take (i + 1) = l.take i ++ [l.getD i CT.z] := by
 rw [List.take_succ_eq_append_getElem h, List.getD_eq_getElem?_getD, List.getElem?_eq_getElem h]; rfl
theorem mem_ct {l : List CT} {i : Nat} (h : i < l.length) : l.getD i CT.z ∈ l := by
 rw [List.getD_eq_getElem?_getD, List.getElem?_eq_getElem h]; exact List.getElem_mem h
inductive CtBig : CT → Prop where
 | mk (k : Int) (n v : List UInt8) (l : List CT) (h1 : n.length < 4294967000) (h2 : v.length < 4294967000) (h3 : ∀ a ∈ l, CtBig a) (h4 : l.length < 4294967000) : CtBig (.mk k n v l)
theorem CtBig.n {c : CT} (h : CtBig c) : c.n.length < 4294967000 := by cases h; assumption
theorem CtBig.v {c : CT} (h : CtBig c) : c.v.length < 4294967000 := by cases h; assumption
theorem CtBig.ll {c : CT} (h : CtBig c) : c.l.length < 4294967000 := by cases h; assumption
theorem CtBig.l {c : CT} (h : CtBig c) : ∀ a ∈ c.l, CtBig a := by cases h; assumption
theorem visit_go {S : Type} {f : CT → Int → S → Bool × S} {c : CT} {lv : Int} {s : S} (h : (f c lv s).1 = true) : visit f c lv s = visits (fun a => visit f a (up1 lv)) c.l (f c lv s).2 := by rw [visit_eq, h]; simp
theorem visit_stop {S : Type} {f : CT → Int → S → Bool × S} {c : CT} {lv : Int} {s s' : S} {i : Nat} (h : (f c lv s).1 = true) (hi : i < c.l.length) (hv : visits (fun a => visit f a (up1 lv)) (c.l.take i) (f c lv s).2 = (true, s')) (hc : (visit f (c.l.getD i CT.z) (up1 lv) s').1 = false) :
  visit f c lv s = (false, (visit f (c.l.getD i CT.z) (up1 lv) s').2) := by rw [visit_go h]; exact visits_stop hi hv hc
theorem visit_all {S : Type} {f : CT → Int → S → Bool × S} {c : CT} {lv : Int} {s s' : S} {i : Nat} (h : (f c lv s).1 = true) (hi : c.l.length ≤ i) (hv : visits (fun a => visit f a (up1 lv)) (c.l.take i) (f c lv s).2 = (true, s')) :
  visit f c lv s = (true, s') := by rw [visit_go h, ← hv, List.take_of_length_le hi]
theorem visit_next {S : Type} {f : CT → Int → S → Bool × S} {c : CT} {lv : Int} {s s' : S} {i : Nat} (hi : i < c.l.length) (hv : visits (fun a => visit f a (up1 lv)) (c.l.take i) s = (true, s')) (hc : (visit f (c.l.getD i CT.z) (up1 lv) s').1 = true) :
  visits (fun a => visit f a (up1 lv)) (c.l.take (i + 1)) s = (true, (visit f (c.l.getD i CT.z) (up1 lv) s').2) := by
 rw [take_ct hi, visits_snoc hv]; exact Prod.ext hc rfl
theorem check_0 : checkP (.mk 1 [] [] []) = 0 := by rfl
end
section
open Go
open Go.RowKit
attribute [local irreducible] thenK blockK W
attribute [local irreducible] rangeB pathB nameB valueB visit visits
theorem part_eq {x : Int} {n v : List UInt8} {m : Int} {b : Bool} (c1 : (decide (x < 1) || decide (x > 8)) = false)
  (c2 : ((((!(decide (x ≥ 2) && decide (x ≤ 5)) && !(n == [])) || (!((decide (x ≥ 2) && decide (x ≤ 5)) && x != 4) && !(v == []))) || (!decide (x ≥ 6) && decide (m > 0))) || (x == 6 && m != 1)) = false)
  (c3 : (!(decide (x ≥ 2) && decide (x ≤ 5))) = false) (hb : (if (x == 3 || x == 4) = true then pathB n else nameB n) = b) : partP x n v m = if (!b) = true then 5 else if (!valueB v) = true then 2 else if (x == 5) = true then (rangeB v).2 else 0 := by
 unfold partP
 rw [if_neg (Bool.eq_false_iff.1 c1), if_neg (Bool.eq_false_iff.1 c2), if_neg (Bool.eq_false_iff.1 c3), hb]
theorem pc_ver_partFault (x : Int) (n v : List UInt8) (xs : List (List D)) (hn : n.length < 4294967000) (hv : v.length < 4294967000) :
  PureCall Tryz.prog J 228 [.agg [.d (.int .i64 x), .d (.str n), .d (.str v), .d (.vec 4 xs)]] (.one (.d (.int .i64 (partP x n v (xs.length : Int))))) := by
 refine PureCall.of_body tOk (fn := Tryz.f228) Tryz.func228 (by kernel_rfl) rfl (Nat.le_of_ble_eq_true rfl) (fun E => ?_)
 iterate 15 first|refine S.pickOr tOk zOk rfl rfl tg ?_|refine Yp rfl ?_|refine Yg rfl rfl tg ?_|refine S.box rfl rfl rfl rfl ?_|apply Y1|apply Yn|apply Ys
 refine W.cond rfl (fun c1=>?_) fun c1=>?_
 ·skip
  apply Y1
  refine Yp rfl ?_
  apply Yn
  apply Yt
  apply Yu
  exact Yz rfl rfl rfl (congrArg (fun x : Int => V.one (C.d (D.int .i64 x))) ((if_pos c1) : partP x n v (xs.length : Int) = _)).symm
 apply Yk
 iterate 64 first|refine S.pickOr tOk zOk rfl rfl tg ?_|refine S.pickAndG tOk zOk rfl rfl rfl tg tg ?_|refine S.pickAnd tOk zOk rfl rfl tg ?_|refine Yg rfl rfl tg ?_|refine Yp rfl ?_|apply Y3|apply Y1|apply Yn|apply Ys
 refine W.cond rfl (fun c2=>?_) fun c2=>?_
 ·skip
  apply Y1
  refine Yp rfl ?_
  apply Yn
  apply Yt
  apply Yu
  exact Yz rfl rfl rfl (congrArg (fun x : Int => V.one (C.d (D.int .i64 x))) (((if_neg (Bool.eq_false_iff.1 c1)).trans (if_pos c2)) : partP x n v (xs.length : Int) = _)).symm
 iterate 7 first|refine Yp rfl ?_|apply Yk|apply Y1|apply Yn|apply Ys
 refine W.cond rfl (fun c3=>?_) fun c3=>?_
 ·skip
  apply Y1
  refine Yp rfl ?_
  apply Yn
  apply Yt
  apply Yu
  exact Yz rfl rfl rfl (congrArg (fun x : Int => V.one (C.d (D.int .i64 x))) (((if_neg (Bool.eq_false_iff.1 c1)).trans ((if_neg (Bool.eq_false_iff.1 c2)).trans (if_pos c3))) : partP x n v (xs.length : Int) = _)).symm
 iterate 15 first|refine S.pickOr tOk zOk rfl rfl tg ?_|refine Yp rfl ?_|refine Yg rfl rfl tg ?_|apply Yk|apply Y1|apply Y3|apply Yn|apply Ys
 refine W.cond rfl (fun c4=>?_) fun c4=>?_
 ·skip
  iterate 8 first|refine Yp rfl ?_|apply Y1|apply Ys|apply Yn|apply Yr
  refine S.call rfl rfl rfl rfl rfl (pc_ver_IsPath n (by omega)) ?_
  refine Yp rfl ?_
  apply Yn
  refine W.cond rfl (fun c5=>?_) fun c5=>?_
  ·skip
   apply Y1
   refine Yp rfl ?_
   apply Yn
   apply Yt
   apply Yu
   exact Yz rfl rfl rfl (by rw [part_eq c1 c2 c3 (if_pos c4), if_pos c5] <;> rfl)
  iterate 6 first|refine Yp rfl ?_|apply Yk|apply Y1|apply Ys|apply Yn
  refine S.call rfl rfl rfl rfl rfl (pc_ver_IsValue v (by omega)) ?_
  refine Yp rfl ?_
  apply Yn
  refine W.cond rfl (fun c6=>?_) fun c6=>?_
  ·skip
   apply Y1
   refine Yp rfl ?_
   apply Yn
   apply Yt
   apply Yu
   exact Yz rfl rfl rfl (by rw [part_eq c1 c2 c3 (if_pos c4), if_neg (Bool.eq_false_iff.1 c5), if_pos c6] <;> rfl)
  iterate 8 first|refine Yp rfl ?_|apply Yk|apply Y1|apply Yn|apply Ys
  refine W.cond rfl (fun c7=>?_) fun c7=>?_
  ·skip
   apply Y1
   iterate 2 refine Yp rfl ?_
   refine S.call rfl rfl rfl rfl rfl (pc_ver_ParseRange v hv) ?_
   iterate 12 first|refine Yp rfl ?_|apply Yu|apply Yt|refine S.store tOk rfl rfl rfl rfl rfl rfl rfl rfl ?_|refine S.alloc tOk rfl rfl rfl rfl ?_|apply Y3|apply Yn
   exact Yz rfl rfl rfl (by rw [part_eq c1 c2 c3 (if_pos c4), if_neg (Bool.eq_false_iff.1 c5), if_neg (Bool.eq_false_iff.1 c6), if_pos c7] <;> rfl)
  apply Yk
  apply Y3
  refine Yp rfl ?_
  apply Yn
  apply Yt
  exact Yz rfl rfl rfl (by rw [part_eq c1 c2 c3 (if_pos c4), if_neg (Bool.eq_false_iff.1 c5), if_neg (Bool.eq_false_iff.1 c6), if_neg (Bool.eq_false_iff.1 c7)] <;> rfl)
 apply Yk
 apply Yn
 apply Ys
 apply Y1
 iterate 3 refine Yp rfl ?_
 refine S.call rfl rfl rfl rfl rfl (pc_ver_IsName n (by omega)) ?_
 refine Yp rfl ?_
 apply Yn
 refine W.cond rfl (fun c8=>?_) fun c8=>?_
 ·skip
  apply Y1
  refine Yp rfl ?_
  apply Yn
  apply Yt
  apply Yu
  exact Yz rfl rfl rfl (by rw [part_eq c1 c2 c3 (if_neg (Bool.eq_false_iff.1 c4)), if_pos c8] <;> rfl)
 apply Yk
 apply Yn
 apply Ys
 apply Y1
 iterate 2 refine Yp rfl ?_
 refine S.call rfl rfl rfl rfl rfl (pc_ver_IsValue v (by omega)) ?_
 refine Yp rfl ?_
 apply Yn
 refine W.cond rfl (fun c9=>?_) fun c9=>?_
 ·skip
  apply Y1
  refine Yp rfl ?_
  apply Yn
  apply Yt
  apply Yu
  exact Yz rfl rfl rfl (by rw [part_eq c1 c2 c3 (if_neg (Bool.eq_false_iff.1 c4)), if_neg (Bool.eq_false_iff.1 c8), if_pos c9] <;> rfl)
 iterate 8 first|refine Yp rfl ?_|apply Yk|apply Y1|apply Yn|apply Ys
 refine W.cond rfl (fun c10=>?_) fun c10=>?_
 ·skip
  apply Y1
  iterate 2 refine Yp rfl ?_
  refine S.call rfl rfl rfl rfl rfl (pc_ver_ParseRange v hv) ?_
  iterate 12 first|refine Yp rfl ?_|apply Yu|apply Yt|refine S.store tOk rfl rfl rfl rfl rfl rfl rfl rfl ?_|refine S.alloc tOk rfl rfl rfl rfl ?_|apply Y3|apply Yn
  exact Yz rfl rfl rfl (by rw [part_eq c1 c2 c3 (if_neg (Bool.eq_false_iff.1 c4)), if_neg (Bool.eq_false_iff.1 c8), if_neg (Bool.eq_false_iff.1 c9), if_pos c10] <;> rfl)
 apply Yk
 apply Y3
 refine Yp rfl ?_
 apply Yn
 apply Yt
 exact Yz rfl rfl rfl (by rw [part_eq c1 c2 c3 (if_neg (Bool.eq_false_iff.1 c4)), if_neg (Bool.eq_false_iff.1 c8), if_neg (Bool.eq_false_iff.1 c9), if_neg (Bool.eq_false_iff.1 c10)] <;> rfl)
theorem pc_cc1 (x : Int) (n v : List UInt8) (xs : List (List D)) (lv p : Int) (d : Bool) :
  HCall Tryz.prog J 226 ([.agg [.d (.int .i64 x), .d (.str n), .d (.str v), .d (.vec 4 xs)], .one (.d (.int .i64 lv)), .one (.ptr 0 0), .one (.ptr 1 0)]) ([[.d (.int .i64 p)], [.d (.bool d)]]) ([]) ([]) (isH (.one (.d (.bool (decide (up1 p ≤ 100))))) ([[.d (.int .i64 (up1 p))], [.d (.bool (d || decide (lv > 20)))]]) ([]) ([])) := by
 refine HCall.ofD tOk ⟨2, 0, 0⟩ (fn := Tryz.f226) Tryz.func226 (by kernel_rfl) rfl (Nat.le_of_ble_eq_true rfl) (fun E => ?_)
 iterate 20 first|refine S.pickOr tOk zOk rfl rfl tg ?_|refine Yp rfl ?_|refine S.store tOk rfl rfl rfl rfl rfl rfl rfl rfl ?_|refine Yg rfl rfl tg ?_|apply Yt|refine S.box rfl rfl rfl rfl ?_|apply Y3|apply Y1|apply Yn
 exact ⟨_, rfl, rfl, LeG.refl _, rfl, rfl, rfl⟩
theorem pc_cc2 (x : Int) (n v : List UInt8) (xs : List (List D)) (hn : n.length < 4294967000) (hv : v.length < 4294967000) (lv e : Int) :
  HCall Tryz.prog J 227 ([.agg [.d (.int .i64 x), .d (.str n), .d (.str v), .d (.vec 4 xs)], .one (.d (.int .i64 lv)), .one (.ptr 0 0)]) ([[.d (.int .i64 e)]]) ([]) ([]) (isH (.one (.d (.bool (partP x n v (xs.length : Int) == 0)))) ([[.d (.int .i64 (partP x n v (xs.length : Int)))]]) ([]) ([])) := by
 refine HCall.ofD tOk ⟨1, 0, 0⟩ (fn := Tryz.f227) Tryz.func227 (by kernel_rfl) rfl (Nat.le_of_ble_eq_true rfl) (fun E => ?_)
 iterate 5 first|refine Yp rfl ?_|refine S.box rfl rfl rfl rfl ?_|apply Y3|apply Y1
 refine S.call rfl rfl rfl rfl rfl (pc_ver_partFault x n v xs hn hv) ?_
 refine S.store tOk rfl rfl rfl rfl rfl rfl rfl rfl ?_
 apply Y3
 iterate 3 refine Yp rfl ?_
 apply Yn
 apply Yt
 exact ⟨_, rfl, rfl, LeG.refl _, rfl, rfl, rfl⟩
theorem pc_walk1s (c : CT) (lv : Int) (p : Int) (d : Bool) (hc : CtBig c) (ih : ∀ a ∈ c.l, ∀ (lv  : Int) (p : Int) (d : Bool), CtBig a → HCall Tryz.prog J 225 [ctV a, .one (.d (.int .i64 lv)), .one (.clo 226 [.ptr 0 0, .ptr 1 0])] [[.d (.int .i64 p)], [.d (.bool d)]] [] [] (isH (.one (.d (.bool (visit cc1 a lv (p, d)).1))) [[.d (.int .i64 (visit cc1 a lv (p, d)).2.1)], [.d (.bool (visit cc1 a lv (p, d)).2.2)]] [] [])) :
  HCall Tryz.prog J 225 ([ctV c, .one (.d (.int .i64 lv)), .one (.clo 226 [.ptr 0 0, .ptr 1 0])]) ([[.d (.int .i64 p)], [.d (.bool d)]]) ([]) ([]) (isH (.one (.d (.bool (visit cc1 c lv (p, d)).1))) ([[.d (.int .i64 (visit cc1 c lv (p, d)).2.1)], [.d (.bool (visit cc1 c lv (p, d)).2.2)]]) ([]) ([])) := by
 unfold ctV
 rw [ds_map]
 have hlen : ((c.l.map CT.d).length : Int) = (c.l.length : Int) := by rw [List.length_map]
 refine HCall.ofD tOk ⟨2, 0, 0⟩ (fn := Tryz.f225) Tryz.func225 (by kernel_rfl) rfl (Nat.le_of_ble_eq_true rfl) (fun E => ?_)
 iterate 9 first|refine Yp rfl ?_|refine S.box rfl rfl rfl rfl ?_|apply Y1|apply Ys|apply Yn
 refine S.hcallD rfl rfl rfl rfl ((pc_cc1 c.k c.n c.v _ lv p d).fd [0, 1] [] [] rfl) ?_
 refine Yp rfl ?_
 apply Yn
 refine W.cond rfl (fun c1=>?_) fun c1=>?_
 ·skip
  have hf : (cc1 c lv (p, d)).1 = false := by simpa [cc1, CT.part, hlen] using c1
  have hv := visit_no hf
  apply Y1
  refine Yp rfl ?_
  apply Yn
  apply Yt
  apply Yu
  exact ⟨_, rfl, rfl, (by rw [hv]; exact LeG.refl _), (by rw [hv]; rfl), rfl, rfl⟩
 have hf : (cc1 c lv (p, d)).1 = true := by simpa [cc1, CT.part, hlen] using c1
 have hbig := hc.ll
 iterate 9 first|refine Yp rfl ?_|apply Yk|apply Y1|apply Yn|apply Ys
 apply Yb
 refine W.loop (fun k st => ∃ i : Nat, ∃ p1 : Int, ∃ d1 : Bool, i ≤ c.l.length ∧ visits (fun a => visit cc1 a (up1 lv)) (c.l.take i) (cc1 c lv (p, d)).2 = (true, (p1, d1)) ∧ k = c.l.length - i ∧ ∃ t b2 r2 m2, st = ⟨t, [[.d (.int .i64 p1)], [.d (.bool d1)], [.d (.int .i64 c.k), .d (.str c.n), .d (.str c.v), .d (.vec 4 (c.l.map CT.d))]] ++ b2, [] ++ r2, [] ++ m2⟩ ∧ holdsL t [(1, .one (.d (.int .i64 lv))), (2, .one (.clo 226 [.ptr 0 0, .ptr 1 0])), (15, .one (.d (.vec 4 (c.l.map CT.d)))), (16, .one (.d (.int .i64 ((c.l.map CT.d).length : Int)))), (17, .one (.d (.int .i64 (i : Int))))]) (c.l.length) ⟨0, _, _, Nat.zero_le _, visits_nil, rfl, _, _, _, _, rfl, rfl, rfl, rfl, rfl, rfl, trivial⟩ ?_
 rintro k0 _ ⟨i, p1, d1, f0_0, f0_1, rfl, t0, bb0, rr0, mm0, rfl, hh0⟩
 refine W.keepR _ _ _ _ _ _ _ hh0 rfl ?_
 apply Y1
 refine Yp rfl ?_
 apply Yn
 apply Ys
 refine W.cond rfl (fun c2=>?_) fun c2=>?_
 ·skip
  have hi := row_lt c2
  apply Yk
  apply Yn
  apply Ys
  apply Yb
  apply Y1
  refine YE rfl (row_ok hi) (getD_map_ct hi) rfl ?_
  iterate 8 first|refine Yp rfl ?_|refine S.store tOk rfl rfl rfl rfl rfl rfl rfl rfl ?_|refine S.alloc tOk rfl rfl rfl rfl ?_|apply Y3
  refine S.hcallD rfl rfl rfl rfl ((ih (c.l.getD i CT.z) (mem_ct hi) (up1 lv) p1 d1 (hc.l _ (mem_ct hi))).fd [0, 1] [] [] rfl) ?_
  refine Yp rfl ?_
  apply Yn
  refine W.cond rfl (fun c3=>?_) fun c3=>?_
  ·skip
   have hv := visit_stop hf hi f0_1 (by simpa using c3)
   iterate 9 first|apply Yu|apply Yv|apply Yt|refine Yp rfl ?_|apply Y1|apply Yn
   exact ⟨_, rfl, rfl, (by rw [hv]; exact LeG.refl _), (by rw [hv]; rfl), rfl, rfl⟩
  apply Yk
  apply Yw
  apply Y4
  iterate 2 refine Yp rfl ?_
  refine loop_n (c.l.length - (i + 1)) (by omega) ⟨i + 1, _, _, hi, visit_next hi f0_1 (by simpa using c3), rfl, _, _, _, _, rfl, rfl, rfl, rfl, rfl, inc_i64 (by omega), trivial⟩
 have hi := row_ge c2
 have hv := visit_all hf hi f0_1
 apply Yq
 apply Ye
 apply Ye
 apply Yx
 apply Y3
 refine Yp rfl ?_
 apply Yn
 apply Yt
 exact ⟨_, rfl, rfl, (by rw [hv]; exact LeG.refl _), (by rw [hv]; rfl), rfl, rfl⟩
theorem pc_walk1 : ∀ (n : Nat) (c : CT), c.w ≤ n → ∀ (lv : Int) (p : Int) (d : Bool), CtBig c → HCall Tryz.prog J 225 [ctV c, .one (.d (.int .i64 lv)), .one (.clo 226 [.ptr 0 0, .ptr 1 0])] [[.d (.int .i64 p)], [.d (.bool d)]] [] [] (isH (.one (.d (.bool (visit cc1 c lv (p, d)).1))) [[.d (.int .i64 (visit cc1 c lv (p, d)).2.1)], [.d (.bool (visit cc1 c lv (p, d)).2.2)]] [] [])
 | 0, c, h => by have := c.pos; omega
 | n + 1, c, h => fun lv p d hc => pc_walk1s c lv p d hc (fun a ha => pc_walk1 n a (by have := CT.sz ha; omega))
theorem pc_walk2s (c : CT) (lv : Int) (e : Int) (hc : CtBig c) (ih : ∀ a ∈ c.l, ∀ (lv  : Int) (e : Int), CtBig a → HCall Tryz.prog J 225 [ctV a, .one (.d (.int .i64 lv)), .one (.clo 227 [.ptr 0 0])] [[.d (.int .i64 e)]] [] [] (isH (.one (.d (.bool (visit cc2 a lv e).1))) [[.d (.int .i64 (visit cc2 a lv e).2)]] [] [])) :
  HCall Tryz.prog J 225 ([ctV c, .one (.d (.int .i64 lv)), .one (.clo 227 [.ptr 0 0])]) ([[.d (.int .i64 e)]]) ([]) ([]) (isH (.one (.d (.bool (visit cc2 c lv e).1))) ([[.d (.int .i64 (visit cc2 c lv e).2)]]) ([]) ([])) := by
 unfold ctV
 rw [ds_map]
 have hlen : ((c.l.map CT.d).length : Int) = (c.l.length : Int) := by rw [List.length_map]
 have hcl2 := pc_cc2 c.k c.n c.v (c.l.map CT.d) hc.n hc.v lv e
 rw [hlen] at hcl2
 refine HCall.ofD tOk ⟨1, 0, 0⟩ (fn := Tryz.f225) Tryz.func225 (by kernel_rfl) rfl (Nat.le_of_ble_eq_true rfl) (fun E => ?_)
 iterate 9 first|refine Yp rfl ?_|refine S.box rfl rfl rfl rfl ?_|apply Y1|apply Ys|apply Yn
 refine S.hcallD rfl rfl rfl rfl (hcl2.fd [0] [] [] rfl) ?_
 refine Yp rfl ?_
 apply Yn
 refine W.cond rfl (fun c1=>?_) fun c1=>?_
 ·skip
  have hf : (cc2 c lv e).1 = false := by simpa [cc2, CT.part, hlen] using c1
  have hv := visit_no hf
  apply Y1
  refine Yp rfl ?_
  apply Yn
  apply Yt
  apply Yu
  exact ⟨_, rfl, rfl, (by rw [hv]; exact LeG.refl _), (by rw [hv]; rfl), rfl, rfl⟩
 have hf : (cc2 c lv e).1 = true := by simpa [cc2, CT.part, hlen] using c1
 have hbig := hc.ll
 iterate 9 first|refine Yp rfl ?_|apply Yk|apply Y1|apply Yn|apply Ys
 apply Yb
 refine W.loop (fun k st => ∃ i : Nat, ∃ e1 : Int, i ≤ c.l.length ∧ visits (fun a => visit cc2 a (up1 lv)) (c.l.take i) (cc2 c lv e).2 = (true, e1) ∧ k = c.l.length - i ∧ ∃ t b2 r2 m2, st = ⟨t, [[.d (.int .i64 e1)], [.d (.int .i64 c.k), .d (.str c.n), .d (.str c.v), .d (.vec 4 (c.l.map CT.d))]] ++ b2, [] ++ r2, [] ++ m2⟩ ∧ holdsL t [(1, .one (.d (.int .i64 lv))), (2, .one (.clo 227 [.ptr 0 0])), (15, .one (.d (.vec 4 (c.l.map CT.d)))), (16, .one (.d (.int .i64 ((c.l.map CT.d).length : Int)))), (17, .one (.d (.int .i64 (i : Int))))]) (c.l.length) ⟨0, _, Nat.zero_le _, visits_nil, rfl, _, _, _, _, rfl, rfl, rfl, rfl, rfl, rfl, trivial⟩ ?_
 rintro k0 _ ⟨i, e1, f0_0, f0_1, rfl, t0, bb0, rr0, mm0, rfl, hh0⟩
 refine W.keepR _ _ _ _ _ _ _ hh0 rfl ?_
 apply Y1
 refine Yp rfl ?_
 apply Yn
 apply Ys
 refine W.cond rfl (fun c2=>?_) fun c2=>?_
 ·skip
  have hi := row_lt c2
  apply Yk
  apply Yn
  apply Ys
  apply Yb
  apply Y1
  refine YE rfl (row_ok hi) (getD_map_ct hi) rfl ?_
  iterate 8 first|refine Yp rfl ?_|refine S.store tOk rfl rfl rfl rfl rfl rfl rfl rfl ?_|refine S.alloc tOk rfl rfl rfl rfl ?_|apply Y3
  refine S.hcallD rfl rfl rfl rfl ((ih (c.l.getD i CT.z) (mem_ct hi) (up1 lv) e1 (hc.l _ (mem_ct hi))).fd [0] [] [] rfl) ?_
  refine Yp rfl ?_
  apply Yn
  refine W.cond rfl (fun c3=>?_) fun c3=>?_
  ·skip
   have hv := visit_stop hf hi f0_1 (by simpa using c3)
   iterate 9 first|apply Yu|apply Yv|apply Yt|refine Yp rfl ?_|apply Y1|apply Yn
   exact ⟨_, rfl, rfl, (by rw [hv]; exact LeG.refl _), (by rw [hv]; rfl), rfl, rfl⟩
  apply Yk
  apply Yw
  apply Y4
  iterate 2 refine Yp rfl ?_
  refine loop_n (c.l.length - (i + 1)) (by omega) ⟨i + 1, _, hi, visit_next hi f0_1 (by simpa using c3), rfl, _, _, _, _, rfl, rfl, rfl, rfl, rfl, inc_i64 (by omega), trivial⟩
 have hi := row_ge c2
 have hv := visit_all hf hi f0_1
 apply Yq
 apply Ye
 apply Ye
 apply Yx
 apply Y3
 refine Yp rfl ?_
 apply Yn
 apply Yt
 exact ⟨_, rfl, rfl, (by rw [hv]; exact LeG.refl _), (by rw [hv]; rfl), rfl, rfl⟩
theorem pc_walk2 : ∀ (n : Nat) (c : CT), c.w ≤ n → ∀ (lv : Int) (e : Int), CtBig c → HCall Tryz.prog J 225 [ctV c, .one (.d (.int .i64 lv)), .one (.clo 227 [.ptr 0 0])] [[.d (.int .i64 e)]] [] [] (isH (.one (.d (.bool (visit cc2 c lv e).1))) [[.d (.int .i64 (visit cc2 c lv e).2)]] [] [])
 | 0, c, h => by have := c.pos; omega
 | n + 1, c, h => fun lv e hc => pc_walk2s c lv e hc (fun a ha => pc_walk2 n a (by have := CT.sz ha; omega))
theorem pc_ver_CheckCond (c : CT) (hc : CtBig c) :
  PureCall Tryz.prog J 172 [ctV c] (.one (.d (.int .i64 (checkP c)))) := by
 refine PureCall.of_body tOk (fn := Tryz.f172) Tryz.func172 (by kernel_rfl) rfl (Nat.le_of_ble_eq_true rfl) (fun E => ?_)
 apply Y1
 iterate 9 first|refine Yp rfl ?_|refine S.store tOk rfl rfl rfl rfl rfl rfl rfl rfl ?_|refine S.alloc tOk rfl rfl rfl rfl ?_|refine S.box rfl rfl rfl rfl ?_|apply Y3
 refine S.makeFunc rfl rfl rfl ?_
 refine S.hcallD rfl rfl rfl rfl ((pc_walk1 c.w c (Nat.le_refl _) 0 0 false hc).fd [1, 2] [] [] rfl) ?_
 iterate 6 first|refine Yp rfl ?_|apply Y1|apply Yn|apply Ys
 refine W.cond rfl (fun c1=>?_) fun c1=>?_
 ·skip
  apply Y1
  refine Yp rfl ?_
  apply Yn
  apply Yt
  apply Yu
  exact Yz rfl rfl rfl (by (try simp only [List.toList_toArray, Int.toNat_zero] at c1); simp only [checkP, c1, Bool.false_eq_true, if_false, if_true, reduceIte] <;> rfl)
 apply Yk
 apply Y3
 refine S.alloc tOk rfl rfl rfl rfl ?_
 refine S.store tOk rfl rfl rfl rfl rfl rfl rfl rfl ?_
 apply Y3
 refine Yp rfl ?_
 refine S.makeFunc rfl rfl rfl ?_
 refine S.hcallD rfl rfl rfl rfl ((pc_walk2 c.w c (Nat.le_refl _) 0 0 hc).fd [3] [] [] rfl) ?_
 iterate 9 first|refine S.pickAnd tOk zOk rfl rfl tg ?_|refine Yp rfl ?_|refine Yg rfl rfl tg ?_|apply Y1|apply Yn|apply Ys
 refine W.cond rfl (fun c2=>?_) fun c2=>?_
 ·skip
  apply Y1
  refine Yp rfl ?_
  apply Yn
  apply Yt
  apply Yu
  exact Yz rfl rfl rfl (by (try simp only [List.toList_toArray, Int.toNat_zero] at c1 c2); simp only [checkP, c1, c2, Bool.false_eq_true, if_false, if_true, reduceIte] <;> rfl)
 apply Yk
 apply Y3
 iterate 2 refine Yp rfl ?_
 apply Yn
 apply Yt
 exact Yz rfl rfl rfl (by (try simp only [List.toList_toArray, Int.toNat_zero] at c1 c2); simp only [checkP, c1, c2, Bool.false_eq_true, if_false, if_true, reduceIte] <;> rfl)
end
section
open Go
structure Stg where
 k : List UInt8
 v : List UInt8
def Stg.z : Stg := ⟨[], []⟩
def stgD (s : Stg) : List D := [.str s.k, .str s.v]
def leS (a b : List UInt8) : Bool := Op.bytesLess a b || a == b
def stgAt (names : List UInt8 → Bool) (l : List Stg) (i : Nat) : Int :=
 if !names (l.getD i Stg.z).k then 5 else if !valueB (l.getD i Stg.z).v then 2 else if decide ((i : Int) > 0) && leS (l.getD i Stg.z).k (l.getD (i - 1) Stg.z).k then 7 else 0
def listE (names : List UInt8 → Bool) (l : List Stg) : Int := firstNe ((List.range l.length).map (stgAt names l))
theorem range_take {l : List Stg} {f : Nat → Int} {i : Nat} (hi : i < l.length) (h : (((List.range l.length).map f).take i).all (· == 0) = true) (c : f i = 0) : (((List.range l.length).map f).take (i + 1)).all (· == 0) = true :=
 all_take_succ (d := 0) (by simpa using hi) h (by simp [List.getD_eq_getElem?_getD, hi, c])
theorem listE_hit {names : List UInt8 → Bool} {l : List Stg} {i : Nat} {e : Int} (hi : i < l.length) (h : (((List.range l.length).map (stgAt names l)).take i).all (· == 0) = true) (c : stgAt names l i = e) (he : e ≠ 0) : listE names l = e := by
 have hg : ((List.range l.length).map (stgAt names l)).getD i 0 = e := by simp [List.getD_eq_getElem?_getD, hi, c]
 unfold listE
 rw [firstNe_hit (by simpa using hi) h (by rw [hg]; exact he), hg]
theorem listE_none {names : List UInt8 → Bool} {l : List Stg} {i : Nat} (hi : l.length ≤ i) (h : (((List.range l.length).map (stgAt names l)).take i).all (· == 0) = true) : listE names l = 0 := firstNe_none (by simpa using hi) h
abbrev Tab := List (List UInt8 × List UInt8)
def beqS (a b : List UInt8) : Bool := a == b
def tabTo (l : List Stg) : Nat → Tab
 | 0 => []
 | i + 1 => setL beqS (tabTo l i) (l.getD i Stg.z).k (l.getD i Stg.z).v
def tabOf (l : List Stg) : Tab := tabTo l l.length
def tabD (t : Tab) : List (DV × DV) := mapOf D.str (fun v : List UInt8 => DV.one (.str v)) t
theorem keyS : KeyOk .string D.str (fun s : List UInt8 => Value.string ⟨s.toArray⟩) beqS := keyStr
theorem path_ab : pathB [97, 47, 98] = true := by decide
theorem val_e : valueB [] = true := by decide
end
end Go.Proofs.YtpelfildfidnbaaGreatDoor
