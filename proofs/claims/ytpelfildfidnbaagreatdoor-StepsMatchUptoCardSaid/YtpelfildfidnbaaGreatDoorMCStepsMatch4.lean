/- StepsMatch: where what it reads is of bulk at most 1048576, it returns true, and what it was given reads as it did. -/
import Derived.WalkKit
import Derived.ProofKit
import Derived.Deep.DeepHandedRow
import Derived.Test.YtpelfildfidnbaaGreatDoorCards
import Derived.Test.YtpelfildfidnbaaGreatDoorTie
import Derived.Lib.LaidU8
import Derived.Shelf.Vars
import Derived.Deep.DeepLaidRun
import Derived.Test.YtpelfildfidnbaaGreatDoorMCStepsMatch3
set_option linter.unusedVariables false
set_option linter.unusedSimpArgs false
set_option maxRecDepth 100000
set_option maxHeartbeats 4000000
namespace Go.Proofs.YtpelfildfidnbaaGreatDoor
section
open Go Go.RowKit Go.ChangeShapes Go.WideShapes Go.ChangeAt
theorem Below.trodAll {H : Type} {enc : TypeId × Value → H} {P : Program} (hl : laidOutB P = true) {W W' : World} (hb : Below W.heap.size W W') : ∀ {ts : List TypeId} {vs : List Value} {ds : List (DataW H)} {ps : List MemPlace},
    ts.all (fun t => P.readableRec t && decide (t < P.types.size)) = true → DataW.TrodAll enc P W 0 (fun _ => true) true ts vs ds ps → (∀ x ∈ ps, x.block < W.heap.size) → DataW.TrodAll enc P W' 0 (fun b => decide (b < W.heap.size)) true ts vs ds ps
  | [], [], [], _, _, h, _ => h
  | [], [], _ :: _, _, _, h, _ => h.elim
  | [], _ :: _, _, _, _, h, _ => h.elim
  | _ :: _, [], _, _, _, h, _ => h.elim
  | _ :: _, _ :: _, [], _, _, h, _ => h.elim
  | t :: ts, v :: vs, d :: ds, ps, ha, h, hp => by
    simp only [List.all_cons, Bool.and_eq_true, decide_eq_true_eq] at ha
    obtain ⟨p, q, h1, h2, rfl⟩ := h
    exact ⟨p, q, Below.trod hl ha.1.1 ha.1.2 h1 hb (fun x hx => hp x (List.mem_append.2 (.inl hx))), Below.trodAll hl hb (by simpa using ha.2) h2 (fun x hx => hp x (List.mem_append.2 (.inr hx))), rfl⟩
theorem law_post {P : Program} {J : Inv} {f : FuncId} {fn : Func} {s : ChangeSpec} {tb : TypeId} (hl : laidOutB P = true) (hts : fn.params.toList.all (fun t => P.readableRec t && decide (t < P.types.size)) = true)
  (hv : s.vars = []) (hres : fn.resultTypes = #[tb]) (htb : P.underlying tb = some .bool) {H : Type} {enc : TypeId × Value → H} {W : World} {args : Array Value} {ds gs : List (DataW H)} {before : List MemPlace}
  (hW : DataW.Whole enc P fn.params.toList s.vars false W args.toList ds gs before) (hs : (s.fn H (ds ++ gs)).results = [.lit (.bool true)] ∧ (s.fn H (ds ++ gs)).args = ds ∧ (s.fn H (ds ++ gs)).vars = [])
  {us : List V} (pc : PureCall P J f us (.one (.d (.bool true)))) (hJ : J.I W) (hn : args.size = us.length) (hx : ∀ (i : Nat) (u : V) (v : Value), us[i]? = some u → args[i]? = some v → RV (noGh fun b => b < W.heap.size) noSh W u v) :
  Calls P f args W fun e W' => ∃ v, e = .returned v ∧ s.post enc P fn false true false false W args v W' := by
 have h := pc.calls (fun b => b < W.heap.size) W args.toList hJ (fun b hb => hb) (by simpa using hn) (fun i u v h1 h2 => hx i u v h1 (by simpa using h2))
 have h' : Calls P f args W _ := h
 refine h'.mono fun e W' ⟨v, im', he, hB, _, _, _, hr⟩ => ⟨v, he, ?_⟩
 obtain rfl : v = .bool true := by
  cases hr with | one _ _ h => cases h with | d _ _ h => cases h with | bool => rfl
 have hlt : ∀ x ∈ before, x.block < W.heap.size := fun x hx => by simpa using hW.lt x hx
 have hW' := hW
 obtain ⟨p, q, hA, hV, rfl, _, _⟩ := hW
 rw [hv] at hV
 have hgs : gs = [] ∧ q = [] := by
  cases gs with
  | nil => exact ⟨rfl, hV⟩
  | cons g gs => exact hV.elim
 obtain ⟨rfl, rfl⟩ := hgs
 refine ⟨ds, [], p ++ [], [], p, [], hW', ?_, ?_, ?_, hB.frame _, fun h => by cases h⟩
 ·skip
  rw [hs.1, hres]
  exact trodAll_cons_mk (shut_bool htb true) trodAll_mk0
 ·skip
  rw [hs.2.1]
  exact Below.trodAll hl hB hts hA (fun x hx => hlt x (by simp [hx]))
 ·skip
  rw [hs.2.2, hv]; rfl
theorem arg_agg {P : Program} {t : TypeId} {α : Type} (de : Dec P t α) {W : World} {r : Reach} {base : Nat} {v : Value} (ht : (match P.underlying t with | some (.struct _) | some (.array _ _) => true | _ => false) = true) (hv : Value.okWide P W r base t v)
    {H : Type} {enc : TypeId × Value → H} {d : DataW H} {ps : List MemPlace} (h : DataW.Trod enc P W 0 (fun _ => true) true t v d ps) (hlim : ∀ f, de.lim f = true := by intro _; rfl) : ∃ x : α, RV (noGh fun b => b < W.heap.size) noSh W (.agg ((de.ds x).map .d)) v ∧ de.wf (Rows.uptoBulk d) x := by
  obtain ⟨fuel, h⟩ := h
  obtain ⟨x, h1, h2, _⟩ := de.ok (hlim _) h
  refine ⟨x, ?_, h2⟩
  have hc : ∃ cs, v = .agg cs := by
    unfold Value.okWide at hv
    split at hv
    · exact ⟨_, hv.choose_spec.1⟩
    · exact ⟨_, hv.choose_spec.1⟩
    · rename_i h3 h4
      split at ht
      · rename_i fs h5; exact absurd h5 (h3 _)
      · rename_i n e h5; exact absurd h5 (h4 _ _)
      · cases ht
  obtain ⟨cs, rfl⟩ := hc
  have h3 : RDs W cs.toList (de.ds x) := h1
  have := RV.agg (g := noGh fun b => b < W.heap.size) (h := noSh) (w := W) ((de.ds x).map .d) cs.toList (by simp [h3.1]) (fun i c v hc hv => by
    simp only [List.getElem?_map, Option.map_eq_some_iff] at hc
    obtain ⟨d, hd, rfl⟩ := hc
    exact .d _ _ (h3.2 i v d hv hd))
  simpa using this
theorem arg_one {P : Program} {t : TypeId} {α : Type} (de : Dec P t α) {W : World} {r : Reach} {base : Nat} {v : Value} (ht : (match P.underlying t with | some .bool | some (.int _) | some .string | some (.slice _) | some (.pointer _) | some (.map _ _) => true | _ => false) = true) (hv : Value.okWide P W r base t v)
    {H : Type} {enc : TypeId × Value → H} {d : DataW H} {ps : List MemPlace} (h : DataW.Trod enc P W 0 (fun _ => true) true t v d ps) (hlim : ∀ f, de.lim f = true := by intro _; rfl) : ∃ x : α, (∀ e, de.ds x = [e] → RV (noGh fun b => b < W.heap.size) noSh W (.one (.d e)) v) ∧ de.wf (Rows.uptoBulk d) x := by
  obtain ⟨fuel, h⟩ := h
  obtain ⟨x, h1, h2, _⟩ := de.ok (hlim _) h
  refine ⟨x, fun e he => ?_, h2⟩
  have hc : v.cells.toList = [v] := by
    cases v with
    | agg cs =>
      exfalso
      unfold Value.okWide Cell.okWide Cell.ok at hv
      split at ht <;> simp_all
    | _ => rfl
  rw [hc, he] at h1
  exact .one _ _ (.d _ _ (h1.2 0 v e rfl rfl))
end
section
open Go Go.RowKit Go.ChangeShapes Go.WideShapes Go.ChangeAt
theorem base_of {W : World} (hS : W.ShapedOpen Tryz.prog) : J.I W where
 max := cell_of_shapedOpen_int (t := 3) (zero := #[.int .i64 0]) hS (of_decide_eq_true (by kernel_rfl)) (by kernel_rfl) rfl (by kernel_rfl) (by kernel_rfl) Tryz.underlying3
mutual
def dcells : DataW Unit → List Value
  | .lit (.int k n) => [.int k n]
  | .agg ds => dcellsL ds
  | _ => []
def dcellsL : List (DataW Unit) → List Value
  | [] => []
  | d :: ds => dcells d ++ dcellsL ds
end
def putCs (cs : List Value) : Obj → Obj
 | .cells _ t fr => .cells cs.toArray t fr
 | o => o
def errText : DataW Unit → ByteArray
 | .iface _ (.ptr (.agg [.lit (.string s)])) => ⟨s.toArray⟩
 | _ => ByteArray.empty
def errCell (b : Nat) : List Value := [.iface 310 (.pointer (some ⟨b, 0, none⟩))]
noncomputable def laidWorld (os : Os) : World :=
 { World.holding Tryz.prog os ⟨#[], #[], []⟩ with heap :=
  let h := (World.holding Tryz.prog os ⟨#[], #[], []⟩).heap
  let h := h.modify 5 (putCs (dcells Rows.laid_internal_strconv_uint64pow10))
  let h := h.modify 3 (putCs (dcells Rows.laid_unicode_utf8_first))
  let h := h.modify 4 (putCs (dcells Rows.laid_unicode_utf8_acceptRanges))
  let h := h.modify 6 (putCs (dcells Rows.laid_math_bits_deBruijn32tab))
  let h := h.modify 7 (putCs (dcells Rows.laid_math_bits_deBruijn64tab))
  let n := h.size
  let h := h.modify 1 (putCs (errCell n))
  let h := h.modify 2 (putCs (errCell (n + 1)))
  (h.push (.cells #[.string (errText Rows.laid_strconv_ErrSyntax)] 312 (0, 0))).push (.cells #[.string (errText Rows.laid_strconv_ErrRange)] 312 (0, 0)) }
end
section
open Go Go.RowKit
noncomputable def decStg : Dec Tryz.prog 40 Stg :=
  Dec.iso (Dec.struct Tryz.underlying40 (tot := 2) (by kernel_rfl)
    (DecF.cons (Dec.str Tryz.underlying9) rfl (n := 1) (by kernel_rfl) (DecF.cons (Dec.str Tryz.underlying9) rfl (n := 1) (by kernel_rfl) (DecF.nil 2))))
    (fun x => (⟨x.1, x.2.1⟩ : Stg)) stgD (fun N s => s.k.length < N ∧ s.v.length < N) (fun m n v h hv => ⟨Nat.lt_of_lt_of_le hv.1 h, Nat.lt_of_lt_of_le hv.2 h⟩) (fun _ => rfl)
    (fun N x hx _ => ⟨hx.1, hx.2.1⟩)
end
section
open Go Go.RowKit
structure FlWf (N : Nat) (f : Fl) : Prop where
 p : f.p.length < N
 d : f.d.length < N
structure SvWf (N : Nat) (s : Svc) : Prop where
 n : s.n.length < N
 p : s.p.length < N
structure MacWf (N : Nat) (m : Mac) : Prop where
 fa : m.fa.length < N ∧ ∀ s ∈ m.fa, s.k.length < N ∧ s.v.length < N
 fl : m.fl.length < N ∧ ∀ f ∈ m.fl, FlWf N f
 se : m.se.length < N ∧ ∀ s ∈ m.se, s.k.length < N ∧ s.v.length < N
 sv : m.sv.length < N ∧ ∀ s ∈ m.sv, SvWf N s
def macD (m : Mac) : List D := [.vec 2 (m.fa.map stgD), .vec 3 (m.fl.map flD), .vec 2 (m.se.map stgD), .vec 4 (m.sv.map svD)]
theorem FlWf.up {m n : Nat} (h : m ≤ n) {o : Fl} (ho : FlWf m o) : FlWf n o := ⟨Nat.lt_of_lt_of_le ho.p h, Nat.lt_of_lt_of_le ho.d h⟩
theorem SvWf.up {m n : Nat} (h : m ≤ n) {o : Svc} (ho : SvWf m o) : SvWf n o := ⟨Nat.lt_of_lt_of_le ho.n h, Nat.lt_of_lt_of_le ho.p h⟩
theorem MacWf.up {m n : Nat} (h : m ≤ n) {o : Mac} (ho : MacWf m o) : MacWf n o :=
 ⟨⟨Nat.lt_of_lt_of_le ho.fa.1 h, fun s hs => ⟨Nat.lt_of_lt_of_le (ho.fa.2 s hs).1 h, Nat.lt_of_lt_of_le (ho.fa.2 s hs).2 h⟩⟩, ⟨Nat.lt_of_lt_of_le ho.fl.1 h, fun s hs => (ho.fl.2 s hs).up h⟩,
  ⟨Nat.lt_of_lt_of_le ho.se.1 h, fun s hs => ⟨Nat.lt_of_lt_of_le (ho.se.2 s hs).1 h, Nat.lt_of_lt_of_le (ho.se.2 s hs).2 h⟩⟩, ⟨Nat.lt_of_lt_of_le ho.sv.1 h, fun s hs => (ho.sv.2 s hs).up h⟩⟩
theorem MacWf.a {N : Nat} (hN : N ≤ 1048576) {m : Mac} (h : MacWf N m) : MacA m where
 fa := ⟨by have := h.fa.1; omega, fun s hs => by have := h.fa.2 s hs; omega⟩
 fl := ⟨by have := h.fl.1; omega, fun f hf => by have h1 := (h.fl.2 f hf).p; have h2 := (h.fl.2 f hf).d; omega⟩
 se := ⟨by have := h.se.1; omega, fun s hs => by have := h.se.2 s hs; omega⟩
 sv := ⟨by have := h.sv.1; omega, fun s hs => by have h1 := (h.sv.2 s hs).n; have h2 := (h.sv.2 s hs).p; omega⟩
noncomputable def decFl : Dec Tryz.prog 38 Fl :=
  Dec.iso (Dec.struct Tryz.underlying38 (tot := 3) (by kernel_rfl)
    (DecF.cons (Dec.str Tryz.underlying9) rfl (n := 1) (by kernel_rfl) (DecF.cons (Dec.str Tryz.underlying9) rfl (n := 1) (by kernel_rfl) (DecF.cons (Dec.bool Tryz.underlying4) rfl (n := 1) (by kernel_rfl) (DecF.nil 3)))))
    (fun x => (⟨x.1, x.2.1, x.2.2.1⟩ : Fl)) flD FlWf (fun _ _ _ h hx => FlWf.up h hx) (fun _ => rfl) (fun N x hx _ => ⟨hx.1, hx.2.1⟩)
noncomputable def decSv : Dec Tryz.prog 42 Svc :=
  Dec.iso (Dec.struct Tryz.underlying42 (tot := 4) (by kernel_rfl)
    (DecF.cons (Dec.str Tryz.underlying9) rfl (n := 1) (by kernel_rfl) (DecF.cons (Dec.str Tryz.underlying9) rfl (n := 1) (by kernel_rfl) (DecF.cons (Dec.bool Tryz.underlying4) rfl (n := 1) (by kernel_rfl) (DecF.cons (Dec.bool Tryz.underlying4) rfl (n := 1) (by kernel_rfl) (DecF.nil 4))))))
    (fun x => (⟨x.1, x.2.1, x.2.2.1, x.2.2.2.1⟩ : Svc)) svD SvWf (fun _ _ _ h hx => SvWf.up h hx) (fun _ => rfl) (fun N x hx _ => ⟨hx.1, hx.2.1⟩)
noncomputable def decMac : Dec Tryz.prog 26 Mac :=
  Dec.iso (Dec.struct Tryz.underlying26 (tot := 4) (by kernel_rfl)
    (DecF.cons (Dec.slice Tryz.underlying22 (sz := 2) (by kernel_rfl) (by decide) decStg) rfl (n := 1) (by kernel_rfl) (DecF.cons (Dec.slice Tryz.underlying23 (sz := 3) (by kernel_rfl) (by decide) decFl) rfl (n := 1) (by kernel_rfl)
      (DecF.cons (Dec.slice Tryz.underlying22 (sz := 2) (by kernel_rfl) (by decide) decStg) rfl (n := 1) (by kernel_rfl) (DecF.cons (Dec.slice Tryz.underlying24 (sz := 4) (by kernel_rfl) (by decide) decSv) rfl (n := 1) (by kernel_rfl) (DecF.nil 4))))))
    (fun x => (⟨x.1, x.2.1, x.2.2.1, x.2.2.2.1⟩ : Mac)) macD MacWf (fun _ _ _ h hx => MacWf.up h hx) (fun _ => rfl) (fun N x hx _ => ⟨hx.1, hx.2.1, hx.2.2.1, hx.2.2.2.1⟩)
noncomputable def decStq : Dec Tryz.prog 35 Stq :=
  Dec.iso (Dec.struct Tryz.underlying35 (tot := 3) (by kernel_rfl)
    (DecF.cons (Dec.int .i64 Tryz.underlying3) rfl (n := 1) (by kernel_rfl) (DecF.cons (Dec.str Tryz.underlying9) rfl (n := 1) (by kernel_rfl) (DecF.cons (Dec.str Tryz.underlying9) rfl (n := 1) (by kernel_rfl) (DecF.nil 3)))))
    (fun x => (⟨x.1, x.2.1, x.2.2.1⟩ : Stq)) stqD (fun N s => s.n.length < N ∧ s.v.length < N) (fun m n v h hv => ⟨Nat.lt_of_lt_of_le hv.1 h, Nat.lt_of_lt_of_le hv.2 h⟩) (fun _ => rfl) (fun N x hx _ => ⟨hx.2.1, hx.2.2.1⟩)
end
end Go.Proofs.YtpelfildfidnbaaGreatDoor
namespace Go.Proofs.YtpelfildfidnbaaGreatDoor.fnStepsMatch
open Go Go.RowKit Go.ChangeShapes Go.WideShapes Go.ChangeAt
theorem contract (H : Type) (enc : TypeId × Value → H) (W : World) (base : Nat) (args : Array Value) (ds gs : List (DataW H)) (before : List MemPlace)
  (hval : ∀ (j : Nat) t v, Tryz.f3.params[j]? = some t → args[j]? = some v → Value.okWide Tryz.prog W .any base t v)
  (hW : DataW.Whole enc Tryz.prog Tryz.f3.params.toList Rows.stepsMatchSpec.vars false W args.toList ds gs before) (hc : Rows.uptoSmall H (ds ++ gs) = true)
  (hL : laidMetH Tryz.prog Rows.stepsMatchUptoRow.laid W) (hS : W.ShapedOpen Tryz.prog) :
  Calls Tryz.prog 3 args W fun e W' => ∃ v, e = .returned v ∧ Rows.stepsMatchSpec.post enc Tryz.prog Tryz.f3 false true false false W args v W' := by
 have hW' := hW
 obtain ⟨p, q, hA0, hV, rfl, hfz, hnd⟩ := hW
 have hA : DataW.TrodAll enc Tryz.prog W 0 (fun _ => true) true Tryz.f3.params.toList args.toList ds p := hA0
 rw [Tryz.params3] at hA hval
 obtain ⟨v0, vs0, d0, ds0, p0, q0, hargs, rfl, rfl, h0, r0⟩ := trodAll_cons hA
 obtain ⟨v1, vs1, d1, ds1, p1, q1, rfl, rfl, rfl, h1, r1⟩ := trodAll_cons r0
 obtain ⟨rfl, rfl, rfl⟩ := trodAll_nil r1
 obtain rfl : args = #[v0, v1] := Array.ext' (by simpa using hargs)
 obtain ⟨rfl, rfl⟩ := trodVars_none hV
 obtain ⟨m, e0, w0⟩ := arg_agg decMac (by kernel_rfl) (hval 0 26 v0 rfl rfl) h0
 obtain ⟨l, e1, w1⟩ := arg_one (Dec.slice Tryz.underlying27 (sz := 3) (by kernel_rfl) (by decide) decStq) (by kernel_rfl) (hval 1 27 v1 rfl rfl) h1
 have hbulk : Rows.uptoBulkAll ([d0, d1] ++ []) ≤ 1048576 := of_decide_eq_true hc
 simp only [List.append_nil, Rows.uptoBulkAll] at hbulk
 have h0 : MacWf (Rows.uptoBulk d0) m := w0
 have h1 : l.length < Rows.uptoBulk d1 ∧ ∀ s ∈ l, s.n.length < Rows.uptoBulk d1 ∧ s.v.length < Rows.uptoBulk d1 := w1
 have pc := pc_outlaw2_StepsMatch m (h0.a (by omega)) l (by omega) (fun s hs => by have := h1.2 s hs; exact ⟨by omega, by omega⟩)
 refine law_post (by kernel_rfl) (by kernel_rfl) rfl rfl Tryz.underlying4 hW' ⟨rfl, rfl, rfl⟩ pc (base_of hS) rfl (fun i u v hu hv => ?_)
 match i with
 | 0 => simp at hu hv; subst hu; subst hv; exact e0
 | 1 => simp at hu hv; subst hu; subst hv; exact e1 _ rfl
 | i + 2 => simp at hu
end Go.Proofs.YtpelfildfidnbaaGreatDoor.fnStepsMatch
namespace Go.Proofs.YtpelfildfidnbaaGreatDoor.fnStepsMatch
open Go Go.RowKit Go.ChangeShapes Go.WideShapes Go.ChangeAt
def zargs : Array Value := #[.agg #[.slice none 0 0, .slice none 0 0, .slice none 0 0, .slice none 0 0], .slice none 0 0]
set_option maxRecDepth 100000 in
theorem laid_met (os : Os) : laidMet Tryz.prog Rows.stepsMatchUptoRow.laid ((laidWorld os).forCall (fun _ _ => 0) ⟨#[], zargs, []⟩).memory :=
 laidMet_of_run' 8 (by kernel_rfl) (by kernel_rfl)
set_option maxRecDepth 100000 in
theorem reads (os : Os) {H : Type} (enc : TypeId × Value → H) : ∃ ds places, DataW.whole enc Tryz.prog ((laidWorld os).forCall (fun _ _ => 0) ⟨#[], zargs, []⟩).memory Tryz.f3.params.toList Rows.stepsMatchSpec.vars false zargs.toList 8 = some (ds, [], places) ∧ Rows.uptoSmall H (ds ++ []) = true :=
 ⟨[.agg [.nil, .nil, .nil, .nil], .nil], [], by kernel_rfl, by kernel_rfl⟩
theorem own : ownKnob Tryz.prog.godebug = none := by kernel_rfl
set_option maxRecDepth 100000 in
theorem liftedUpto (os : Os) (started : os.Started) (H : Type) (enc : TypeId × Value → H) (F : Stop.Interp) :
    ReturnsInHanded {} Tryz.checked os 3 .any ((Rows.OpenSpec.upto Rows.stepsMatchSpec).preRow enc Tryz.prog Tryz.f3 Rows.stepsMatchUptoRow.domain false Rows.stepsMatchUptoRow.laid) (((Rows.OpenSpec.upto Rows.stepsMatchSpec).at F).post enc Tryz.prog Tryz.f3 false true false false) := by
  obtain ⟨ds, places, hx, hsm⟩ := reads os enc
  refine returnsInHanded_of_row (C := Tryz.checked) (s := Rows.OpenSpec.upto Rows.stepsMatchSpec) own started (by kernel_rfl) Tryz.func3
    (witness_row_at (enc := enc) (C := Tryz.checked) false (laidWorld os) zargs rfl (by kernel_rfl) (by kernel_rfl) (by kernel_rfl)
      (OpenSpec.preRow_of_cond 8 hx (by kernel_rfl) (fun k hk => by cases hk; exact hsm) (by kernel_rfl) (laid_met os))) ?_
  intro W base args ds gs before hval hW _ hcond _ hL hS _
  exact contract H enc W base args ds gs before hval hW (hcond _ rfl) hL hS
theorem band {a b : Bool} (ha : a = true) (hb : b = true) : (a && b) = true := by rw [ha, hb]; rfl
set_option maxRecDepth 100000 in
theorem closed : joinedFacts Tryz.pinned.checked.prog 3 Tryz.f3 (Rows.OpenSpec.upto Rows.stepsMatchSpec).bare Rows.stepsMatchUptoRow = true := by
 unfold joinedFacts
 refine band (band (band (band (band (band (band (band (band (band (band (band (band (band (band (band (band (band (band (band (band (band (band (band (band (band (band (band (band (band (band ?_ ?_) ?_) ?_) ?_) ?_) ?_) ?_) ?_) ?_) ?_) ?_) ?_) ?_) ?_) ?_) ?_) ?_) ?_) ?_) ?_) ?_) ?_) ?_) ?_) ?_) ?_) ?_) ?_) ?_) ?_) ?_
 all_goals (as_aux_lemma => kernel_rfl)
theorem saidUpto : Rows.StepsMatchUptoSaid :=
  OpenClaim.holds_of_cond 3 Tryz.f3 rfl rfl rfl rfl rfl rfl rfl ⟨rfl, rfl, rfl, rfl, rfl⟩ rfl rfl rfl rfl rfl (by as_aux_lemma => kernel_rfl) Tryz.func3 closed
    (of_decide_eq_true (by kernel_rfl)) (by unfold Func.isWrapper; first | (rw [if_pos (by decide +kernel)]; kernel_rfl) | (rw [if_neg (by decide +kernel)]; exact ⟨rfl, rfl⟩))
    (fun os started H enc _ F => by rw [OpenClaim.pre_eq_preRow]; exact liftedUpto os started H enc F)
theorem plain (f : FuncId) (fn : Func) (hf : Tryz.pinned.checked.prog.funcNamed "outfitter/outlaw2.StepsMatch" = some f) (hfn : Tryz.pinned.checked.prog.funcs[f]? = some fn) :
  true = Tryz.pinned.checked.prog.looks [] ∧ ∀ (j : Nat) t, fn.params[j]? = some t → Tryz.pinned.checked.prog.wantsStandIn t = false := by
 obtain rfl : f = 3 := Option.some.inj ((show Tryz.prog.funcNamed "outfitter/outlaw2.StepsMatch" = some 3 by kernel_rfl).symm.trans hf) |>.symm
 obtain rfl : fn = Tryz.f3 := (Option.some.inj (Tryz.func3.symm.trans hfn)).symm
 refine ⟨by kernel_rfl, fun j t ht => ?_⟩
 rw [Tryz.params3] at ht
 have hm : t = 27 ∨ t = 26 := by
  have h1 := Array.mem_of_getElem? ht
  have h2 : t = 26 ∨ t = 27 := by simpa using h1
  rcases h2 with h | h <;> rw [h] <;> simp
 rcases hm with rfl | rfl
 ·skip
  exact (show Tryz.prog.wantsStandIn 27 = false by kernel_rfl)
 ·skip
  exact (show Tryz.prog.wantsStandIn 26 = false by kernel_rfl)
theorem cardUpto : Rows.StepsMatchUptoCardSaid :=
 Claim7.holds_tied_plain_at .later [] _ _ _ _ saidUpto (fun _ h => by cases h) (by kernel_rfl) (fun _ h => by cases h) stepsMatchUpto_row_tie rfl ⟨rfl, rfl⟩ (by kernel_rfl) rfl plain (by kernel_rfl)
end Go.Proofs.YtpelfildfidnbaaGreatDoor.fnStepsMatch
