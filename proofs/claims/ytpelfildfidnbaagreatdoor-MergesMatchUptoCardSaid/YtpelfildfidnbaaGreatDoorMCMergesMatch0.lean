/- Part 0 of a proof: A1, A2, A3, A4, A5, A6, A7, A8, A9, A10, A11, Ty, A12, A13, A14. -/
import Derived.Below
import Derived.Orders
import Derived.Laws.CopyRow
import Derived.Laws.Cells
import Derived.Deep.Draws
import Derived.Deep.LoopGhost
import Derived.Laws.Entries
import Derived.Laws.Strings
import Derived.Laws.StructEq
import Derived.Laws.Small
import Derived.Laws.Slices
import Derived.Laws.IdiomCopy
import Derived.LoopN
import Derived.Still
import Derived.Test.YtpelfildfidnbaaGreatDoorProg
import Derived.KernelRfl
import Derived.Lib.LaidTab
set_option linter.unusedVariables false
set_option linter.unusedSimpArgs false
set_option linter.unnecessarySimpa false
namespace Go.Proofs.YtpelfildfidnbaaGreatDoor
section
open Go Go.RowKit
inductive D where
 | int (k : IntKind) (n : Int)
 | bool (b : Bool)
 | str (s : List UInt8)
 | vec (sz : Nat) (xs : List (List D))
 | nilsl
 | nilmap
 | nilptr
 | fn (f : FuncId)
 | err (isNil : Bool)
 | raw (v : Value)
 deriving Inhabited
inductive Wr where
 | ifc (t : TypeId) | bnd (f : FuncId)
 deriving Inhabited
def Wr.v : Wr → Value → Value
 | .ifc t, p => .iface t p
 | .bnd f, p => .func (.func f) #[p] #[]
inductive C where
 | d (x : D)
 | ptr (l off : Nat)
 | eptr (cells : List D)
 | row (r ver off n : Nat)
 | rptr (r ver i fo : Nat)
 | map (m : Nat)
 | clo (f : FuncId) (caps : List C)
 | wr (k : Wr) (l off : Nat)
 | junk
 deriving Inhabited
inductive V where
 | one (c : C)
 | agg (cs : List C)
 | tup (vs : List V)
 | when (b : Bool) (v : V)
 | junk
 deriving Inhabited
inductive RD (im : Nat → Prop) (w : World) : D → Value → Prop where
 | int (k : IntKind) (n : Int) : RD im w (.int k n) (.int k n)
 | bool (b : Bool) : RD im w (.bool b) (.bool b)
 | str (s : List UInt8) : RD im w (.str s) (.string ⟨s.toArray⟩)
 | nilsl : RD im w .nilsl (.slice none 0 0)
 | nilmap : RD im w .nilmap (.map none)
 | nilptr : RD im w .nilptr (.pointer none)
 | empty (sz : Nat) (A : Option Addr) (cap : Nat) : RD im w (.vec sz []) (.slice A 0 cap)
 | vec (sz : Nat) (xs : List (List D)) (b o cap : Nat) (u : Nat → Nat → Value) (hne : xs ≠ []) (hc : xs.length ≤ cap) (hb : im b) (hsz : ∀ x ∈ xs, x.length = sz)
   (hcell : ∀ (i j : Nat) (x : List D) (d : D), xs[i]? = some x → x[j]? = some d → w.cell? ⟨b, o + i * sz + j, none⟩ = some (u i j))
   (hrd : ∀ (i j : Nat) (x : List D) (d : D), xs[i]? = some x → x[j]? = some d → RD im w d (u i j)) :
   RD im w (.vec sz xs) (.slice (some ⟨b, o, none⟩) xs.length cap)
 | fn (f : FuncId) : RD im w (.fn f) (.func (.func f) #[] #[])
 | errNil : RD im w (.err true) .nilIface
 | errSome (t : TypeId) (x : Value) : RD im w (.err false) (.iface t x)
 | raw (v : Value) (h : v.oneCell' = true) : RD im w (.raw v) v
inductive Loc where
 | b (l : Nat) | r (l : Nat) | m (l : Nat)
 deriving DecidableEq
structure Gh where
 im : Nat → Prop
 at_ : Loc → Nat
 off : Nat → Nat
 cap : Nat → Nat
structure RowO where
 al : Bool
 ver : Nat
 sz : Nat
 ty : TypeId
 xs : List (List D)
structure Sh where
 L : Nat
 rows : List (Option (Bool × Nat × Nat × Nat))
 M : Nat
inductive RC (g : Gh) (h : Sh) (w : World) : C → Value → Prop where
 | d (x : D) (v : Value) (hx : RD g.im w x v) : RC g h w (.d x) v
 | ptr (l off : Nat) (hl : l < h.L) : RC g h w (.ptr l off) (.pointer (some ⟨g.at_ (.b l), off, none⟩))
 | eptr (cells : List D) (b o : Nat) (u : Nat → Value) (hb : g.im b)
   (hcell : ∀ (j : Nat) (d : D), cells[j]? = some d → w.cell? ⟨b, o + j, none⟩ = some (u j)) (hrd : ∀ (j : Nat) (d : D), cells[j]? = some d → RD g.im w d (u j)) :
   RC g h w (.eptr cells) (.pointer (some ⟨b, o, none⟩))
 | row (r ver off n : Nat) (v : Value) (hv : v.oneCell' = true) (hr : r < h.rows.length)
   (hx : ∀ al ver' sz len, h.rows[r]? = some (some (al, ver', sz, len)) → ver ≤ ver' ∧ (ver = ver' → off + n ≤ len ∧
    v = if al then .slice (some ⟨g.at_ (.r r), g.off r + off * sz, none⟩) n (g.cap r - off) else .slice none 0 0)) :
   RC g h w (.row r ver off n) v
 | rptr (r ver i fo : Nat) (v : Value) (hv : v.oneCell' = true) (hr : r < h.rows.length)
   (hx : ∀ al ver' sz len, h.rows[r]? = some (some (al, ver', sz, len)) → ver ≤ ver' ∧ (ver = ver' → al = true ∧ i < len ∧
    v = .pointer (some ⟨g.at_ (.r r), g.off r + (i * sz + fo), none⟩))) :
   RC g h w (.rptr r ver i fo) v
 | map (m : Nat) (hm : m < h.M) : RC g h w (.map m) (.map (some (g.at_ (.m m))))
 | clo (f : FuncId) (caps : List C) (vs : List Value) (hl : vs.length = caps.length) (hx : ∀ (i : Nat) (c : C) (v : Value), caps[i]? = some c → vs[i]? = some v → RC g h w c v) :
   RC g h w (.clo f caps) (.func (.func f) #[] vs.toArray)
 | wr (k : Wr) (l off : Nat) (hl : l < h.L) : RC g h w (.wr k l off) (k.v (.pointer (some ⟨g.at_ (.b l), off, none⟩)))
 | junk (v : Value) (hv : v.oneCell' = true) : RC g h w .junk v
inductive RV (g : Gh) (h : Sh) (w : World) : V → Value → Prop where
 | one (c : C) (v : Value) (hx : RC g h w c v) : RV g h w (.one c) v
 | agg (cs : List C) (vs : List Value) (hl : vs.length = cs.length) (hx : ∀ (i : Nat) (c : C) (v : Value), cs[i]? = some c → vs[i]? = some v → RC g h w c v) :
   RV g h w (.agg cs) (.agg vs.toArray)
 | tup (us : List V) (vs : List Value) (hl : vs.length = us.length) (hx : ∀ (i : Nat) (u : V) (v : Value), us[i]? = some u → vs[i]? = some v → RV g h w u v) :
   RV g h w (.tup us) (.tuple vs.toArray)
 | whenT (u : V) (v : Value) (hx : RV g h w u v) : RV g h w (.when true u) v
 | whenF (u : V) : RV g h w (.when false u) undef
 | junk (v : Value) : RV g h w .junk v
theorem RD.one {im : Nat → Prop} {w : World} {x : D} {v : Value} (h : RD im w x v) : v.oneCell' = true := by cases h <;> first | rfl | assumption
theorem RC.one {g : Gh} {h : Sh} {w : World} {c : C} {v : Value} (hx : RC g h w c v) : v.oneCell' = true := by
 cases hx with
 | d x v h => exact h.one
 | junk v h => exact h
 | row _ _ _ _ _ h => exact h
 | rptr _ _ _ _ _ h => exact h
 | wr k => cases k <;> rfl
 | _ => rfl
theorem RD.mono {im im' : Nat → Prop} {w w' : World} (hi : ∀ b, im b → im' b) (hw : ∀ b, im b → w'.heap[b]? = w.heap[b]?) {x : D} {v : Value} (h : RD im w x v) : RD im' w' x v := by
 induction h with
 | int => exact .int _ _
 | bool => exact .bool _
 | str => exact .str _
 | nilsl => exact .nilsl
 | nilmap => exact .nilmap
 | nilptr => exact .nilptr
 | empty => exact .empty _ _ _
 | vec sz xs b o cap u hne hc hb hsz hcell hrd ih =>
  refine .vec sz xs b o cap u hne hc (hi b hb) hsz (fun i j x d h1 h2 => ?_) (fun i j x d h1 h2 => ih i j x d h1 h2)
  rw [World.cell?_of_block (w := w) (hw b hb)]
  exact hcell i j x d h1 h2
 | fn => exact .fn _
 | errNil => exact .errNil
 | errSome => exact .errSome _ _
 | raw v h => exact .raw _ h
structure Ext (g : Gh) (h : Sh) (w : World) (g' : Gh) (h' : Sh) (w' : World) : Prop where
 im : ∀ b, g.im b → g'.im b
 same : ∀ b, g.im b → w'.heap[b]? = w.heap[b]?
 lenL : h.L ≤ h'.L
 lenM : h.M ≤ h'.M
 lenR : h.rows.length ≤ h'.rows.length
 atB : ∀ l, l < h.L → g'.at_ (.b l) = g.at_ (.b l)
 atM : ∀ l, l < h.M → g'.at_ (.m l) = g.at_ (.m l)
 rows : ∀ r al ver sz len, r < h.rows.length → h'.rows[r]? = some (some (al, ver, sz, len)) → ∃ al0 ver0 sz0 len0, h.rows[r]? = some (some (al0, ver0, sz0, len0)) ∧ ver0 ≤ ver ∧
  (ver0 = ver → al0 = al ∧ sz0 = sz ∧ len0 ≤ len ∧ g'.at_ (.r r) = g.at_ (.r r) ∧ g'.off r = g.off r ∧ g'.cap r = g.cap r)
theorem Ext.refl (g : Gh) (h : Sh) (w : World) : Ext g h w g h w :=
 ⟨fun _ h => h, fun _ _ => rfl, Nat.le_refl _, Nat.le_refl _, Nat.le_refl _, fun _ _ => rfl, fun _ _ => rfl,
  fun _ al ver sz len _ h => ⟨al, ver, sz, len, h, Nat.le_refl _, fun _ => ⟨rfl, rfl, Nat.le_refl _, rfl, rfl, rfl⟩⟩⟩
theorem Ext.of {g g' : Gh} {h : Sh} {w w' : World} (hi : ∀ b, g.im b → g'.im b) (hs : ∀ b, g.im b → w'.heap[b]? = w.heap[b]?) (ha : g'.at_ = g.at_) (ho : g'.off = g.off) (hc : g'.cap = g.cap) :
    Ext g h w g' h w' :=
  ⟨hi, hs, Nat.le_refl _, Nat.le_refl _, Nat.le_refl _, fun _ _ => by rw [ha], fun _ _ => by rw [ha],
    fun _ al ver sz len _ h => ⟨al, ver, sz, len, h, Nat.le_refl _, fun _ => ⟨rfl, rfl, Nat.le_refl _, by rw [ha], by rw [ho], by rw [hc]⟩⟩⟩
theorem RC.mono {g g' : Gh} {h h' : Sh} {w w' : World} (e : Ext g h w g' h' w') {c : C} {v : Value} (hx : RC g h w c v) : RC g' h' w' c v := by
 induction hx with
 | d x v hx => exact .d _ _ (hx.mono e.im e.same)
 | ptr l off hl => rw [← e.atB l hl]; exact .ptr _ _ (Nat.lt_of_lt_of_le hl e.lenL)
 | eptr cells b o u hb hcell hrd =>
  refine .eptr cells b o u (e.im b hb) (fun j d h1 => ?_) (fun j d h1 => (hrd j d h1).mono e.im e.same)
  rw [World.cell?_of_block (w := w) (e.same b hb)]
  exact hcell j d h1
 | row r ver off n v hv hr hx =>
  refine .row r ver off n v hv (Nat.lt_of_lt_of_le hr e.lenR) (fun al ver' sz len h1 => ?_)
  obtain ⟨al0, ver0, sz0, len0, h2, h3, h4⟩ := e.rows r al ver' sz len hr h1
  obtain ⟨h5, h6⟩ := hx al0 ver0 sz0 len0 h2
  refine ⟨Nat.le_trans h5 h3, fun he => ?_⟩
  have h7 : ver0 = ver' := by omega
  obtain ⟨h8, h9, h10, h11, h12, h13⟩ := h4 h7
  obtain ⟨h14, h15⟩ := h6 (by omega)
  exact ⟨by omega, by rw [h11, h12, h13, ← h8, ← h9]; exact h15⟩
 | rptr r ver i fo v hv hr hx =>
  refine .rptr r ver i fo v hv (Nat.lt_of_lt_of_le hr e.lenR) (fun al ver' sz len h1 => ?_)
  obtain ⟨al0, ver0, sz0, len0, h2, h3, h4⟩ := e.rows r al ver' sz len hr h1
  obtain ⟨h5, h6⟩ := hx al0 ver0 sz0 len0 h2
  refine ⟨Nat.le_trans h5 h3, fun he => ?_⟩
  have h7 : ver0 = ver' := by omega
  obtain ⟨h8, h9, h10, h11, h12, h13⟩ := h4 h7
  obtain ⟨h14, h16, h15⟩ := h6 (by omega)
  exact ⟨by rw [← h8]; exact h14, by omega, by rw [h11, h12, ← h9]; exact h15⟩
 | map m hm => rw [← e.atM m hm]; exact .map _ (Nat.lt_of_lt_of_le hm e.lenM)
 | clo f caps vs hl h ih => exact .clo f caps vs hl ih
 | wr k l off hl => rw [← e.atB l hl]; exact .wr _ _ _ (Nat.lt_of_lt_of_le hl e.lenL)
 | junk v h => exact .junk v h
theorem RV.mono {g g' : Gh} {h h' : Sh} {w w' : World} (e : Ext g h w g' h' w') {u : V} {v : Value} (hx : RV g h w u v) : RV g' h' w' u v := by
 induction hx with
 | one c v h => exact .one _ _ (h.mono e)
 | agg cs vs hl h => exact .agg cs vs hl (fun i c v h1 h2 => (h i c v h1 h2).mono e)
 | tup us vs hl h ih => exact .tup us vs hl ih
 | whenT u v h ih => exact .whenT _ _ ih
 | whenF u => exact .whenF _
 | junk v => exact .junk v
inductive DV where
 | one (d : D) | agg (ds : List D) | st (n c : Nat) (d : D) | sta (n c : Nat) (ds : List D)
def DV.v : DV → V
 | .one d => .one (.d d)
 | .agg ds => .agg (ds.map .d)
 | .st _ _ d => .one (.d d)
 | .sta _ _ ds => .agg (ds.map .d)
def DV.stamp : DV → Nat → Nat → Prop
 | .st n c _, born, clock => born = n ∧ clock = c
 | .sta n c _, born, clock => born = n ∧ clock = c
 | _, _, _ => True
structure St where
 t : Nat → V
 b : List (List C)
 r : List (Option RowO)
 m : List (List (DV × DV))
def RowO.form (o : RowO) : Bool × Nat × Nat × Nat := (o.al, o.ver, o.sz, o.xs.length)
def St.sh (s : St) : Sh := ⟨s.b.length, s.r.map (·.map RowO.form), s.m.length⟩
def St.live (s : St) : Loc → Prop
 | .b l => l < s.b.length
 | .r l => ∃ o, s.r[l]? = some (some o) ∧ o.al = true
 | .m l => l < s.m.length
structure Inv where
 I : World → Prop
 N : Nat
 lt : ∀ w : World, I w → N ≤ w.heap.size
 st : ∀ w w' : World, I w → Below N w w' → I w'
structure Lens where
 L : Nat
 R : Nat
 M : Nat
structure Env (J : Inv) (k0 : Lens) where
 w0 : World
 g0 : Gh
 sh0 : Sh
 lent : Nat → Prop
 hL : sh0.L = k0.L
 hR : sh0.rows.length = k0.R
 hM : sh0.M = k0.M
 hI : J.I w0
 hN : ∀ k, lent k → J.N ≤ k
structure BelowX (lent : Nat → Prop) (w w' : World) : Prop where
 os : w'.os = w.os
 tape : w'.tape = w.tape
 output : w'.output = w.output
 size : w.heap.size ≤ w'.heap.size
 block : ∀ k, k < w.heap.size → ¬ lent k → w'.heap[k]? = w.heap[k]?
theorem BelowX.refl (lent : Nat → Prop) (w : World) : BelowX lent w w := ⟨rfl, rfl, rfl, Nat.le_refl _, fun _ _ _ => rfl⟩
theorem BelowX.trans {l1 l2 : Nat → Prop} {w0 w w' : World} (h1 : BelowX l1 w0 w) (h2 : BelowX l2 w w') (hl : ∀ k, l2 k → k < w0.heap.size → l1 k) : BelowX l1 w0 w' :=
 ⟨h2.os.trans h1.os, h2.tape.trans h1.tape, h2.output.trans h1.output, Nat.le_trans h1.size h2.size,
  fun k hk hn => (h2.block k (Nat.lt_of_lt_of_le hk h1.size) (fun h => hn (hl k h hk))).trans (h1.block k hk hn)⟩
theorem BelowX.of {lent : Nat → Prop} {w w' : World} (h : Below w.heap.size w w') : BelowX lent w w' := ⟨h.os, h.tape, h.output, h.size, fun k hk _ => h.block k hk⟩
theorem BelowX.then {lent : Nat → Prop} {w0 w w' : World} (h1 : BelowX lent w0 w) (h2 : Below w.heap.size w w') : BelowX lent w0 w' := h1.trans (BelowX.of (lent := fun _ => False) h2) (fun _ h => h.elim)
structure MapFit (arr : Array MapEntry) (clock n : Nat) : Prop where
 len : arr.size = n
 born : ∀ (i : Nat) (e : MapEntry), arr[i]? = some e → e.born < clock
 dist : ∀ (i j : Nat) (e f : MapEntry), arr[i]? = some e → arr[j]? = some f → e.born = f.born → i = j
def MapFitE (arr : Array MapEntry) (clock : Nat) (es : List (DV × DV)) : Prop :=
 MapFit arr clock es.length ∧ ∀ (i : Nat) (x : DV × DV) (e : MapEntry), es[i]? = some x → arr[i]? = some e → x.1.stamp e.born clock
structure Heap (g : Gh) (s : St) (w : World) : Prop where
 lt : ∀ x, s.live x → g.at_ x < w.heap.size
 new : ∀ x, s.live x → ¬ g.im (g.at_ x)
 inj : ∀ x y, s.live x → s.live y → g.at_ x = g.at_ y → x = y
 box : ∀ (l : Nat) (cs : List C), s.b[l]? = some cs → ∃ vs t, w.heap[g.at_ (.b l)]? = some (.cells vs t (0, 0)) ∧ vs.size = cs.length ∧
  ∀ (j : Nat) (c : C) (v : Value), cs[j]? = some c → vs[j]? = some v → RC g s.sh w c v
 row : ∀ (l : Nat) (o : RowO), s.r[l]? = some (some o) → if o.al then ∃ vs t, w.heap[g.at_ (.r l)]? = some (.cells vs t (0, 0)) ∧ (vs.size = g.off l + g.cap l * o.sz ∧ t = o.ty ∧ g.off l = 0 ∧ g.cap l ≤ maxLen) ∧ o.xs.length ≤ g.cap l ∧
   (∀ x ∈ o.xs, x.length = o.sz) ∧ (∀ v ∈ vs, True) ∧
   (∀ (i j : Nat) (x : List D) (d : D) (v : Value), o.xs[i]? = some x → x[j]? = some d → vs[g.off l + i * o.sz + j]? = some v → RD g.im w d v)
  else o.xs = []
 map : ∀ (l : Nat) (es : List (DV × DV)), s.m[l]? = some es → ∃ arr clock, w.heap[g.at_ (.m l)]? = some (.map arr clock) ∧ MapFitE arr clock es ∧
  ∀ (i : Nat) (x : DV × DV) (e : MapEntry), es[i]? = some x → arr[i]? = some e → RV g s.sh w x.1.v e.key ∧ RV g s.sh w x.2.v e.val
theorem Heap.mono {g g' : Gh} {s : St} {w w' : World} (e : Ext g s.sh w g' s.sh w') (hs : w.heap.size ≤ w'.heap.size) (hi : ∀ x, s.live x → ¬ g'.im (g.at_ x))
  (ha : g'.at_ = g.at_) (ho : g'.off = g.off) (hc : g'.cap = g.cap)
  (hw : ∀ x, s.live x → w'.heap[g.at_ x]? = w.heap[g.at_ x]?) (h : Heap g s w) : Heap g' s w' := by
 refine ⟨fun x hx => by rw [ha]; exact Nat.lt_of_lt_of_le (h.lt x hx) hs, fun x hx => by rw [ha]; exact hi x hx, fun x y hx hy he => h.inj x y hx hy (by rwa [ha] at he), ?_, ?_, ?_⟩
 ·skip
  intro l cs hl
  obtain ⟨vs, t, h1, h2, h3⟩ := h.box l cs hl
  refine ⟨vs, t, by rw [ha, hw (.b l) (List.getElem?_eq_some_iff.1 hl).1]; exact h1, h2, fun j c v hj hv => (h3 j c v hj hv).mono e⟩
 ·skip
  intro l o hl
  have h1 := h.row l o hl
  by_cases hal : o.al = true
  ·skip
   rw [if_pos hal] at h1 ⊢
   obtain ⟨vs, t, h1, h2, h3, h4, h5, h6⟩ := h1
   rw [ha, ho, hc]
   exact ⟨vs, t, by rw [hw (.r l) ⟨o, hl, hal⟩]; exact h1, h2, h3, h4, h5, fun i j x d v a b c => (h6 i j x d v a b c).mono e.im e.same⟩
  ·skip
   rw [if_neg hal] at h1 ⊢; exact h1
 ·skip
  intro l es hl
  obtain ⟨arr, clock, h1, h2, h3⟩ := h.map l es hl
  refine ⟨arr, clock, by rw [ha, hw (.m l) (List.getElem?_eq_some_iff.1 hl).1]; exact h1, h2, fun i x y hx hy => ⟨(h3 i x y hx hy).1.mono e, (h3 i x y hx hy).2.mono e⟩⟩
structure Rel {J : Inv} {k0 : Lens} (E : Env J k0) (n : Nat) (g : Gh) (s : St) (a : Act) (w : World) : Prop where
 below : BelowX E.lent E.w0 w
 ext : Ext E.g0 E.sh0 E.w0 g s.sh w
 imlt : ∀ b, g.im b → b < w.heap.size
 imold : ∀ b, g.im b → E.g0.im b ∨ E.lent b ∨ E.w0.heap.size ≤ b
 own : ∀ x, s.live x → E.lent (g.at_ x) ∨ E.w0.heap.size ≤ g.at_ x
 heap : Heap g s w
 size : a.tmps.size = n
 defers : a.defers = []
 tmps : ∀ i, i < n → RV g s.sh w (s.t i) (a.tmps.getD i undef)
def upd (t : Nat → V) (i : Nat) (v : V) : Nat → V := fun j => bif Nat.beq i j then v else t j
theorem upd_same (t : Nat → V) (i : Nat) (v : V) : upd t i v i = v := by simp [upd]
theorem upd_ne (t : Nat → V) {i j : Nat} (v : V) (h : i ≠ j) : upd t i v j = t j := by
 have : Nat.beq i j = false := by simpa [← Bool.not_eq_true] using h
 simp [upd, this]
def St.set (s : St) (d : Option Nat) (v : V) : St := match d with | some d => ⟨upd s.t d v, s.b, s.r, s.m⟩ | none => s
theorem St.set_sh (s : St) (d : Option Nat) (v : V) : (s.set d v).sh = s.sh := by cases d <;> rfl
theorem St.set_live (s : St) (d : Option Nat) (v : V) : (s.set d v).live = s.live := by cases d <;> (funext x; cases x <;> rfl)
theorem Heap.set {g : Gh} {s : St} {w : World} (h : Heap g s w) (d : Option Nat) (v : V) : Heap g (s.set d v) w := by
 cases d with
 | none => exact h
 | some d => exact ⟨fun x hx => h.lt x (by cases x <;> exact hx), fun x hx => h.new x (by cases x <;> exact hx), fun x y hx hy => h.inj x y (by cases x <;> exact hx) (by cases y <;> exact hy), h.box, h.row, h.map⟩
theorem tmps_put {a : Act} {n : Nat} (hs : a.tmps.size = n) (d : Option Nat) (v : Value) (i : Nat) (hi : i < n) :
  (a.put d v).tmps.getD i undef = if d = some i then v else a.tmps.getD i undef := by
 cases d with
 | none => simp [Act.put]
 | some d =>
  by_cases hd : d = i
  ·skip
   subst hd; simp [Act.put, Array.getD_eq_getD_getElem?, hs, hi]
  ·skip
   simp [Act.put, Array.getD_eq_getD_getElem?, hd]
theorem Ext.trans {g g1 g2 : Gh} {h h1 h2 : Sh} {w w1 w2 : World} (a : Ext g h w g1 h1 w1) (b : Ext g1 h1 w1 g2 h2 w2) : Ext g h w g2 h2 w2 := by
 refine ⟨fun k hk => b.im k (a.im k hk), fun k hk => (b.same k (a.im k hk)).trans (a.same k hk), Nat.le_trans a.lenL b.lenL, Nat.le_trans a.lenM b.lenM, Nat.le_trans a.lenR b.lenR,
  fun l hl => (b.atB l (Nat.lt_of_lt_of_le hl a.lenL)).trans (a.atB l hl), fun l hl => (b.atM l (Nat.lt_of_lt_of_le hl a.lenM)).trans (a.atM l hl), fun r al ver sz len hr hx => ?_⟩
 obtain ⟨al1, ver1, sz1, len1, p1, p2, p3⟩ := b.rows r al ver sz len (Nat.lt_of_lt_of_le hr a.lenR) hx
 obtain ⟨al0, ver0, sz0, len0, q1, q2, q3⟩ := a.rows r al1 ver1 sz1 len1 hr p1
 refine ⟨al0, ver0, sz0, len0, q1, Nat.le_trans q2 p2, fun he => ?_⟩
 obtain ⟨c1, c2, c3, c4, c5, c6⟩ := p3 (by omega)
 obtain ⟨d1, d2, d3, d4, d5, d6⟩ := q3 (by omega)
 exact ⟨d1.trans c1, d2.trans c2, Nat.le_trans d3 c3, c4.trans d4, c5.trans d5, c6.trans d6⟩
theorem Rel.inv {J : Inv} {k0 : Lens} {E : Env J k0} {n : Nat} {g : Gh} {s : St} {a : Act} {w : World} (r : Rel E n g s a w) : J.I w :=
 J.st _ _ E.hI ⟨r.below.os, r.below.tape, r.below.output, r.below.size, fun k hk => r.below.block k (Nat.lt_of_lt_of_le hk (J.lt _ E.hI)) (fun h => absurd (E.hN k h) (by omega))⟩
theorem Rel.put {J : Inv} {k0 : Lens} {E : Env J k0} {n : Nat} {g g' : Gh} {s : St} {a : Act} {w w' : World} (r : Rel E n g s a w) (d : Option Nat) {u : V} {v : Value}
  (hb : BelowX E.lent E.w0 w') (e : Ext g s.sh w g' s.sh w') (h1 : ∀ b, g'.im b → b < w'.heap.size) (h2 : ∀ b, g'.im b → E.g0.im b ∨ E.lent b ∨ E.w0.heap.size ≤ b)
  (ho : ∀ x, s.live x → E.lent (g'.at_ x) ∨ E.w0.heap.size ≤ g'.at_ x) (hx : Heap g' s w') (hv : RV g' s.sh w' u v) : Rel E n g' (s.set d u) (a.put d v) w' := by
 refine ⟨hb, by rw [St.set_sh]; exact r.ext.trans e, h1, h2, fun x hx => ho x (by rwa [St.set_live] at hx), hx.set d u, ?_, ?_, fun i hi => ?_⟩
 ·skip
  cases d <;> simp [Act.put, r.size]
 ·skip
  cases d <;> exact r.defers
 ·skip
  rw [St.set_sh, tmps_put r.size d v i hi]
  cases d with
  | none => rw [if_neg (by simp)]; exact (r.tmps i hi).mono e
  | some d =>
   show RV _ _ _ (upd s.t d u i) _
   by_cases hd : d = i
   ·skip
    subst hd; rw [upd_same]; simpa using hv
   ·skip
    rw [upd_ne _ _ hd, if_neg (by simpa using hd)]; exact (r.tmps i hi).mono e
theorem Rel.put_same {J : Inv} {k0 : Lens} {E : Env J k0} {n : Nat} {g : Gh} {s : St} {a : Act} {w : World} (r : Rel E n g s a w) (d : Option Nat) {u : V} {v : Value}
  (hv : RV g s.sh w u v) : Rel E n g (s.set d u) (a.put d v) w :=
 r.put d r.below (.refl _ _ _) r.imlt r.imold r.own r.heap hv
theorem Rel.drew {J : Inv} {k0 : Lens} {E : Env J k0} {n : Nat} {g : Gh} {s : St} {a : Act} {w : World} (r : Rel E n g s a w) (k : Nat) : Rel E n g s a { w with drawn := k } := by
 have e : Ext g s.sh w g s.sh { w with drawn := k } := .of (fun _ h => h) (fun _ _ => rfl) rfl rfl rfl
 exact ⟨⟨r.below.os, r.below.tape, r.below.output, r.below.size, r.below.block⟩, r.ext.trans e, r.imlt, r.imold, r.own,
  r.heap.mono e (Nat.le_refl _) r.heap.new rfl rfl rfl (fun _ _ => rfl), r.size, r.defers, fun i hi => (r.tmps i hi).mono e⟩
theorem Rel.later {J : Inv} {k0 : Lens} {E : Env J k0} {n : Nat} {g : Gh} {s : St} {a : Act} {w w' : World} (r : Rel E n g s a w) (im' : Nat → Prop) (hb : Below w.heap.size w w')
  (h0 : ∀ b, g.im b → im' b) (h1 : ∀ b, im' b → b < w'.heap.size) (h2 : ∀ b, im' b → g.im b ∨ w.heap.size ≤ b) : Rel E n { g with im := im' } s a w' := by
 have e : Ext g s.sh w { g with im := im' } s.sh w' := .of h0 (fun b h => hb.block b (r.imlt b h)) rfl rfl rfl
 have hB := r.below.size
 refine ⟨r.below.then hb, r.ext.trans e, h1, fun b h => ?_, r.own, ?_, r.size, r.defers, fun i hi => (r.tmps i hi).mono e⟩
 ·skip
  rcases h2 b h with h | h
  ·skip
   exact r.imold b h
  ·skip
   exact .inr (.inr (by omega))
 ·skip
  refine r.heap.mono e hb.size (fun x hx hi => ?_) rfl rfl rfl (fun x hx => hb.block _ (r.heap.lt x hx))
  rcases h2 _ hi with h | h
  ·skip
   exact r.heap.new x hx h
  ·skip
   exact absurd (r.heap.lt x hx) (by omega)
end
section
open Go Go.RowKit
inductive Ex where
 | normal | exit (id : Nat) | ret
def Ex.exit' : Ex → Exit
 | .normal => .normal | .exit id => .exit id | .ret => .ret
def W {J : Inv} {k0 : Lens} (E : Env J k0) (P : Program) (n : Nat) (c : Code) (K : Ex → St → Prop) (s : St) : Prop :=
 ∀ g a w, Rel E n g s a w → c.wp P (fun e a' w' => ∃ x s' g', e = Ex.exit' x ∧ K x s' ∧ Rel E n g' s' a' w') a w
section
variable {J : Inv} {k0 : Lens} {E : Env J k0} {P : Program} {n : Nat} {K K' : Ex → St → Prop} {s : St}
theorem W.mono {c : Code} (h : W E P n c K s) (hk : ∀ e s, K e s → K' e s) : W E P n c K' s :=
 fun g a w r => wp_mono (h g a w r) (fun _ _ _ ⟨x, s', g', h1, h2, h3⟩ => ⟨x, s', g', h1, hk _ _ h2, h3⟩)
theorem W.weaken {c : Code} {s' : St} (h : W E P n c K s') (hr : ∀ g a w, Rel E n g s a w → ∃ g', Rel E n g' s' a w) : W E P n c K s :=
 fun g a w r => let ⟨g', r'⟩ := hr g a w r; h g' a w r'
theorem W.skip (h : K .normal s) : W E P n .skip K s := fun g a w r => wp_skip ⟨.normal, s, g, rfl, h, r⟩
theorem W.exit {id : Nat} (h : K (.exit id) s) : W E P n (.exit id) K s := fun g a w r => wp_exit ⟨.exit id, s, g, rfl, h, r⟩
theorem W.ret (h : K .ret s) : W E P n .ret K s := fun g a w r => wp_ret ⟨.ret, s, g, rfl, h, r⟩
def thenK (next : St → Prop) (K : Ex → St → Prop) : Ex → St → Prop
 | .normal, s => next s
 | e, s => K e s
theorem W.seq {x y : Code} (h : W E P n x (thenK (W E P n y K) K) s) : W E P n (.seq x y) K s := by
 intro g a w r
 refine wp_seq (wp_mono (h g a w r) ?_)
 rintro _ a' w' ⟨e, s', g', rfl, hk, r'⟩
 cases e with
 | normal => exact hk g' a' w' r'
 | exit id => exact ⟨.exit id, s', g', rfl, hk, r'⟩
 | ret => exact ⟨.ret, s', g', rfl, hk, r'⟩
def blockK (id : Nat) (K : Ex → St → Prop) : Ex → St → Prop
 | .exit j, s => bif Nat.beq j id then K .normal s else K (.exit j) s
 | e, s => K e s
theorem W.block {id : Nat} {c : Code} (h : W E P n c (blockK id K) s) : W E P n (.block id c) K s := by
 intro g a w r
 refine wp_block (wp_mono (h g a w r) ?_)
 rintro _ a' w' ⟨e, s', g', rfl, hk, r'⟩
 cases e with
 | normal => exact ⟨.normal, s', g', rfl, hk, r'⟩
 | exit j =>
  show if j = id then _ else _
  by_cases hj : j = id
  ·skip
   rw [if_pos hj]
   subst hj
   have : K .normal s' := by simpa [blockK] using hk
   exact ⟨.normal, s', g', rfl, this, r'⟩
  ·skip
   rw [if_neg hj]
   have hb : Nat.beq j id = false := by simpa [← Bool.not_eq_true] using hj
   have : K (.exit j) s' := by simpa [blockK, hb] using hk
   exact ⟨.exit j, s', g', rfl, this, r'⟩
 | ret => exact ⟨.ret, s', g', rfl, hk, r'⟩
theorem W.loop {c : Code} (I : Nat → St → Prop) (m : Nat) (h0 : I m s)
  (round : ∀ m s, I m s → W E P n c (thenK (fun s' => ∃ m', m' < m ∧ I m' s') K) s) : W E P n (.loop c) K s := by
 intro g a w r
 refine wp_loop_ghost (fun m a w => ∃ s g, I m s ∧ Rel E n g s a w) m ⟨s, g, h0, r⟩ ?_
 rintro m a w ⟨s, g, hi, r⟩
 refine wp_mono (round m s hi g a w r) ?_
 rintro _ a' w' ⟨e, s', g', rfl, hk, r'⟩
 cases e with
 | normal => obtain ⟨m', h1, h2⟩ := hk; exact ⟨m', h1, s', g', h2, r'⟩
 | exit id => exact ⟨.exit id, s', g', rfl, hk, r'⟩
 | ret => exact ⟨.ret, s', g', rfl, hk, r'⟩
mutual
def constC : Value → C
  | .int k m => .d (.int k m)
  | .bool b => .d (.bool b)
  | .string s => .d (.str s.data.toList)
  | .slice none 0 0 => .d .nilsl
  | .map none => .d .nilmap
  | .pointer none => .d .nilptr
  | .nilIface => .d (.err true)
  | _ => .junk
end
def constV : Value → V
 | .agg cs => .agg (cs.toList.map constC)
 | .tuple _ => .junk
 | .float _ _ => .junk
 | v => .one (constC v)
def strip : V → Bool × V
 | .when b v => let r := strip v; (b && r.1, r.2)
 | v => (true, v)
def opdV (s : St) : Operand → V
 | .tmp t => s.t t
 | .const v => constV v
 | .func f => .one (.d (.fn f))
 | .global _ => .junk
theorem constC_ok (g : Gh) (h : Sh) (w : World) (v : Value) (hv : v.oneCell' = true) : RC g h w (constC v) v := by
 unfold constC
 split <;> first | exact .d _ _ (.int _ _) | exact .d _ _ (.bool _) | exact .d _ _ (.str _) | exact .d _ _ .nilsl | exact .d _ _ .nilmap | exact .d _ _ .nilptr | exact .d _ _ .errNil | exact .junk _ hv
def constOk : Value → Bool
 | .agg cs => cs.toList.all (·.oneCell')
 | _ => true
theorem constV_ok (g : Gh) (h : Sh) (w : World) (v : Value) (hv : constOk v = true) : RV g h w (constV v) v := by
  unfold constV
  split
  · rename_i cs
    have := RV.agg (g := g) (h := h) (w := w) (cs.toList.map constC) cs.toList (by simp) (fun i c v h1 h2 => by
      simp only [List.getElem?_map, h2, Option.map_some, Option.some.injEq] at h1
      subst h1
      refine constC_ok g h w v ?_
      have hm : v ∈ cs := by have := List.mem_of_getElem? h2; simpa using this
      simp only [constOk, List.all_eq_true, Array.mem_toList_iff] at hv
      exact hv v hm)
    simpa using this
  · exact .junk _
  · exact .junk _
  · rename_i h1 h2 h3
    refine .one _ _ (constC_ok g h w _ ?_)
    cases v <;> first | rfl | (exfalso; first | exact h1 _ rfl | exact h2 _ rfl)
def opdOk : Operand → Bool
 | .const v => constOk v
 | _ => true
theorem opdV_ok {g : Gh} {a : Act} {w : World} (r : Rel E n g s a w) (x : Operand) (hx : opdOk x = true) (hn : ∀ t, x = .tmp t → t < n) : RV g s.sh w (opdV s x) (a.eval x) := by
 cases x with
 | tmp t => exact r.tmps t (hn t rfl)
 | const v => exact constV_ok _ _ _ _ hx
 | func f => exact .one _ _ (.d _ _ (.fn f))
 | global g => exact .junk _
theorem strip_ok {g : Gh} {h : Sh} {w : World} : ∀ {u : V} {v : Value}, RV g h w u v → (strip u).1 = true → RV g h w (strip u).2 v
  | .when b u, v, hx, hb => by
    cases hx with
    | whenT _ _ hy => exact strip_ok (u := u) (v := v) hy (by simpa [strip] using hb)
    | whenF _ => simp [strip] at hb
  | .one c, v, hx, hb => hx
  | .agg c, v, hx, hb => hx
  | .tup c, v, hx, hb => hx
  | .junk, v, hx, hb => hx
def tmpOk (n : Nat) : Operand → Bool
 | .tmp t => Nat.blt t n
 | x => opdOk x
def opd (n : Nat) (s : St) (x : Operand) : Bool × V := let r := strip (opdV s x); (tmpOk n x && r.1, r.2)
theorem opd_ok {g : Gh} {a : Act} {w : World} (r : Rel E n g s a w) {x : Operand} {b : Bool} {v : V} (hx : opd n s x = (b, v)) (hb : b = true) : RV g s.sh w v (a.eval x) := by
 simp only [opd, Prod.mk.injEq] at hx
 obtain ⟨h1, rfl⟩ := hx
 rw [← h1, Bool.and_eq_true] at hb
 refine strip_ok (opdV_ok r x (by cases x <;> first | rfl | exact hb.1) (fun t ht => by subst ht; simpa [tmpOk, Nat.blt_eq] using hb.1)) hb.2
theorem W.cond {x y : Code} {c : Operand} {b : Bool} (hc : opd n s c = (true, .one (.d (.bool b))))
  (ht : b = true → W E P n x K s) (hf : b = false → W E P n y K s) : W E P n (.cond c x y) K s := by
 intro g a w r
 have h := opd_ok r hc rfl
 obtain ⟨v, hv⟩ : ∃ v, v = a.eval c := ⟨_, rfl⟩
 rw [← hv] at h
 cases h with | one _ _ h => cases h with | d _ _ h => cases h with | bool =>
 exact wp_cond_split hv.symm (fun e => ht e g a w r) (fun e => hf e g a w r)
def Step {J : Inv} {k0 : Lens} (E : Env J k0) (P : Program) (n : Nat) (ops : Array Oper) (o : Oper) (K : St → Prop) (s : St) : Prop :=
 ∀ g a w, Rel E n g s a w → ∀ (next : Act → World → Prop) (Q : Exit → Act → World → Prop), (∀ s' g' a' w', K s' → Rel E n g' s' a' w' → next a' w') →
  if Region.wanted o (yielded ops a.tmps) then o.wp P a w next Q else next (a.put o.dst undef) w
def WL {J : Inv} {k0 : Lens} (E : Env J k0) (P : Program) (n : Nat) (ops : Array Oper) : List Oper → (St → Prop) → St → Prop
 | [], K, s => K s
 | o :: l, K, s => Step E P n ops o (WL E P n ops l K) s
theorem wpOps_of_WL {ops : Array Oper} {Q : Exit → Act → World → Prop} {K : St → Prop} : ∀ (l : List Oper) (k : Nat) (s : St), ops.toList.drop k = l → WL E P n ops l K s →
    ∀ g a w, Rel E n g s a w → (∀ s' g' a' w', K s' → Rel E n g' s' a' w' → Q .normal a' w') → wpOps P ops Q (List.range' k l.length) a w
  | [], k, s, hl, h, g, a, w, r, hq => hq s g a w h r
  | o :: l, k, s, hl, h, g, a, w, r, hq => by
    have ho : ops[k]? = some o := by
      have := congrArg (fun x => x[0]?) hl
      simpa using this
    have ht : ops.toList.drop (k + 1) = l := by
      have := congrArg (List.drop 1) hl
      simpa [List.drop_drop, Nat.add_comm] using this
    have h1 := h g a w r (wpOps P ops Q (List.range' (k + 1) l.length)) Q (fun s' g' a' w' hk r' => wpOps_of_WL l (k + 1) s' ht hk g' a' w' r' hq)
    simp only [List.length_cons, List.range'_succ]
    unfold wpOps
    simp only [ho]
    split
    · rename_i hw; rw [if_pos hw] at h1; exact .inl h1
    · rename_i hw; rw [if_neg hw] at h1; exact h1
theorem W.region {id : Nat} {l : List Oper} (h : WL E P n l.toArray l (K .normal) s) : W E P n (.region id l.toArray false) K s := by
 intro g a w r
 refine wp_region ?_
 have := wpOps_of_WL (Q := fun e a' w' => ∃ x s' g', e = Ex.exit' x ∧ K x s' ∧ Rel E n g' s' a' w') l 0 s (by simp) h g a w r (fun s' g' a' w' hk r' => ⟨.normal, s', g', rfl, hk, r'⟩)
 simpa [List.range_eq_range'] using this
def argsV : List V → Nat → V
 | [], _ => .junk
 | v :: l, i => match i with | 0 => v | i + 1 => argsV l i
mutual
def pureC : C → Bool
  | .d _ => true
  | .clo _ caps => pureCs caps
  | _ => false
def pureCs : List C → Bool
  | [] => true
  | c :: l => pureC c && pureCs l
end
def pureV : V → Bool
 | .one c => pureC c
 | .agg cs => pureCs cs
 | _ => false
def noGh (im : Nat → Prop) : Gh := ⟨im, fun _ => 0, fun _ => 0, fun _ => 0⟩
def noSh : Sh := ⟨0, [], 0⟩
structure PureCall (P : Program) (J : Inv) (f : FuncId) (args : List V) (r : V) : Prop where
 enter : ∃ fn, P.funcs[f]? = some fn ∧ (fn.name == "runtime.NumGoroutine") = false ∧ fn.body.isNone = false
 calls : ∀ (im : Nat → Prop) (w : World) (vs : List Value), J.I w → (∀ b, im b → b < w.heap.size) → vs.length = args.length →
  (∀ (i : Nat) (u : V) (v : Value), args[i]? = some u → vs[i]? = some v → RV (noGh im) noSh w u v) →
  Calls P f vs.toArray w fun e w' => ∃ v im', e = .returned v ∧ Below w.heap.size w w' ∧ (∀ b, im b → im' b) ∧ (∀ b, im' b → b < w'.heap.size) ∧
   (∀ b, im' b → im b ∨ w.heap.size ≤ b) ∧ RV (noGh im') noSh w' r v
end
end
section
open Go Go.RowKit
structure TI where
 desc : TypeDesc
 size : Nat
 zero : Value
 bytes : Nat
 plain : Bool := false
def TiOk (P : Program) (t : TypeId) (i : TI) : Prop :=
 P.underlying t = some i.desc ∧ ∃ info, P.info? t = some info ∧ info.size = i.size ∧ info.zero = some i.zero ∧ info.bytes = i.bytes ∧ (i.plain = true → P.eqGuardType P.depth t = false ∧ P.stoodInHeld t = false)
def TabOk (P : Program) (T : TypeId → Option TI) : Prop := ∀ t i, T t = some i → TiOk P t i
def tabFind : List (Nat × TI) → TypeId → Option TI
 | [], _ => none
 | (k, i) :: l, t => bif Nat.beq k t then some i else tabFind l t
def AllOk (P : Program) : List (Nat × TI) → Prop
 | [] => True
 | (k, i) :: l => TiOk P k i ∧ AllOk P l
theorem tabOk_of {P : Program} : ∀ {l : List (Nat × TI)}, AllOk P l → TabOk P (tabFind l)
  | [], _, t, i, h => by cases h
  | (k, j) :: l, h, t, i, hf => by
    unfold tabFind at hf
    by_cases hk : Nat.beq k t = true
    · rw [hk] at hf
      obtain rfl : j = i := by simpa using hf
      obtain rfl : k = t := by simpa using hk
      exact h.1
    · have : Nat.beq k t = false := by cases hb : Nat.beq k t <;> simp_all
      rw [this] at hf
      exact tabOk_of h.2 t i (by simpa using hf)
def isAggD : TypeDesc → Bool
 | .struct _ | .array _ _ => true
 | _ => false
section
variable {P : Program} {T : TypeId → Option TI} {w : World}
theorem run_underlying' (hT : TabOk P T) {t : TypeId} {i : TI} (h : T t = some i) : (underlying t).run P w = .ok i.desc w := by
 simp [underlying, (hT t i h).1]
theorem run_sizeOf' (hT : TabOk P T) {t : TypeId} {i : TI} (h : T t = some i) : (sizeOf t).run P w = .ok i.size w := by
 obtain ⟨_, info, h1, h2, _⟩ := hT t i h
 simp [sizeOf, typeInfo, h1, h2]
theorem run_zeroValue' (hT : TabOk P T) {t : TypeId} {i : TI} (h : T t = some i) : (zeroValue t).run P w = .ok i.zero w := by
 obtain ⟨_, info, h1, _, h2, _⟩ := hT t i h
 simp [zeroValue, typeInfo, h1, h2]
theorem run_isAgg' (hT : TabOk P T) {t : TypeId} {i : TI} (h : T t = some i) : (isAgg t).run P w = .ok (isAggD i.desc) w := by
 simp only [isAgg, Sem.run_bind, run_underlying' hT h, Result.andThen_ok, isAggD]
 cases i.desc <;> rfl
end
def eqCell (t : TypeDesc) (a b : C) : Option Bool :=
 match t, a, b with
 | .int _, .d (.int k x), .d (.int k' y) => if k = k' then some (x == y) else none
 | .bool, .d (.bool x), .d (.bool y) => some (x == y)
 | .string, .d (.str x), .d (.str y) => some (x == y)
 | _, _, _ => none
def andO (a b : Option Bool) : Option Bool :=
 match a, b with
 | some x, some y => some (x && y)
 | _, _ => none
def eqF (T : TypeId → Option TI) (rec : TypeId → List C → List C → Option Bool) : List Field → List C → List C → Option Bool
  | [], _, _ => some true
  | f :: fs, xs, ys =>
    if f.name == "_" then none else
    match T f.type with
    | some i => andO (if isAggD i.desc then rec f.type ((xs.drop f.offset).take i.size) ((ys.drop f.offset).take i.size)
        else match xs[f.offset]?, ys[f.offset]? with
          | some a, some b => eqCell i.desc a b
          | _, _ => none) (eqF T rec fs xs ys)
    | none => none
def eqS (T : TypeId → Option TI) : Nat → TypeId → List C → List C → Option Bool
  | 0, _, _, _ => none
  | d + 1, t, xs, ys =>
    match T t with
    | some i => match i.plain, i.desc with
      | true, .struct fs => eqF T (eqS T d) fs.toList xs ys
      | _, _ => none
    | none => none
theorem eqCell_ok {P : Program} {g : Gh} {h : Sh} {w : World} {t : TypeId} {td : TypeDesc} {a b : C} {u v : Value} {r : Bool} {d : Nat}
    (ht : P.underlying t = some td) (ha : RC g h w a u) (hb : RC g h w b v) (he : eqCell td a b = some r) : (Op.equalIn (d + 1) t u v).run P w = .ok r w := by
  unfold eqCell at he
  split at he
  · cases ha with | d _ _ ha => cases ha with | int => cases hb with | d _ _ hb => cases hb with | int =>
    split at he
    · rename_i hk; subst hk; obtain rfl : _ = r := by simpa using he
      exact run_equalIn_int w d t _ _ _ _ ht
    · cases he
  · cases ha with | d _ _ ha => cases ha with | bool => cases hb with | d _ _ hb => cases hb with | bool =>
    obtain rfl : _ = r := by simpa using he
    exact run_equalIn_bool w d t _ _ ht
  · cases ha with | d _ _ ha => cases ha with | str => cases hb with | d _ _ hb => cases hb with | str =>
    obtain rfl : _ = r := by simpa using he
    rw [run_equalIn_string w d t _ _ ht]; simp
  · cases he
def partC (i : TI) (cs : List C) (off : Nat) : Option V :=
 if isAggD i.desc then (if off + i.size ≤ cs.length then some (.agg ((cs.drop off).take i.size)) else none) else (cs[off]?).map .one
theorem aggs_sub {g : Gh} {h : Sh} {w : World} {cs : List C} {vs : List Value} (hl : vs.length = cs.length)
  (hx : ∀ (i : Nat) (c : C) (v : Value), cs[i]? = some c → vs[i]? = some v → RC g h w c v) (off n : Nat) :
  RV g h w (.agg ((cs.drop off).take n)) (.agg ((vs.drop off).take n).toArray) := by
 refine .agg _ _ (by simp [hl]) (fun i c v h1 h2 => ?_)
 rw [List.getElem?_take] at h1 h2
 split at h1
 ·skip
  rename_i hi
  rw [if_pos hi, List.getElem?_drop] at h2
  rw [List.getElem?_drop] at h1
  exact hx _ _ _ h1 h2
 ·skip
  cases h1
theorem extract_toArray (vs : List Value) (off n : Nat) : (vs.toArray.extract off (off + n)) = ((vs.drop off).take n).toArray := by
 simp [List.extract_toArray, List.extract_eq_take_drop]
theorem partC_ok {P : Program} {T : TypeId → Option TI} (hT : TabOk P T) {g : Gh} {h : Sh} {w : World} {cs : List C} {vs : List Value} (hl : vs.length = cs.length)
    (hx : ∀ (i : Nat) (c : C) (v : Value), cs[i]? = some c → vs[i]? = some v → RC g h w c v) {t : TypeId} {i : TI} (ht : T t = some i) {off : Nat} {r : V}
    (hp : partC i cs off = some r) : ∃ z, (part t vs.toArray off).run P w = .ok z w ∧ RV g h w r z := by
  unfold partC at hp
  unfold part
  simp only [Sem.run_bind, run_isAgg' hT ht, Result.andThen_ok]
  split at hp
  · rename_i ha
    split at hp
    · obtain rfl : _ = r := by simpa using hp
      rw [if_pos ha]
      simp only [Sem.run_bind, run_sizeOf' hT ht, Result.andThen_ok, Sem.run_pure]
      exact ⟨_, rfl, by rw [extract_toArray]; exact aggs_sub hl hx off i.size⟩
    · cases hp
  · rename_i ha
    rw [if_neg ha]
    obtain ⟨c, hc, rfl⟩ : ∃ c, cs[off]? = some c ∧ V.one c = r := by simpa using hp
    have hlt := (List.getElem?_eq_some_iff.1 hc).1
    have hv : vs[off]? = some vs[off] := List.getElem?_eq_getElem (by omega)
    have hv' : vs.toArray[off]? = some vs[off] := by simpa using hv
    simp only [hv', Sem.run_pure]
    exact ⟨_, rfl, .one _ _ (hx off c _ hc hv)⟩
theorem eqF_ok {P : Program} {T : TypeId → Option TI} (hT : TabOk P T) {g : Gh} {h : Sh} {w : World} (d : Nat) (rec : TypeId → List C → List C → Option Bool) (hrec : ∀ (t : TypeId) (xs ys : List C) (us vs : List Value) (r : Bool) (k : Nat),
    us.length = xs.length → (∀ (i : Nat) (c : C) (v : Value), xs[i]? = some c → us[i]? = some v → RC g h w c v) →
    vs.length = ys.length → (∀ (i : Nat) (c : C) (v : Value), ys[i]? = some c → vs[i]? = some v → RC g h w c v) → rec t xs ys = some r → d ≤ k →
    (Op.equalIn (k + 1) t (.agg us.toArray) (.agg vs.toArray)).run P w = .ok r w) : ∀ (fs : List Field) (xs ys : List C) (us vs : List Value) (r : Bool) (k : Nat),
    us.length = xs.length → (∀ (i : Nat) (c : C) (v : Value), xs[i]? = some c → us[i]? = some v → RC g h w c v) →
    vs.length = ys.length → (∀ (i : Nat) (c : C) (v : Value), ys[i]? = some c → vs[i]? = some v → RC g h w c v) → eqF T rec fs xs ys = some r → d + 1 ≤ k →
    (Op.eqFields k us.toArray vs.toArray fs).run P w = .ok r w
  | [], xs, ys, us, vs, r, k, h1, h2, h3, h4, he, hk => by
    obtain rfl : true = r := by simpa [eqF] using he
    simp [Op.eqFields]
  | f :: fs, xs, ys, us, vs, r, k, h1, h2, h3, h4, he, hk => by
    unfold eqF at he
    split at he
    · cases he
    · rename_i hn
      split at he
      · rename_i i ht
        unfold andO at he
        split at he
        · rename_i a b ha hb
          obtain rfl : (a && b) = r := by simpa using he
          have ih := eqF_ok (g := g) (h := h) hT d rec hrec fs xs ys us vs b k h1 h2 h3 h4 hb hk
          have hn' : f.name ≠ "_" := by simpa using hn
          obtain ⟨k, rfl⟩ : ∃ m, k = m + 1 := ⟨k - 1, by omega⟩
          have key : ∃ u v, (part f.type us.toArray f.offset).run P w = .ok u w ∧ (part f.type vs.toArray f.offset).run P w = .ok v w ∧ (Op.equalIn (k + 1) f.type u v).run P w = .ok a w := by
            split at ha
            · rename_i hagg
              refine ⟨.agg (us.toArray.extract f.offset (f.offset + i.size)), .agg (vs.toArray.extract f.offset (f.offset + i.size)), by simp only [part, Sem.run_bind, run_isAgg' hT ht, Result.andThen_ok, if_pos hagg, run_sizeOf' hT ht, Sem.run_pure],
                by simp only [part, Sem.run_bind, run_isAgg' hT ht, Result.andThen_ok, if_pos hagg, run_sizeOf' hT ht, Sem.run_pure], ?_⟩
              rw [extract_toArray, extract_toArray]
              have e1 := aggs_sub h1 h2 f.offset i.size
              have e2 := aggs_sub h3 h4 f.offset i.size
              refine hrec f.type _ _ _ _ a k (by simp [h1]) (fun j c v hc hv => ?_) (by simp [h3]) (fun j c v hc hv => ?_) ha (by omega)
              · cases e1 with | agg _ _ _ hx => exact hx j c v hc hv
              · cases e2 with | agg _ _ _ hx => exact hx j c v hc hv
            · rename_i hagg
              split at ha
              · rename_i c1 c2 hc1 hc2
                have l1 := (List.getElem?_eq_some_iff.1 hc1).1
                have l2 := (List.getElem?_eq_some_iff.1 hc2).1
                have hv1 : us[f.offset]? = some us[f.offset] := List.getElem?_eq_getElem (by omega)
                have hv2 : vs[f.offset]? = some vs[f.offset] := List.getElem?_eq_getElem (by omega)
                have hv1' : us.toArray[f.offset]? = some us[f.offset] := by simpa using hv1
                have hv2' : vs.toArray[f.offset]? = some vs[f.offset] := by simpa using hv2
                exact ⟨_, _, by simp only [part, Sem.run_bind, run_isAgg' hT ht, Result.andThen_ok, if_neg hagg, hv1', Sem.run_pure],
                  by simp only [part, Sem.run_bind, run_isAgg' hT ht, Result.andThen_ok, if_neg hagg, hv2', Sem.run_pure],
                  eqCell_ok (hT _ _ ht).1 (h2 _ _ _ hc1 hv1) (h4 _ _ _ hc2 hv2) ha⟩
              · cases ha
          obtain ⟨u, v, p1, p2, p3⟩ := key
          simp only [Op.eqFields, if_pos hn', Sem.run_bind, p1, p2, p3, Result.andThen_ok]
          cases a
          · simp
          · simpa using ih
        · cases he
      · cases he
theorem eqS_ok {P : Program} {T : TypeId → Option TI} (hT : TabOk P T) {g : Gh} {h : Sh} {w : World} : ∀ (d : Nat) (t : TypeId) (xs ys : List C) (us vs : List Value) (r : Bool) (k : Nat),
    us.length = xs.length → (∀ (i : Nat) (c : C) (v : Value), xs[i]? = some c → us[i]? = some v → RC g h w c v) →
    vs.length = ys.length → (∀ (i : Nat) (c : C) (v : Value), ys[i]? = some c → vs[i]? = some v → RC g h w c v) → eqS T d t xs ys = some r → d ≤ k →
    (Op.equalIn (k + 1) t (.agg us.toArray) (.agg vs.toArray)).run P w = .ok r w
  | 0, t, xs, ys, us, vs, r, k, h1, h2, h3, h4, he, hk => by simp [eqS] at he
  | d + 1, t, xs, ys, us, vs, r, k, h1, h2, h3, h4, he, hk => by
    unfold eqS at he
    split at he
    · rename_i i ht
      split at he
      · rename_i fs hp hd
        have hu := (hT t i ht).1
        rw [hd] at hu
        have hpl := ((hT t i ht).2.choose_spec.2.2.2.2 hp)
        have hf : P.fieldsOf t = fs := by simp [Program.fieldsOf, hu]
        rw [run_equalIn_struct (P := P) w k t _ _ (by rw [hf]; exact hu) hpl.2, hf]
        exact eqF_ok (g := g) (h := h) hT d (eqS T d) (eqS_ok hT d) fs.toList xs ys us vs r k h1 h2 h3 h4 he hk
      · cases he
    · cases he
def andI (k : IntKind) (a b : Int) : Int := k.wrap (((BitVec.ofInt k.bits a &&& BitVec.ofInt k.bits b).toNat : Nat) : Int)
def orI (k : IntKind) (a b : Int) : Int := k.wrap (((BitVec.ofInt k.bits a ||| BitVec.ofInt k.bits b).toNat : Nat) : Int)
def xorI (k : IntKind) (a b : Int) : Int := k.wrap (((BitVec.ofInt k.bits a ^^^ BitVec.ofInt k.bits b).toNat : Nat) : Int)
def shlI (k : IntKind) (a b : Int) : Int := k.wrap (a * 2 ^ (min b.toNat k.bits))
def shrI (k : IntKind) (a b : Int) : Int := a.fdiv (2 ^ (min b.toNat k.bits))
def shiftOp : BinOp → Bool
 | .shl => true
 | .shr => true
 | _ => false
def evBin (T : TypeId → Option TI) (op : BinOp) (t : TypeId) (cst : Bool) : V → V → Option (Bool × V)
 | .one (.d (.int k a)), .one (.d (.int k' b)) => if shiftOp op then
   match op with
   | .shl => some (decide (0 ≤ b), .one (.d (.int k (shlI k a b))))
   | .shr => some (decide (0 ≤ b), .one (.d (.int k (shrI k a b))))
   | _ => none
  else if k = k' then
   match op with
   | .and => some (true, .one (.d (.int k (andI k a b))))
   | .or => some (true, .one (.d (.int k (orI k a b))))
   | .xor => some (true, .one (.d (.int k (xorI k a b))))
   | .add => some (true, .one (.d (.int k (k.wrap (a + b)))))
   | .sub => some (true, .one (.d (.int k (k.wrap (a - b)))))
   | .mul => some (true, .one (.d (.int k (k.wrap (a * b)))))
   | .quo => some (!(b == 0), .one (.d (.int k (k.wrap (a.tdiv b)))))
   | .rem => some (!(b == 0), .one (.d (.int k (a.tmod b))))
   | .eql => some (true, .one (.d (.bool (a == b))))
   | .neq => some (true, .one (.d (.bool (a != b))))
   | .lss => some (true, .one (.d (.bool (decide (a < b)))))
   | .leq => some (true, .one (.d (.bool (decide (a ≤ b)))))
   | .gtr => some (true, .one (.d (.bool (decide (a > b)))))
   | .geq => some (true, .one (.d (.bool (decide (a ≥ b)))))
   | _ => none
  else none
 | .one (.d (.str a)), .one (.d (.str b)) =>
   match op with
   | .add => some (decide (a.length + b.length ≤ 4611686018427387904), .one (.d (.str (a ++ b))))
   | .eql => some (true, .one (.d (.bool (a == b))))
   | .neq => some (true, .one (.d (.bool (!(a == b)))))
   | .lss => some (true, .one (.d (.bool (Op.bytesLess a b))))
   | .leq => some (true, .one (.d (.bool (Op.bytesLess a b || a == b))))
   | .gtr => some (true, .one (.d (.bool (!(Op.bytesLess a b || a == b)))))
   | .geq => some (true, .one (.d (.bool (!(Op.bytesLess a b)))))
   | _ => none
 | .one (.d (.bool a)), .one (.d (.bool b)) =>
   match T t, op with
   | some { desc := .bool, .. }, .eql => some (true, .one (.d (.bool (a == b))))
   | some { desc := .bool, .. }, .neq => some (true, .one (.d (.bool (!(a == b)))))
   | _, _ => none
 | .one (.d (.err a)), .one (.d (.err true)) =>
   match T t, op, cst with
   | some { desc := .interface _, .. }, .eql, true => some (true, .one (.d (.bool a)))
   | some { desc := .interface _, .. }, .neq, true => some (true, .one (.d (.bool (!a))))
   | _, _, _ => none
 | .agg xs, .agg ys =>
   match op, eqS T 20 t xs ys with
   | .eql, some b => some (true, .one (.d (.bool b)))
   | .neq, some b => some (true, .one (.d (.bool (!b))))
   | _, _ => none
 | _, _ => none
theorem eqGuard_int {P : Program} {w : World} {op : BinOp} {t : TypeId} {x y : Operand} (k k' : IntKind) (a b : Int) : (eqGuard op t x y (.int k a) (.int k' b)).run P w = .ok () w := by
 cases op <;> rfl
theorem eqGuard_str {P : Program} {w : World} {op : BinOp} {t : TypeId} {x y : Operand} (a b : ByteArray) : (eqGuard op t x y (.string a) (.string b)).run P w = .ok () w := by
 cases op <;> rfl
theorem eqGuard_bool {P : Program} {w : World} {op : BinOp} {t : TypeId} {x y : Operand} (a b : Bool) : (eqGuard op t x y (.bool a) (.bool b)).run P w = .ok () w := by
 cases op <;> rfl
theorem eqGuard_iface {P : Program} {w : World} {op : BinOp} {t : TypeId} {x y : Operand} (u : TypeId) (v b : Value) : (eqGuard op t x y (.iface u v) b).run P w = .ok () w := by
 cases op <;> cases b <;> rfl
theorem eqGuard_nil {P : Program} {w : World} {op : BinOp} {t : TypeId} {x y : Operand} (hc : ((x matches .const _) || (y matches .const _)) = true) :
  (eqGuard op t x y .nilIface .nilIface).run P w = .ok () w := by
 cases op <;> first | rfl | (cases x <;> cases y <;> first | rfl | cases hc)
theorem run_equalIn_err {P : Program} {w : World} (d : Nat) {t : TypeId} {ms : Array (String × TypeId)} (ht : P.underlying t = some (.interface ms)) (v : Value) (hv : v = .nilIface ∨ ∃ a b, v = .iface a b) :
  (Op.equalIn (d + 1) t v .nilIface).run P w = .ok (match v with | .nilIface => true | _ => false) w := by
 rcases hv with rfl | ⟨a, b, rfl⟩ <;> simp only [Op.equalIn, Sem.run_bind, run_underlying ht, Result.andThen_ok, Sem.run_pure]
theorem run_equal_err {P : Program} {w : World} {t : TypeId} {ms : Array (String × TypeId)} (ht : P.underlying t = some (.interface ms)) (v : Value) (hv : v = .nilIface ∨ ∃ a b, v = .iface a b) :
  (Op.equal t v .nilIface).run P w = .ok (match v with | .nilIface => true | _ => false) w := run_equalIn_err 9999 ht v hv
theorem evBin_ok {P : Program} {T : TypeId → Option TI} (hT : TabOk P T) {g : Gh} {h : Sh} {w : World} {op : BinOp} {cst : Bool} {t : TypeId} {x y : Operand} {u v : V} {a b : Value} {ok : Bool} {r : V}
    (he : evBin T op t cst u v = some (ok, r)) (hok : ok = true) (hu : RV g h w u a) (hv : RV g h w v b) (hc : cst = true → ((x matches .const _) || (y matches .const _)) = true) :
    ∃ z, ((do eqGuard op t x y a b; Go.binOp op t a b) : Sem Value).run P w = .ok z w ∧ RV g h w r z := by
  subst hok
  unfold evBin at he
  split at he
  · rename_i k a' k' b'
    cases hu with | one _ _ hu => cases hu with | d _ _ hu => cases hu with | int =>
    cases hv with | one _ _ hv => cases hv with | d _ _ hv => cases hv with | int =>
    split at he
    · rename_i hsh
      cases op <;> simp only [shiftOp, Bool.false_eq_true] at hsh <;> simp only [Option.some.injEq, Prod.mk.injEq] at he <;>
        (obtain ⟨h0, rfl⟩ := he
         have h1 : ¬ b' < 0 := by have := of_decide_eq_true h0; omega
         exact ⟨_, by simp only [Sem.run_bind, eqGuard_int, Result.andThen_ok, Go.binOp, Op.shift, if_neg h1]; rfl, .one _ _ (.d _ _ (by constructor))⟩)
    split at he
    · rename_i hk
      subst hk
      cases op <;> simp only [Option.some.injEq, Prod.mk.injEq, reduceCtorEq, true_and] at he <;>
        first
        | (subst he
           exact ⟨_, by simp only [Sem.run_bind, eqGuard_int, Result.andThen_ok, Go.binOp, ne_eq, not_true_eq_false, if_false]; rfl, .one _ _ (.d _ _ (by constructor))⟩)
        | (obtain ⟨h0, rfl⟩ := he
           have h1 : ¬ b' = 0 := by simpa using h0
           exact ⟨_, by simp only [Sem.run_bind, eqGuard_int, Result.andThen_ok, Go.binOp, ne_eq, not_true_eq_false, if_false, Op.intDiv, if_neg h1]; rfl, .one _ _ (.d _ _ (by constructor))⟩)
    · cases he
  · rename_i a' b'
    cases hu with | one _ _ hu => cases hu with | d _ _ hu => cases hu with | str =>
    cases hv with | one _ _ hv => cases hv with | d _ _ hv => cases hv with | str =>
    cases op <;> simp only [Option.some.injEq, Prod.mk.injEq, reduceCtorEq, true_and] at he
    case add =>
      obtain ⟨h0, rfl⟩ := he
      have h1 : a'.length + b'.length ≤ 4611686018427387904 := by simpa using h0
      refine ⟨.string ⟨(a' ++ b').toArray⟩, ?_, .one _ _ (.d _ _ (.str _))⟩
      have h2 : ¬ ((((ByteArray.mk a'.toArray).size + (ByteArray.mk b'.toArray).size : Nat) : Int) > IntKind.i64.max) := by
        have : IntKind.i64.max = 9223372036854775807 := by decide
        rw [this]
        simp only [ByteArray.size, List.size_toArray]
        omega
      simp only [Sem.run_bind, eqGuard_str, Result.andThen_ok, Go.binOp, Op.stringOp, if_neg h2, Sem.run_pure]
      have h3 : (ByteArray.mk a'.toArray) ++ (ByteArray.mk b'.toArray) = ByteArray.mk (a' ++ b').toArray := by
        apply ByteArray.ext
        simp
      rw [h3]
    all_goals
      subst he
      refine ⟨.bool _, ?_, .one _ _ (.d _ _ (.bool _))⟩
      simp only [Sem.run_bind, eqGuard_str, Result.andThen_ok, Go.binOp, Op.stringOp, ByteArray.toList_mk, Sem.run_pure]
  · rename_i a' b'
    cases hu with | one _ _ hu => cases hu with | d _ _ hu => cases hu with | bool =>
    cases hv with | one _ _ hv => cases hv with | d _ _ hv => cases hv with | bool =>
    split at he
    · rename_i ht
      obtain rfl : _ = r := by simpa using he
      have ht := (hT _ _ ht).1
      refine ⟨.bool _, ?_, .one _ _ (.d _ _ (.bool _))⟩
      simp only [Sem.run_bind, eqGuard_bool, Result.andThen_ok, Go.binOp, run_equal_bool w t _ _ ht, Sem.run_pure]
    · rename_i ht
      obtain rfl : _ = r := by simpa using he
      have ht := (hT _ _ ht).1
      refine ⟨.bool _, ?_, .one _ _ (.d _ _ (.bool _))⟩
      simp only [Sem.run_bind, eqGuard_bool, Result.andThen_ok, Go.binOp, run_equal_bool w t _ _ ht, Sem.run_pure]
    · cases he
  · rename_i a'
    have hvv : ∀ (z : Value), RV g h w (.one (.d (.err a'))) z → (z = .nilIface ∧ a' = true) ∨ (∃ p q, z = .iface p q ∧ a' = false) := fun z hz => by
      cases hz with | one _ _ hz => cases hz with | d _ _ hz => cases hz with
      | errNil => exact .inl ⟨rfl, rfl⟩
      | errSome p q => exact .inr ⟨p, q, rfl, rfl⟩
    have hb : b = .nilIface := by cases hv with | one _ _ hv => cases hv with | d _ _ hv => cases hv with | errNil => rfl
    subst hb
    have ha := hvv a hu
    split at he
    · rename_i ht
      obtain rfl : _ = r := by simpa using he
      have ht := (hT _ _ ht).1
      have hq := run_equal_err (w := w) ht a (ha.elim (fun h => .inl h.1) (fun ⟨p, q, h, _⟩ => .inr ⟨p, q, h⟩))
      refine ⟨.bool a', ?_, .one _ _ (.d _ _ (.bool _))⟩
      rcases ha with ⟨rfl, rfl⟩ | ⟨p, q, rfl, rfl⟩
      · simp only [Sem.run_bind, eqGuard_nil (hc rfl), Result.andThen_ok, Go.binOp, hq, Sem.run_pure]; try rfl
      · simp only [Sem.run_bind, eqGuard_iface, Result.andThen_ok, Go.binOp, hq, Sem.run_pure]; try rfl
    · rename_i ht
      obtain rfl : _ = r := by simpa using he
      have ht := (hT _ _ ht).1
      have hq := run_equal_err (w := w) ht a (ha.elim (fun h => .inl h.1) (fun ⟨p, q, h, _⟩ => .inr ⟨p, q, h⟩))
      refine ⟨.bool (!a'), ?_, .one _ _ (.d _ _ (.bool _))⟩
      rcases ha with ⟨rfl, rfl⟩ | ⟨p, q, rfl, rfl⟩
      · simp only [Sem.run_bind, eqGuard_nil (hc rfl), Result.andThen_ok, Go.binOp, hq, Sem.run_pure]; try rfl
      · simp only [Sem.run_bind, eqGuard_iface, Result.andThen_ok, Go.binOp, hq, Sem.run_pure]; try rfl
    · cases he
  · rename_i xs ys
    cases hu with | agg _ us h1 h2 =>
    cases hv with | agg _ vs h3 h4 =>
    have hg : ∀ b, eqS T 20 t xs ys = some b → P.eqGuardType P.depth t = false := fun b hb => by
      unfold eqS at hb
      split at hb
      · rename_i i ht
        split at hb
        · rename_i hp _; exact ((hT t i ht).2.choose_spec.2.2.2.2 hp).1
        · cases hb
      · cases hb
    split at he
    · rename_i q hq
      obtain rfl : _ = r := by simpa using he
      have := eqS_ok (g := g) (h := h) hT 20 t xs ys us vs q 9999 h1 h2 h3 h4 hq (by omega)
      refine ⟨.bool q, ?_, .one _ _ (.d _ _ (.bool _))⟩
      simp only [Sem.run_bind, run_eqGuard_agg (P := P) w _ t x y _ _ (hg _ hq), Result.andThen_ok, Go.binOp, show (Op.equal t (.agg us.toArray) (.agg vs.toArray)).run P w = .ok q w from this, Sem.run_pure]
    · rename_i q hq
      obtain rfl : _ = r := by simpa using he
      have := eqS_ok (g := g) (h := h) hT 20 t xs ys us vs q 9999 h1 h2 h3 h4 hq (by omega)
      refine ⟨.bool (!q), ?_, .one _ _ (.d _ _ (.bool _))⟩
      simp only [Sem.run_bind, run_eqGuard_agg (P := P) w _ t x y _ _ (hg _ hq), Result.andThen_ok, Go.binOp, show (Op.equal t (.agg us.toArray) (.agg vs.toArray)).run P w = .ok q w from this, Sem.run_pure]
    · cases he
  · cases he
end
section
open Go Go.RowKit
def isConst' : Operand → Bool
 | .const _ => true
 | _ => false
def evUn (op : UnOp) : V → Option V
 | .one (.d (.bool b)) => match op with | .not => some (.one (.d (.bool (!b)))) | _ => none
 | .one (.d (.int k a)) => match op with | .neg => some (.one (.d (.int k (k.wrap (0 - a))))) | _ => none
 | _ => none
def evField (T : TypeId → Option TI) (t : TypeId) (f : Nat) : V → Option V
  | .agg cs => match T t with
    | some { desc := .struct fs, .. } => match fs[f]? with
      | some f => match T f.type with
        | some i => partC i cs f.offset
        | none => none
      | none => none
    | _ => none
  | _ => none
def evIndex (T : TypeId → Option TI) (t : TypeId) : V → V → Option (Bool × V)
  | .one (.d (.str s)), .one (.d (.int k i)) => match T t with
    | some { desc := .string, .. } => some (decide (0 ≤ i) && decide (i < (s.length : Int)), .one (.d (.int .u8 ((s.getD i.toNat 0).toNat : Int))))
    | _ => none
  | .agg cs, .one (.d (.int k i)) => match T t with
    | some { desc := .array n e, .. } => match T e with
      | some j => match partC j cs (i.toNat * j.size) with
        | some v => some (decide (0 ≤ i) && decide (i < (n : Int)), v)
        | none => none
      | none => none
    | _ => none
  | _, _ => none
def rowAt (s : St) (r ver : Nat) : Option RowO :=
 match s.r[r]? with
 | some (some o) => bif Nat.beq o.ver ver then some o else none
 | _ => none
theorem rowAt_some {s : St} {r ver : Nat} {o : RowO} (h : rowAt s r ver = some o) : s.r[r]? = some (some o) ∧ o.ver = ver := by
 unfold rowAt at h
 split at h
 ·skip
  rename_i o' ho
  cases hb : Nat.beq o'.ver ver with
  | true => rw [hb] at h; simp at h; subst h; exact ⟨ho, Nat.eq_of_beq_eq_true hb⟩
  | false => rw [hb] at h; cases h
 ·skip
  cases h
def evIndexAddr (T : TypeId → Option TI) (s : St) (t : TypeId) : V → V → Option (Bool × V)
  | .one (.row r ver off len), .one (.d (.int k i)) => match T t, rowAt s r ver with
    | some { desc := .slice e, .. }, some o => match T e with
      | some j => if j.size = o.sz then some (decide (0 ≤ i) && decide (i < (len : Int)), .one (.rptr r ver (off + i.toNat) 0)) else none
      | none => none
    | _, _ => none
  | .one (.d (.vec sz xs)), .one (.d (.int k i)) => match T t with
    | some { desc := .slice e, .. } => match T e with
      | some j => if j.size = sz then some (decide (0 ≤ i) && decide (i < (xs.length : Int)), .one (.eptr (xs.getD i.toNat []))) else none
      | none => none
    | _ => none
  | .one (.ptr l off), .one (.d (.int k i)) => match T t with
    | some { desc := .array n e, .. } => match T e with
      | some j => some (decide (0 ≤ i) && decide (i < (n : Int)), .one (.ptr l (off + i.toNat * j.size)))
      | none => none
    | _ => none
  | _, _ => none
def evFieldAddr (T : TypeId → Option TI) (s : St) (t : TypeId) (f : Nat) : V → Option V
  | .one (.ptr l off) => match T t with
    | some { desc := .struct fs, .. } => match fs[f]? with
      | some f => match T f.type with
        | some i => if i.size = 0 then none else some (.one (.ptr l (off + f.offset)))
        | none => none
      | none => none
    | _ => none
  | .one (.eptr cs) => match T t with
    | some { desc := .struct fs, .. } => match fs[f]? with
      | some f => match T f.type with
        | some i => if i.size = 0 then none else some (.one (.eptr (cs.drop f.offset)))
        | none => none
      | none => none
    | _ => none
  | .one (.rptr r ver k fo) => match T t, rowAt s r ver with
    | some { desc := .struct fs, .. }, some _ => match fs[f]? with
      | some f => match T f.type with
        | some i => if i.size = 0 then none else some (.one (.rptr r ver k (fo + f.offset)))
        | none => none
      | none => none
    | _, _ => none
  | _ => none
def evLoad (T : TypeId → Option TI) (s : St) (t : TypeId) : V → Option V
  | .one (.ptr l off) => match T t, s.b[l]? with
    | some i, some cs => partC i cs off
    | _, _ => none
  | .one (.eptr cs) => match T t with
    | some i => partC i (cs.map .d) 0
    | none => none
  | .one (.rptr r ver k fo) => match T t, rowAt s r ver with
    | some i, some o => partC i ((o.xs.getD k []).map .d) fo
    | _, _ => none
  | _ => none
def evLen (T : TypeId → Option TI) (s : St) (t : TypeId) : V → Option V
  | .one (.d (.str s)) => match T t with
    | some { desc := .string, .. } => some (.one (.d (.int .i64 (s.length : Int))))
    | _ => none
  | .one (.d (.vec _ xs)) => match T t with
    | some { desc := .slice _, .. } => some (.one (.d (.int .i64 (xs.length : Int))))
    | _ => none
  | .one (.d .nilsl) => match T t with
    | some { desc := .slice _, .. } => some (.one (.d (.int .i64 0)))
    | _ => none
  | .one (.row r ver off n) => match T t, rowAt s r ver with
    | some { desc := .slice _, .. }, some _ => some (.one (.d (.int .i64 (n : Int))))
    | _, _ => none
  | _ => none
def bnd (n : Nat) (s : St) (d : Int) : Option Operand → Option (Bool × Int)
  | none => some (true, d)
  | some x => match opd n s x with
    | (b, .one (.d (.int _ i))) => some (b, i)
    | _ => none
def evSlice (T : TypeId → Option TI) (t : TypeId) (lo : Bool × Int) (hi : Bool × Int) : V → Option (Bool × V)
  | .one (.d (.str s)) => match T t with
    | some { desc := .string, .. } => some (lo.1 && hi.1 && (decide (0 ≤ lo.2) && decide (lo.2 ≤ hi.2) && decide (hi.2 ≤ (s.length : Int))), .one (.d (.str ((s.take hi.2.toNat).drop lo.2.toNat))))
    | _ => none
  | .one (.d (.vec sz xs)) => match T t with
    | some { desc := .slice e, .. } => match T e with
      | some j => if j.size = sz then some (lo.1 && hi.1 && (decide (0 ≤ lo.2) && decide (lo.2 ≤ hi.2) && decide (hi.2 ≤ (xs.length : Int))), .one (.d (.vec sz ((xs.take hi.2.toNat).drop lo.2.toNat)))) else none
      | none => none
    | _ => none
  | _ => none
def lenOfV : V → Option Int
 | .one (.d (.str s)) => some s.length
 | .one (.d (.vec _ xs)) => some xs.length
 | _ => none
def byteD : List D → Option UInt8
 | [.int .u8 n] => some (UInt8.ofNat n.toNat)
 | _ => none
def evConv (T : TypeId → Option TI) (a b : TypeId) : V → Option V
  | .one (.d (.int k n)) => match T a, T b with
    | some { desc := .int _, .. }, some { desc := .int k', .. } => some (.one (.d (.int k' (k'.wrap n))))
    | some { desc := .int _, .. }, some { desc := .string, .. } => some (.one (.d (.str (Utf8.encode n).data.toList)))
    | _, _ => none
  | .one (.d (.str s)) => match T a, T b with
    | some { desc := .string, .. }, some { desc := .string, .. } => some (.one (.d (.str s)))
    | _, _ => none
  | _ => none
def fillC (place : Nat → Option (Nat × Nat)) (cells : List C) : List (Nat × V) → Option (List C)
  | [] => some cells
  | (i, v) :: rest => match place i with
    | none => none
    | some (off, size) => match v with
      | .one c => if size = 1 ∧ off < cells.length then fillC place (cells.set off c) rest else none
      | .agg cs => if cs.length = size ∧ off + size ≤ cells.length then fillC place (cells.take off ++ cs ++ cells.drop (off + size)) rest else none
      | _ => none
def cellsOfV : V → Option (List C)
 | .one c => some [c]
 | .agg cs => some cs
 | _ => none
def allOpd (n : Nat) (s : St) : List (Nat × Operand) → Bool × List (Nat × V)
 | [] => (true, [])
 | (i, x) :: r => let a := opd n s x; let b := allOpd n s r; (a.1 && b.1, (i, a.2) :: b.2)
def placesOf (T : TypeId → Option TI) : List Field → Option (List (Nat × Nat))
  | [] => some []
  | f :: r => match T f.type, placesOf T r with
    | some i, some l => some ((f.offset, i.size) :: l)
    | _, _ => none
def evBuild (T : TypeId → Option TI) (t : TypeId) (parts : List (Nat × V)) : Option V :=
  match T t with
  | some i => match cellsOfV (constV i.zero), i.desc with
    | some z, .struct fs => match placesOf T fs.toList with
      | some pl => (fillC (pl[·]?) z parts).map .agg
      | none => none
    | some z, .array _ e => match T e with
      | some j => (fillC (fun i => some (i * j.size, j.size)) z parts).map .agg
      | none => none
    | _, _ => none
  | none => none
def both (n : Nat) (s : St) (x y : Operand) (f : V → V → Option (Bool × V)) : Option (Bool × V) :=
 let a := opd n s x; let b := opd n s y
 match f a.2 b.2 with
 | some (o, v) => some (a.1 && b.1 && o, v)
 | none => none
def one' (n : Nat) (s : St) (x : Operand) (f : V → Option V) : Option (Bool × V) :=
 let a := opd n s x
 match f a.2 with
 | some v => some (a.1, v)
 | none => none
def evPick (n : Nat) (s : St) (c a b : Operand) : Option (Bool × V) :=
 match opd n s c, opd n s a, opd n s b with
 | (o, .one (.d (.bool x))), (p, .one (.d (.bool y))), (q, .one (.d (.bool z))) => some (o && (bif x then p else q), .one (.d (.bool (bif x then y else z))))
 | _, _, _ => none
def evExtract (i : Nat) : V → Option V
 | .tup vs => vs[i]?
 | _ => none
def evNil (s : St) : V → Option V
  | .one (.rptr r ver k fo) => match rowAt s r ver with
    | some _ => some (.one (.rptr r ver k fo))
    | none => none
  | .one (.ptr l off) => some (.one (.ptr l off))
  | .one (.eptr cs) => some (.one (.eptr cs))
  | _ => none
def evP (T : TypeId → Option TI) (n : Nat) (s : St) : Op → Option (Bool × V)
  | .move x | .assign x => some (opd n s x)
  | .pick c a b => evPick n s c a b
  | .binOp op t x y _ => both n s x y (evBin T op t (isConst' x || isConst' y))
  | .unOp op _ x => one' n s x (evUn op)
  | .field t x f => one' n s x (evField T t f)
  | .index t x i => both n s x i (evIndex T t)
  | .indexAddr t x i => both n s x i (evIndexAddr T s t)
  | .fieldAddr t x f => one' n s x (evFieldAddr T s t f)
  | .load t x => one' n s x (evLoad T s t)
  | .extract x i => one' n s x (evExtract i)
  | .nilCheck x => one' n s x (evNil s)
  | .convert a b x => one' n s x (evConv T a b)
  | .slice t x lo hi none => match opd n s x with
    | (o, v) => match lenOfV v with
      | some l => match bnd n s 0 lo, bnd n s l hi with
        | some lo, some hi => match evSlice T t lo hi v with
          | some (p, r) => some (o && p, r)
          | none => none
        | _, _ => none
      | none => none
  | .build t parts => match allOpd n s parts.toList with
    | (o, l) => match evBuild T t l with
      | some v => some (o, v)
      | none => none
  | .call { callee := .builtin .len, args := args, argTypes := ts } => match args.toList, ts.toList with
    | [x], [t] => one' n s x (evLen T s t)
    | _, _ => none
  | .call { callee := .builtin .min, args := args, argTypes := ts } => match args.toList with
    | [x, y] => both n s x y fun u v => match u, v with
      | .one (.d (.int k a)), .one (.d (.int k' b)) => if k = k' then some (true, .one (.d (.int k (if b < a then b else a)))) else none
      | _, _ => none
    | _ => none
  | .call { callee := .builtin .max, args := args, argTypes := ts } => match args.toList with
    | [x, y] => both n s x y fun u v => match u, v with
      | .one (.d (.int k a)), .one (.d (.int k' b)) => if k = k' then some (true, .one (.d (.int k (if b > a then b else a)))) else none
      | _, _ => none
    | _ => none
  | _ => none
section
variable {J : Inv} {k0 : Lens} {E : Env J k0} {P : Program} {T : TypeId → Option TI} {n : Nat} {s : St} {g : Gh} {a : Act} {w : World}
theorem evField_ok (hT : TabOk P T) {h : Sh} {t : TypeId} {f : Nat} {u r : V} {v : Value} (he : evField T t f u = some r) (hu : RV g h w u v) :
  ∃ z, (Instr.field t v f).run P w = .ok z w ∧ RV g h w r z := by
 unfold evField at he
 split at he
 ·skip
  rename_i cs
  cases hu with | agg _ vs hl hx =>
  split at he
  ·skip
   rename_i ht
   split at he
   ·skip
    rename_i fd hf
    split at he
    ·skip
     rename_i i hi
     obtain ⟨z, h1, h2⟩ := partC_ok hT hl hx hi he
     refine ⟨z, ?_, h2⟩
     simp only [Instr.field, Sem.run_bind, run_underlying' hT ht, Result.andThen_ok, hf, asAgg, Sem.run_pure, h1]
    ·skip
     cases he
   ·skip
    cases he
  ·skip
   cases he
 ·skip
  cases he
theorem getElem?_mk (s : List UInt8) (i : Nat) (h : i < s.length) : (ByteArray.mk s.toArray)[i]? = some (s.getD i 0) := by
 have h' : i < (ByteArray.mk s.toArray).size := by simpa [ByteArray.size] using h
 have h2 := getElem?_pos (ByteArray.mk s.toArray) i h'
 rw [h2, List.getD_eq_getElem?_getD, List.getElem?_eq_getElem h]
 rfl
theorem evIndex_ok (hT : TabOk P T) {h : Sh} {t : TypeId} {u u' r : V} {v v' : Value} (he : evIndex T t u u' = some (true, r)) (hu : RV g h w u v) (hu' : RV g h w u' v') :
  ∃ z, (Instr.index t v v').run P w = .ok z w ∧ RV g h w r z := by
 unfold evIndex at he
 split at he
 ·skip
  rename_i s k i
  cases hu with | one _ _ hu => cases hu with | d _ _ hu => cases hu with | str =>
  cases hu' with | one _ _ hu' => cases hu' with | d _ _ hu' => cases hu' with | int =>
  split at he
  ·skip
   rename_i ht
   simp only [Option.some.injEq, Prod.mk.injEq, Bool.and_eq_true, decide_eq_true_eq] at he
   obtain ⟨⟨h0, h1⟩, rfl⟩ := he
   refine ⟨_, ?_, .one _ _ (.d _ _ (.int _ _))⟩
   simp only [Instr.index, asIntOf, Sem.run_bind, Sem.run_pure, run_underlying' hT ht, Result.andThen_ok, if_pos h0, getElem?_mk s i.toNat (by omega)]
  ·skip
   cases he
 ·skip
  rename_i cs k i
  cases hu with | agg _ vs hl hx =>
  cases hu' with | one _ _ hu' => cases hu' with | d _ _ hu' => cases hu' with | int =>
  split at he
  ·skip
   rename_i m e ht
   split at he
   ·skip
    rename_i j hj
    split at he
    ·skip
     rename_i q hq
     simp only [Option.some.injEq, Prod.mk.injEq, Bool.and_eq_true, decide_eq_true_eq] at he
     obtain ⟨⟨h0, h1⟩, rfl⟩ := he
     obtain ⟨z, h2, h3⟩ := partC_ok hT hl hx hj hq
     refine ⟨z, ?_, h3⟩
     simp only [Instr.index, asIntOf, Sem.run_bind, Sem.run_pure, run_underlying' hT ht, Result.andThen_ok, if_pos (And.intro h0 h1), run_sizeOf' hT hj, h2]
    ·skip
     cases he
   ·skip
    cases he
  ·skip
   cases he
 ·skip
  cases he
theorem add_none (b o k : Nat) : (⟨b, o, none⟩ : Addr).add k = ⟨b, o + k, none⟩ := by
 unfold Addr.add; split <;> simp_all
theorem rptr_val {r ver k fo : Nat} {o : RowO} {v : Value} (ho : rowAt s r ver = some o) (hu : RC g s.sh w (.rptr r ver k fo) v) :
  o.al = true ∧ k < o.xs.length ∧ v = .pointer (some ⟨g.at_ (.r r), g.off r + (k * o.sz + fo), none⟩) := by
 obtain ⟨h1, h2⟩ := rowAt_some ho
 cases hu with | rptr _ _ _ _ _ hv hr hx =>
 have hf : s.sh.rows[r]? = some (some o.form) := by simp [St.sh, h1]
 obtain ⟨_, h3⟩ := hx _ _ _ _ hf
 exact h3 h2.symm
theorem row_val (hh : Heap g s w) {r ver off n : Nat} {o : RowO} {v : Value} (ho : rowAt s r ver = some o) (hu : RC g s.sh w (.row r ver off n) v) :
  r < s.sh.rows.length ∧ off + n ≤ o.xs.length ∧ ((o.al = true ∧ v = .slice (some ⟨g.at_ (.r r), g.off r + off * o.sz, none⟩) n (g.cap r - off)) ∨ (o.al = false ∧ n = 0 ∧ v = .slice none 0 0)) := by
 obtain ⟨h1, h2⟩ := rowAt_some ho
 cases hu with | row _ _ _ _ _ hv hr hx =>
 have hf : s.sh.rows[r]? = some (some o.form) := by simp [St.sh, h1]
 obtain ⟨_, h3⟩ := hx _ _ _ _ hf
 obtain ⟨h4, h5⟩ := h3 h2.symm
 refine ⟨hr, h4, ?_⟩
 cases hal : o.al with
 | true => rw [hal, if_pos rfl] at h5; exact .inl ⟨rfl, h5⟩
 | false =>
  rw [hal, if_neg (by simp)] at h5
  have := hh.row r o h1
  rw [hal, if_neg (by simp)] at this
  rw [this] at h4
  simp at h4
  exact .inr ⟨rfl, h4.2, h5⟩
theorem evIndexAddr_ok (hT : TabOk P T) {t : TypeId} {u u' r : V} {v v' : Value} (hh : Heap g s w) (he : evIndexAddr T s t u u' = some (true, r)) (hu : RV g s.sh w u v) (hu' : RV g s.sh w u' v') :
    ∃ z, (Instr.indexAt t v v').run P w = .ok z w ∧ RV g s.sh w r z := by
  unfold evIndexAddr at he
  split at he
  · rename_i ri ver off len k i
    cases hu with | one _ _ hu =>
    cases hu' with | one _ _ hu' => cases hu' with | d _ _ hu' => cases hu' with | int =>
    split at he
    · rename_i e _ _ _ _ o ht ho
      split at he
      · rename_i j hj
        split at he
        · rename_i hsz
          simp only [Option.some.injEq, Prod.mk.injEq, Bool.and_eq_true, decide_eq_true_eq] at he
          obtain ⟨⟨h0, h1⟩, rfl⟩ := he
          obtain ⟨q1, q2, q3⟩ := row_val hh ho hu
          rcases q3 with ⟨hal, rfl⟩ | ⟨_, hn, _⟩
          · obtain ⟨ho1, ho2⟩ := rowAt_some ho
            refine ⟨.pointer (some ⟨g.at_ (.r ri), g.off ri + off * o.sz + i.toNat * o.sz, none⟩), ?_, .one _ _ (.rptr _ _ _ _ _ rfl q1 (fun al ver' sz ln hx => ?_))⟩
            · simp only [Instr.indexAt, asIntOf, Sem.run_bind, Sem.run_pure, run_underlying' hT ht, Result.andThen_ok, if_pos (And.intro h0 h1), run_sizeOf' hT hj, add_none, hsz]
            · have hf : s.sh.rows[ri]? = some (some o.form) := by simp [St.sh, ho1]
              rw [hf] at hx
              simp only [Option.some.injEq, RowO.form, Prod.mk.injEq] at hx
              obtain ⟨rfl, rfl, rfl, rfl⟩ := hx
              refine ⟨by omega, fun _ => ⟨hal, by omega, ?_⟩⟩
              rw [Nat.add_zero, Nat.add_mul, Nat.add_assoc]
          · subst hn; simp at h1; omega
        · cases he
      · cases he
    · cases he
  · rename_i sz xs k i
    cases hu' with | one _ _ hu' => cases hu' with | d _ _ hu' => cases hu' with | int =>
    split at he
    · rename_i ht
      split at he
      · rename_i j hj
        split at he
        · rename_i hsz
          simp only [Option.some.injEq, Prod.mk.injEq, Bool.and_eq_true, decide_eq_true_eq] at he
          obtain ⟨⟨h0, h1⟩, rfl⟩ := he
          cases hu with | one _ _ hu => cases hu with | d _ _ hu => cases hu with
          | empty => simp at h1; omega
          | vec _ _ b o cap q hne hc hb hsz' hcell hrd =>
            have hi : i.toNat < xs.length := by omega
            have hx : xs[i.toNat]? = some (xs.getD i.toNat []) := by rw [List.getD_eq_getElem?_getD, List.getElem?_eq_getElem hi]; rfl
            refine ⟨.pointer (some ⟨b, o + i.toNat * sz, none⟩), ?_, .one _ _ (.eptr _ b (o + i.toNat * sz) (q i.toNat) hb (fun m d hd => hcell _ _ _ _ hx hd) (fun m d hd => hrd _ _ _ _ hx hd))⟩
            simp only [Instr.indexAt, asIntOf, Sem.run_bind, Sem.run_pure, run_underlying' hT ht, Result.andThen_ok, if_pos (And.intro h0 h1), run_sizeOf' hT hj, add_none, hsz]
        · cases he
      · cases he
    · cases he
  · rename_i l off k i
    cases hu' with | one _ _ hu' => cases hu' with | d _ _ hu' => cases hu' with | int =>
    split at he
    · rename_i m e ht
      split at he
      · rename_i j hj
        simp only [Option.some.injEq, Prod.mk.injEq, Bool.and_eq_true, decide_eq_true_eq] at he
        obtain ⟨⟨h0, h1⟩, rfl⟩ := he
        cases hu with | one _ _ hu => cases hu with | ptr _ _ hl =>
        refine ⟨.pointer (some ⟨g.at_ (.b l), off + i.toNat * j.size, none⟩), ?_, .one _ _ (.ptr _ _ hl)⟩
        simp only [Instr.indexAt, asIntOf, Instr.sureAddr, Sem.run_bind, Sem.run_pure, run_underlying' hT ht, Result.andThen_ok, if_pos (And.intro h0 h1), run_sizeOf' hT hj, add_none]
      · cases he
    · cases he
  · cases he
theorem evFieldAddr_ok (hT : TabOk P T) {t : TypeId} {f : Nat} {u r : V} {v : Value} (he : evFieldAddr T s t f u = some r) (hu : RV g s.sh w u v) :
    ∃ z, (Instr.fieldAt t v f).run P w = .ok z w ∧ RV g s.sh w r z := by
  unfold evFieldAddr at he
  split at he
  · rename_i l off
    cases hu with | one _ _ hu => cases hu with | ptr _ _ hl =>
    split at he
    · rename_i fs _ _ _ _ ht
      split at he
      · rename_i fd hf
        split at he
        · rename_i i hi
          split at he
          · cases he
          · rename_i h0
            obtain rfl : _ = r := by simpa using he
            refine ⟨.pointer (some ⟨g.at_ (.b l), off + fd.offset, none⟩), ?_, .one _ _ (.ptr _ _ hl)⟩
            simp only [Instr.fieldAt, Sem.run_bind, run_underlying' hT ht, Result.andThen_ok, hf, Instr.sureAddr, Sem.run_pure, fieldPlace, run_sizeOf' hT hi, if_neg h0, add_none]
        · cases he
      · cases he
    · cases he
  · rename_i cs
    cases hu with | one _ _ hu => cases hu with | eptr _ b o q hb hcell hrd =>
    split at he
    · rename_i fs _ _ _ _ ht
      split at he
      · rename_i fd hf
        split at he
        · rename_i i hi
          split at he
          · cases he
          · rename_i h0
            obtain rfl : _ = r := by simpa using he
            refine ⟨.pointer (some ⟨b, o + fd.offset, none⟩), ?_, .one _ _ (.eptr _ b (o + fd.offset) (fun j => q (fd.offset + j)) hb (fun j d hd => ?_) (fun j d hd => ?_))⟩
            · simp only [Instr.fieldAt, Sem.run_bind, run_underlying' hT ht, Result.andThen_ok, hf, Instr.sureAddr, Sem.run_pure, fieldPlace, run_sizeOf' hT hi, if_neg h0, add_none]
            · rw [List.getElem?_drop] at hd
              rw [Nat.add_assoc]; exact hcell _ _ hd
            · rw [List.getElem?_drop] at hd
              exact hrd _ _ hd
        · cases he
      · cases he
    · cases he
  · rename_i ri ver k fo
    cases hu with | one _ _ hu =>
    split at he
    · rename_i fs _ _ _ _ o ht ho
      obtain ⟨hal, hk, rfl⟩ := rptr_val ho hu
      obtain ⟨ho1, ho2⟩ := rowAt_some ho
      split at he
      · rename_i fd hf
        split at he
        · rename_i i hi
          split at he
          · cases he
          · rename_i h0
            obtain rfl : _ = r := by simpa using he
            refine ⟨.pointer (some ⟨g.at_ (.r ri), g.off ri + (k * o.sz + fo) + fd.offset, none⟩), ?_, .one _ _ (.rptr _ _ _ _ _ rfl ?_ (fun al ver' sz ln hx => ?_))⟩
            · simp only [Instr.fieldAt, Sem.run_bind, run_underlying' hT ht, Result.andThen_ok, hf, Instr.sureAddr, Sem.run_pure, fieldPlace, run_sizeOf' hT hi, if_neg h0, add_none]
            · have := (List.getElem?_eq_some_iff.1 ho1).1
              simpa [St.sh] using this
            · have hf : s.sh.rows[ri]? = some (some o.form) := by simp [St.sh, ho1]
              rw [hf] at hx
              simp only [Option.some.injEq, RowO.form, Prod.mk.injEq] at hx
              obtain ⟨rfl, rfl, rfl, rfl⟩ := hx
              exact ⟨by omega, fun _ => ⟨hal, hk, by rw [Nat.add_assoc, Nat.add_assoc]⟩⟩
        · cases he
      · cases he
    · cases he
  · cases he
theorem run_loadVar' (hT : TabOk P T) {h : Sh} {t : TypeId} {i : TI} (ht : T t = some i) {cs : List C} {off b o : Nat} {r : V} (hp : partC i cs off = some r)
    (hx : ∀ (j : Nat) (c : C), cs[j]? = some c → ∃ v, w.cell? ⟨b, o + j, none⟩ = some v ∧ RC g h w c v) :
    ∃ z, (loadVar t ⟨b, o + off, none⟩).run P w = .ok z w ∧ RV g h w r z := by
  unfold partC at hp
  unfold loadVar
  simp only [Sem.run_bind, run_isAgg' hT ht, Result.andThen_ok]
  split at hp
  · rename_i ha
    split at hp
    · rename_i hlen
      obtain rfl : _ = r := by simpa using hp
      rw [if_pos ha]
      have hv : ∀ j, j < i.size → ∃ v, w.cell? ⟨b, o + off + j, none⟩ = some v ∧ RC g h w (cs.getD (off + j) .junk) v := fun j hj => by
        have hlt : off + j < cs.length := by omega
        obtain ⟨v, h1, h2⟩ := hx (off + j) _ (List.getElem?_eq_getElem hlt)
        exact ⟨v, by rw [Nat.add_assoc]; exact h1, by rw [List.getD_eq_getElem?_getD, List.getElem?_eq_getElem hlt]; exact h2⟩
      have hvs : ∃ f : Nat → Value, ∀ j, j < i.size → w.cell? ⟨b, o + off + j, none⟩ = some (f j) ∧ RC g h w (cs.getD (off + j) .junk) (f j) := by
        refine ⟨fun j => if hj : j < i.size then (hv j hj).choose else undef, fun j hj => ?_⟩
        simp only [dif_pos hj]
        exact (hv j hj).choose_spec
      obtain ⟨f, hf⟩ := hvs
      refine ⟨.agg ((List.range i.size).map f).toArray, ?_, ?_⟩
      · simp only [Sem.run_bind, run_sizeOf' hT ht, Result.andThen_ok]
        rw [run_loadCells w ⟨b, o + off, none⟩ i.size f (fun j hj => by rw [add_none]; exact (hf j hj).1)]
        simp
      · refine .agg _ _ (by simp; omega) (fun j c v h1 h2 => ?_)
        rw [List.getElem?_take] at h1
        split at h1
        · rename_i hj
          rw [List.getElem?_drop] at h1
          simp only [List.getElem?_map, List.getElem?_range hj, Option.map_some, Option.some.injEq] at h2
          subst h2
          have := (hf j hj).2
          rw [List.getD_eq_getElem?_getD, h1] at this
          exact this
        · cases h1
    · cases hp
  · rename_i ha
    rw [if_neg ha]
    obtain ⟨c, hc, rfl⟩ : ∃ c, cs[off]? = some c ∧ V.one c = r := by simpa using hp
    obtain ⟨v, h1, h2⟩ := hx off c hc
    exact ⟨v, by simp [h1], .one _ _ h2⟩
theorem box_cell {b : List C} (hh : Heap g s w) {l : Nat} {cs : List C} (hl : s.b[l]? = some cs) (j : Nat) (c : C) (hc : cs[j]? = some c) :
  ∃ v, w.cell? ⟨g.at_ (.b l), j, none⟩ = some v ∧ RC g s.sh w c v := by
 obtain ⟨vs, t, h1, h2, h3⟩ := hh.box l cs hl
 have hlt := (List.getElem?_eq_some_iff.1 hc).1
 have hv : vs[j]? = some vs[j] := Array.getElem?_eq_getElem (by omega)
 exact ⟨_, by simp [World.cell?, h1, hv], h3 j c _ hc hv⟩
theorem row_cell (hh : Heap g s w) {r ver : Nat} {o : RowO} (ho : rowAt s r ver = some o) (hal : o.al = true) {k : Nat} (hk : k < o.xs.length) : ∀ (j : Nat) (d : D), (o.xs.getD k [])[j]? = some d →
  ∃ v, w.cell? ⟨g.at_ (.r r), g.off r + k * o.sz + j, none⟩ = some v ∧ RD g.im w d v := by
 intro j d hd
 obtain ⟨h1, h2⟩ := rowAt_some ho
 have hrow := hh.row r o h1
 rw [if_pos hal] at hrow
 obtain ⟨vs, ty, q1, ⟨q2, q3, q4, q5⟩, q6, q7, _, q8⟩ := hrow
 have hx : o.xs[k]? = some (o.xs.getD k []) := by rw [List.getD_eq_getElem?_getD, List.getElem?_eq_getElem hk]; rfl
 have hj : j < o.sz := by
  have := (List.getElem?_eq_some_iff.1 hd).1
  rw [q7 _ (List.mem_of_getElem? hx)] at this; exact this
 have hlt : g.off r + k * o.sz + j < vs.size := by
  rw [q2]
  have h3 := Nat.mul_le_mul_right o.sz (show k + 1 ≤ g.cap r by omega)
  rw [Nat.add_mul, Nat.one_mul] at h3
  omega
 have hv : vs[g.off r + k * o.sz + j]? = some vs[g.off r + k * o.sz + j] := Array.getElem?_eq_getElem hlt
 refine ⟨_, ?_, q8 k j _ d _ hx hd hv⟩
 simp only [World.cell?, q1, Option.isSome_none, Bool.false_eq_true, if_false, hv]
theorem evLoad_ok (hT : TabOk P T) {t : TypeId} {u r : V} {v : Value} (hh : Heap g s w) (he : evLoad T s t u = some r) (hu : RV g s.sh w u v) :
  ∃ z, (Instr.loadAt t v).run P w = .ok z w ∧ RV g s.sh w r z := by
 unfold evLoad at he
 split at he
 ·skip
  rename_i l off
  cases hu with | one _ _ hu => cases hu with | ptr _ _ hl =>
  split at he
  ·skip
   rename_i i cs ht hb
   obtain ⟨z, h1, h2⟩ := run_loadVar' (P := P) hT ht (b := g.at_ (.b l)) (o := 0) he (fun j c hc => by rw [Nat.zero_add]; exact box_cell (b := cs) hh hb j c hc)
   exact ⟨z, by rw [Nat.zero_add] at h1; simpa only [Instr.loadAt, Instr.sureAddr, Sem.run_bind, Sem.run_pure, Result.andThen_ok] using h1, h2⟩
  ·skip
   cases he
 ·skip
  rename_i cs
  cases hu with | one _ _ hu => cases hu with | eptr _ b o q hb hcell hrd =>
  split at he
  ·skip
   rename_i i ht
   obtain ⟨z, h1, h2⟩ := run_loadVar' (g := g) (h := s.sh) (P := P) hT ht (b := b) (o := o) he (fun j c hc => by
    simp only [List.getElem?_map, Option.map_eq_some_iff] at hc
    obtain ⟨d, hd, rfl⟩ := hc
    exact ⟨_, hcell j d hd, .d _ _ (hrd j d hd)⟩)
   exact ⟨z, by simpa only [Instr.loadAt, Instr.sureAddr, Sem.run_bind, Sem.run_pure, Result.andThen_ok, Nat.add_zero] using h1, h2⟩
  ·skip
   cases he
 ·skip
  rename_i ri ver k fo
  cases hu with | one _ _ hu =>
  split at he
  ·skip
   rename_i i o ht ho
   obtain ⟨hal, hk, rfl⟩ := rptr_val ho hu
   obtain ⟨z, h1, h2⟩ := run_loadVar' (g := g) (h := s.sh) (P := P) hT ht (b := g.at_ (.r ri)) (o := g.off ri + k * o.sz) he (fun j c hc => by
    simp only [List.getElem?_map, Option.map_eq_some_iff] at hc
    obtain ⟨d, hd, rfl⟩ := hc
    obtain ⟨v, h1, h2⟩ := row_cell hh ho hal hk j d hd
    exact ⟨v, h1, .d _ _ h2⟩)
   exact ⟨z, by rw [Nat.add_assoc] at h1; simpa only [Instr.loadAt, Instr.sureAddr, Sem.run_bind, Sem.run_pure, Result.andThen_ok] using h1, h2⟩
  ·skip
   cases he
 ·skip
  cases he
end
end
section
open Go Go.RowKit
theorem both_some {n : Nat} {s : St} {x y : Operand} {f : V → V → Option (Bool × V)} {v : V} (h : both n s x y f = some (true, v)) :
  ∃ u u', opd n s x = (true, u) ∧ opd n s y = (true, u') ∧ f u u' = some (true, v) := by
 unfold both at h
 generalize opd n s x = p at *
 generalize opd n s y = q at *
 obtain ⟨b, u⟩ := p
 obtain ⟨c, u'⟩ := q
 simp only at h
 split at h
 ·skip
  rename_i o z hz
  simp only [Option.some.injEq, Prod.mk.injEq, Bool.and_eq_true] at h
  obtain ⟨⟨⟨rfl, rfl⟩, rfl⟩, rfl⟩ := h
  exact ⟨u, u', rfl, rfl, hz⟩
 ·skip
  cases h
theorem one'_some {n : Nat} {s : St} {x : Operand} {f : V → Option V} {v : V} (h : one' n s x f = some (true, v)) :
  ∃ u, opd n s x = (true, u) ∧ f u = some v := by
 unfold one' at h
 generalize opd n s x = p at *
 obtain ⟨b, u⟩ := p
 simp only at h
 split at h
 ·skip
  rename_i z hz
  simp only [Option.some.injEq, Prod.mk.injEq] at h
  obtain ⟨rfl, rfl⟩ := h
  exact ⟨u, rfl, hz⟩
 ·skip
  cases h
section
variable {J : Inv} {k0 : Lens} {E : Env J k0} {P : Program} {T : TypeId → Option TI} {n : Nat} {s : St} {g : Gh} {a : Act} {w : World}
theorem evUn_ok {h : Sh} {op : UnOp} {u r : V} {v : Value} (he : evUn op u = some r) (hu : RV g h w u v) : ∃ z, (Op.unary op v).run P w = .ok z w ∧ RV g h w r z := by
  unfold evUn at he
  split at he
  · cases hu with | one _ _ hu => cases hu with | d _ _ hu => cases hu with | bool =>
    split at he
    · obtain rfl : _ = r := by simpa using he
      exact ⟨_, rfl, .one _ _ (.d _ _ (.bool _))⟩
    · cases he
  · cases hu with | one _ _ hu => cases hu with | d _ _ hu => cases hu with | int =>
    split at he
    · cases he
      exact ⟨_, rfl, .one _ _ (.d _ _ (.int _ _))⟩
    · cases he
  · cases he
theorem size_mk (s : List UInt8) : (ByteArray.mk s.toArray).size = s.length := by simp [ByteArray.size]
theorem evLen_ok (hT : TabOk P T) {t ty : TypeId} {u r : V} {v : Value} (hh : Heap g s w) (he : evLen T s t u = some r) (hu : RV g s.sh w u v) :
  ∃ z, (Builtin.len_ #[t] ty #[v]).run P w = .ok z w ∧ RV g s.sh w r z := by
 unfold evLen at he
 split at he
 ·skip
  cases hu with | one _ _ hu => cases hu with | d _ _ hu => cases hu with | str =>
  split at he
  ·skip
   rename_i ht
   obtain rfl : _ = r := by simpa using he
   refine ⟨_, ?_, .one _ _ (.d _ _ (.int _ _))⟩
   simp [Builtin.len_, run_underlying' hT ht, goInt, size_mk]
  ·skip
   cases he
 ·skip
  cases hu with | one _ _ hu => cases hu with | d _ _ hu =>
  split at he
  ·skip
   rename_i ht
   obtain rfl : _ = r := by simpa using he
   cases hu with
   | empty => exact ⟨_, by simp [Builtin.len_, run_underlying' hT ht, goInt] <;> rfl, .one _ _ (.d _ _ (.int _ _))⟩
   | vec => exact ⟨_, by simp [Builtin.len_, run_underlying' hT ht, goInt] <;> rfl, .one _ _ (.d _ _ (.int _ _))⟩
  ·skip
   cases he
 ·skip
  cases hu with | one _ _ hu => cases hu with | d _ _ hu => cases hu with | nilsl =>
  split at he
  ·skip
   rename_i ht
   obtain rfl : _ = r := by simpa using he
   exact ⟨_, by simp [Builtin.len_, run_underlying' hT ht, goInt] <;> rfl, .one _ _ (.d _ _ (.int _ _))⟩
  ·skip
   cases he
 ·skip
  cases hu with | one _ _ hu =>
  split at he
  ·skip
   rename_i ht ho
   obtain rfl : _ = r := by simpa using he
   obtain ⟨_, _, q3⟩ := row_val hh ho hu
   rcases q3 with ⟨_, rfl⟩ | ⟨_, hn, rfl⟩
   ·skip
    exact ⟨_, by simp [Builtin.len_, run_underlying' hT ht, goInt] <;> rfl, .one _ _ (.d _ _ (.int _ _))⟩
   ·skip
    subst hn
    exact ⟨_, by simp [Builtin.len_, run_underlying' hT ht, goInt] <;> rfl, .one _ _ (.d _ _ (.int _ _))⟩
  ·skip
   cases he
 ·skip
  cases he
theorem sliceBounds_ok {m : Nat} {isS : Bool} {cap : Nat} {lo hi : Option Value} {l h : Int}
  (hl : lo = none ∧ l = 0 ∨ ∃ k, lo = some (.int k l)) (hh : hi = none ∧ h = m ∨ ∃ k, hi = some (.int k h)) (h0 : 0 ≤ l) (h1 : l ≤ h) (h2 : h ≤ (m : Int)) (hc : m ≤ cap) :
  (Instr.sliceBounds isS m cap lo hi none).run P w = .ok (l.toNat, h.toNat, cap) w := by
 have hb : ∀ (v : Value) (k : IntKind) (i : Int) (y : Nat) (c : BoundsCode), v = .int k i → 0 ≤ i → i ≤ (y : Int) → (Instr.sliceBound v y c).run P w = .ok i.toNat w := by
  rintro _ k i y c rfl e1 e2
  simp [Instr.sliceBound, asIntOf, e1, e2]
 have e2 : (h.toNat : Int) = h := by omega
 unfold Instr.sliceBounds
 rcases hh with ⟨rfl, rfl⟩ | ⟨k, rfl⟩ <;> rcases hl with ⟨rfl, rfl⟩ | ⟨k', rfl⟩
 ·skip
  simp
 ·skip
  simp [hb _ k' l m _ rfl h0 h1]
 ·skip
  simp [hb _ k h cap _ rfl (by omega) (by omega)]
 ·skip
  simp [hb _ k h cap _ rfl (by omega) (by omega), hb _ k' l h.toNat _ rfl h0 (by omega)]
theorem bnd_ok (r : Rel E n g s a w) {d : Int} {x : Option Operand} {b : Bool} {i : Int} (h : bnd n s d x = some (b, i)) (hb : b = true) :
    x.map a.eval = none ∧ i = d ∨ ∃ k, x.map a.eval = some (.int k i) := by
  cases x with
  | none => obtain ⟨_, rfl⟩ : true = b ∧ d = i := by simpa [bnd] using h
            exact .inl ⟨rfl, rfl⟩
  | some x =>
    unfold bnd at h
    simp only at h
    split at h
    · rename_i b' k i' ho
      obtain ⟨rfl, rfl⟩ : b' = b ∧ i' = i := by simpa using h
      have := opd_ok r ho hb
      cases this with | one _ _ q => cases q with | d _ _ q =>
      right
      refine ⟨k, ?_⟩
      generalize hz : a.eval x = z at q
      cases q with | int => simp [hz]
    · cases h
theorem drop_take_toArray (l : List UInt8) (i j : Nat) : (ByteArray.mk l.toArray).extract i j = ByteArray.mk ((l.take j).drop i).toArray := by
 apply ByteArray.ext
 simp [ByteArray.data_extract, List.extract_eq_take_drop, List.drop_take]
theorem evSlice_ok (hT : TabOk P T) {h : Sh} {t : TypeId} {lo hi : Bool × Int} {u r : V} {v : Value} {lo' hi' : Option Value} {len : Int} (he : evSlice T t lo hi u = some (true, r)) (hu : RV g h w u v)
    (hlen : lenOfV u = some len) (hlo : lo.1 = true → lo' = none ∧ lo.2 = 0 ∨ ∃ k, lo' = some (.int k lo.2)) (hhi : hi.1 = true → hi' = none ∧ hi.2 = len ∨ ∃ k, hi' = some (.int k hi.2)) :
    ∃ z, (Instr.sliceAt t v lo' hi' none).run P w = .ok z w ∧ RV g h w r z := by
  obtain ⟨b1, l⟩ := lo
  obtain ⟨b2, q⟩ := hi
  unfold evSlice at he
  split at he
  · rename_i s'
    cases hu with | one _ _ hu => cases hu with | d _ _ hu => cases hu with | str =>
    obtain rfl : (s'.length : Int) = len := by simpa [lenOfV] using hlen
    split at he
    · rename_i ht
      simp only [Option.some.injEq, Prod.mk.injEq, Bool.and_eq_true, decide_eq_true_eq] at he
      obtain ⟨⟨⟨rfl, rfl⟩, ⟨h0, h1⟩, h2⟩, rfl⟩ := he
      refine ⟨_, ?_, .one _ _ (.d _ _ (.str _))⟩
      have hb := sliceBounds_ok (P := P) (w := w) (isS := false) (m := s'.length) (cap := s'.length) (hlo rfl) (hhi rfl) h0 h1 h2 (Nat.le_refl _)
      simp only [Instr.sliceAt, Instr.slice, Sem.run_bind, run_underlying' hT ht, Result.andThen_ok, Option.isSome, Bool.false_eq_true, if_false, size_mk, hb, Sem.run_pure, drop_take_toArray]
    · cases he
  · rename_i sz xs
    obtain rfl : (xs.length : Int) = len := by simpa [lenOfV] using hlen
    split at he
    · rename_i e _ _ _ _ ht
      split at he
      · rename_i j hj
        split at he
        · rename_i hsz
          simp only [Option.some.injEq, Prod.mk.injEq, Bool.and_eq_true, decide_eq_true_eq] at he
          obtain ⟨⟨⟨rfl, rfl⟩, ⟨h0, h1⟩, h2⟩, rfl⟩ := he
          cases hu with | one _ _ hu => cases hu with | d _ _ hu => cases hu with
          | empty _ A cap =>
            have hb := sliceBounds_ok (P := P) (w := w) (isS := true) (m := 0) (cap := cap) (hlo rfl) (by simpa using hhi rfl) h0 h1 (by simpa using h2) (Nat.zero_le _)
            simp only [List.length_nil] at h2
            have e1 : q.toNat = 0 := by omega
            have e2 : l.toNat = 0 := by omega
            refine ⟨.slice (if cap = 0 then A else A.map (·.add (0 * j.size))) 0 cap, ?_, ?_⟩
            · simp only [Instr.sliceAt, Instr.slice, Sem.run_bind, run_underlying' hT ht, Result.andThen_ok, run_sizeOf' hT hj, hb, Sem.run_pure, e1, e2, Nat.sub_zero]
            · simp only [e1, e2, List.take_nil, List.drop_nil]
              exact .one _ _ (.d _ _ (.empty _ _ _))
          | vec _ _ b o cap u hne hc hb hsz' hcell hrd =>
            have hbb := sliceBounds_ok (P := P) (w := w) (isS := true) (m := xs.length) (cap := cap) (hlo rfl) (hhi rfl) h0 h1 h2 hc
            refine ⟨.slice (if cap = l.toNat then some ⟨b, o, none⟩ else some ⟨b, o + l.toNat * j.size, none⟩) (q.toNat - l.toNat) (cap - l.toNat), ?_, ?_⟩
            · simp only [Instr.sliceAt, Instr.slice, Sem.run_bind, run_underlying' hT ht, Result.andThen_ok, run_sizeOf' hT hj, hbb, Sem.run_pure, Option.map_some, add_none]
            · have hlen' : ((xs.take q.toNat).drop l.toNat).length = q.toNat - l.toNat := by simp; omega
              by_cases hz : (xs.take q.toNat).drop l.toNat = []
              · rw [hz]
                have : q.toNat - l.toNat = 0 := by rw [← hlen', hz]; rfl
                rw [this]
                exact .one _ _ (.d _ _ (.empty _ _ _))
              · have hpos : 0 < q.toNat - l.toNat := by rw [← hlen']; exact List.length_pos_iff.2 hz
                rw [if_neg (by omega), ← hlen']
                refine .one _ _ (.d _ _ (.vec sz _ b _ _ (fun i j => u (l.toNat + i) j) hz (by rw [hlen']; omega) hb (fun x hx => hsz' x (List.mem_of_mem_take (List.mem_of_mem_drop hx))) (fun i k x d hi hk => ?_) (fun i k x d hi hk => ?_)))
                · rw [List.getElem?_drop, List.getElem?_take] at hi
                  split at hi
                  · have := hcell _ _ _ _ hi hk
                    rw [hsz]
                    rw [show o + l.toNat * sz + i * sz + k = o + (l.toNat + i) * sz + k by rw [Nat.add_mul]; omega]
                    exact this
                  · cases hi
                · rw [List.getElem?_drop, List.getElem?_take] at hi
                  split at hi
                  · exact hrd _ _ _ _ hi hk
                  · cases hi
        · cases he
      · cases he
    · cases he
  · cases he
theorem evConv_ok (hT : TabOk P T) {h : Sh} {p q : TypeId} {u r : V} {v : Value} (he : evConv T p q u = some r) (hu : RV g h w u v) :
  ∃ z, (Go.convert p q v).run P w = .ok z w ∧ RV g h w r z := by
 unfold evConv at he
 split at he
 ·skip
  cases hu with | one _ _ hu => cases hu with | d _ _ hu => cases hu with | int =>
  split at he
  ·skip
   rename_i h1 h2
   obtain rfl : _ = r := by simpa using he
   refine ⟨_, ?_, .one _ _ (.d _ _ (.int _ _))⟩
   simp only [Go.convert, Sem.run_bind, run_underlying' hT h1, run_underlying' hT h2, Result.andThen_ok, Conv.intToInt, Sem.run_pure]
  ·skip
   rename_i h1 h2
   obtain rfl : _ = r := by simpa using he
   refine ⟨_, ?_, .one _ _ (.d _ _ (.str _))⟩
   simp only [Go.convert, Sem.run_bind, run_underlying' hT h1, run_underlying' hT h2, Result.andThen_ok, Conv.intToString, Sem.run_pure]
  ·skip
   cases he
 ·skip
  cases hu with | one _ _ hu => cases hu with | d _ _ hu => cases hu with | str =>
  split at he
  ·skip
   rename_i h1 h2
   obtain rfl : _ = r := by simpa using he
   refine ⟨_, ?_, .one _ _ (.d _ _ (.str _))⟩
   simp only [Go.convert, Sem.run_bind, run_underlying' hT h1, run_underlying' hT h2, Result.andThen_ok, Sem.run_pure]
  ·skip
   cases he
 ·skip
  cases he
theorem oneCell_cells {v : Value} (h : v.oneCell' = true) : v.cells = #[v] := by cases v <;> first | rfl | cases h
theorem fold_set_one (cells : Array Value) (off : Nat) (v : Value) : (#[v] : Array Value).zipIdx.foldl (fun cs (c, j) => cs.setIfInBounds (off + j) c) cells = cells.setIfInBounds off v := by
 simp
theorem fold_set (off : Nat) : ∀ (vs : List Value) (k : Nat) (pre mid post : List Value), pre.length = off + k → mid.length = vs.length →
    (vs.zipIdx k).foldl (fun (cs : Array Value) (x : Value × Nat) => cs.setIfInBounds (off + x.2) x.1) (pre ++ mid ++ post).toArray = (pre ++ vs ++ post).toArray
  | [], k, pre, mid, post, hp, hm => by
    obtain rfl : mid = [] := by simpa using hm
    simp
  | v :: vs, k, pre, mid, post, hp, hm => by
    obtain ⟨m, mid, rfl⟩ : ∃ m mid', mid = m :: mid' := by cases mid with | nil => simp at hm | cons m mid => exact ⟨m, mid, rfl⟩
    have h1 : ((pre ++ (m :: mid) ++ post).toArray).setIfInBounds (off + k) v = (pre ++ [v] ++ mid ++ post).toArray := by
      simp only [List.setIfInBounds_toArray]
      congr 1
      rw [← hp]
      simp
    simp only [List.zipIdx_cons, List.foldl_cons, h1]
    have := fold_set off vs (k + 1) (pre ++ [v]) mid post (by simp; omega) (by simpa using hm)
    simpa using this
theorem fillC_ok {h : Sh} (place : Nat → Option (Nat × Nat)) : ∀ (parts : List (Nat × V)) (vals : List (Nat × Value)) (cs out : List C) (vs : List Value),
    parts.length = vals.length → (∀ (i : Nat) (p : Nat × V) (q : Nat × Value), parts[i]? = some p → vals[i]? = some q → p.1 = q.1 ∧ RV g h w p.2 q.2) →
    vs.length = cs.length → (∀ (i : Nat) (c : C) (v : Value), cs[i]? = some c → vs[i]? = some v → RC g h w c v) →
    fillC place cs parts = some out → ∃ us : List Value, Instr.fill place vs.toArray vals = some us.toArray ∧ us.length = out.length ∧
      (∀ (i : Nat) (c : C) (v : Value), out[i]? = some c → us[i]? = some v → RC g h w c v)
  | [], [], cs, out, vs, _, _, hl, hx, he => by
    obtain rfl : cs = out := by simpa [fillC] using he
    exact ⟨vs, rfl, hl, hx⟩
  | (i, v) :: parts, (j, u) :: vals, cs, out, vs, hlen, hp, hl, hx, he => by
    obtain ⟨hij, hv⟩ := hp 0 _ _ rfl rfl
    obtain rfl : i = j := hij
    have hp' : ∀ (i : Nat) (p : Nat × V) (q : Nat × Value), parts[i]? = some p → vals[i]? = some q → p.1 = q.1 ∧ RV g h w p.2 q.2 := fun k p q h1 h2 => hp (k + 1) p q (by simpa using h1) (by simpa using h2)
    unfold fillC at he
    unfold Instr.fill
    split at he
    · cases he
    · rename_i off size hpl
      simp only [hpl]
      split at he
      · rename_i c
        split at he
        · rename_i hc
          obtain ⟨rfl, hoff⟩ := hc
          cases hv with | one _ _ hv =>
          have h1 := oneCell_cells hv.one
          rw [h1, if_neg (by simp; omega)]
          have h2 : (#[u] : Array Value).zipIdx.foldl (fun cs (c, j) => cs.setIfInBounds (off + j) c) vs.toArray = (vs.set off u).toArray := by
            rw [fold_set_one]; simp
          rw [h2]
          refine fillC_ok place parts vals _ out _ (by simpa using hlen) hp' (by simp [hl]) (fun k c' v' hc hv' => ?_) he
          rw [List.getElem?_set] at hc hv'
          split at hc
          · rename_i hk
            subst hk
            simp [hoff, hl] at hc hv'
            subst hc; subst hv'
            exact hv
          · rename_i hk
            rw [if_neg hk] at hv'
            exact hx k c' v' hc hv'
        · cases he
      · rename_i ds
        split at he
        · rename_i hc
          obtain ⟨rfl, hoff⟩ := hc
          cases hv with | agg _ us hul hux =>
          have h1 : (Value.agg us.toArray).cells = us.toArray := rfl
          rw [h1, if_neg (by simp [hul]; omega)]
          have h2 : us.toArray.zipIdx.foldl (fun cs (c, j) => cs.setIfInBounds (off + j) c) vs.toArray = (vs.take off ++ us ++ vs.drop (off + us.length)).toArray := by
            have h3 := fold_set off us 0 (vs.take off) ((vs.drop off).take us.length) (vs.drop (off + us.length)) (by simp; omega) (by simp; omega)
            have h4 : vs.take off ++ (vs.drop off).take us.length ++ vs.drop (off + us.length) = vs := by
              rw [List.append_assoc, ← List.drop_drop, List.take_append_drop, List.take_append_drop]
            rw [h4] at h3
            rw [← h3]
            simp [← Array.foldl_toList]
          rw [h2]
          refine fillC_ok place parts vals _ out _ (by simpa using hlen) hp' (by simp [hl, hul]) (fun k c' v' hc hv' => ?_) he
          simp only [List.append_assoc] at hc hv'
          by_cases k1 : k < off
          · rw [List.getElem?_append_left (by simp; omega), List.getElem?_take, if_pos k1] at hc hv'
            exact hx k c' v' hc hv'
          · rw [List.getElem?_append_right (by simp; omega)] at hc hv'
            simp only [List.length_take] at hc hv'
            rw [show min off cs.length = off by omega] at hc
            rw [show min off vs.length = off by omega] at hv'
            by_cases k2 : k - off < ds.length
            · rw [List.getElem?_append_left (by omega)] at hc hv'
              exact hux _ _ _ hc hv'
            · rw [List.getElem?_append_right (by omega)] at hc hv'
              rw [List.getElem?_drop] at hc hv'
              rw [hul] at hv'
              exact hx _ _ _ hc hv'
        · cases he
      · cases he
end
end
section
open Go Go.RowKit
section
variable {J : Inv} {k0 : Lens} {E : Env J k0} {P : Program} {T : TypeId → Option TI} {n : Nat} {s : St} {g : Gh} {a : Act} {w : World}
theorem run_places (hT : TabOk P T) : ∀ (l : List Field) (pl : List (Nat × Nat)), placesOf T l = some pl → (l.mapM fun f => (do pure (f.offset, ← sizeOf f.type) : Sem (Nat × Nat))).run P w = .ok pl w
  | [], pl, h => by obtain rfl : [] = pl := by simpa [placesOf] using h
                    simp
  | f :: l, pl, h => by
    unfold placesOf at h
    split at h
    · rename_i i q hi hq
      obtain rfl : _ = pl := by simpa using h
      have ih := run_places hT l q hq
      rw [List.mapM_cons]
      simp only [Sem.run_bind, run_sizeOf' hT hi, Result.andThen_ok, Sem.run_pure, Sem.run_map] at ih ⊢
      rw [ih]
      rfl
    · cases h
theorem cellsOf_ok {h : Sh} {u : V} {v : Value} {cs : List C} (hc : cellsOfV u = some cs) (hu : RV g h w u v) : ∃ vs : List Value, v.cells = vs.toArray ∧ vs.length = cs.length ∧
  (∀ (i : Nat) (c : C) (v : Value), cs[i]? = some c → vs[i]? = some v → RC g h w c v) ∧ ∀ v ∈ vs, v.oneCell' = true := by
 unfold cellsOfV at hc
 split at hc
 ·skip
  rename_i c
  obtain rfl : [c] = cs := by simpa using hc
  cases hu with | one _ _ hu =>
  refine ⟨[v], by rw [oneCell_cells hu.one], rfl, fun i c' v' h1 h2 => ?_, fun v' hv' => ?_⟩
  ·skip
   cases i with
   | zero => simp at h1 h2; subst h1; subst h2; exact hu
   | succ i => simp at h1
  ·skip
   simp at hv'; subst hv'; exact hu.one
 ·skip
  rename_i ds
  obtain rfl : ds = cs := by simpa using hc
  cases hu with | agg _ vs hl hx =>
  refine ⟨vs, rfl, hl, hx, fun v hv => ?_⟩
  obtain ⟨i, hi⟩ := List.getElem?_of_mem hv
  have hlt := (List.getElem?_eq_some_iff.1 hi).1
  exact (hx i _ v (List.getElem?_eq_getElem (by omega)) hi).one
 ·skip
  cases hc
def zeroC (i : TI) : Option (List C) := if constOk i.zero then cellsOfV (constV i.zero) else none
theorem zeroC_ok {h : Sh} {i : TI} {cs : List C} (hz : zeroC i = some cs) (g : Gh) (w : World) : ∃ vs : List Value, i.zero.cells = vs.toArray ∧ vs.length = cs.length ∧
  (∀ (j : Nat) (c : C) (v : Value), cs[j]? = some c → vs[j]? = some v → RC g h w c v) ∧ ∀ v ∈ vs, v.oneCell' = true := by
 unfold zeroC at hz
 split at hz
 ·skip
  rename_i hc; exact cellsOf_ok hz (constV_ok g h w _ hc)
 ·skip
  cases hz
theorem evBuild_ok (hT : TabOk P T) {h : Sh} {t : TypeId} {parts : List (Nat × V)} {vals : List (Nat × Value)} {r : V} (hz : ∀ i, T t = some i → constOk i.zero = true) (he : evBuild T t parts = some r)
  (hlen : parts.length = vals.length) (hp : ∀ (i : Nat) (p : Nat × V) (q : Nat × Value), parts[i]? = some p → vals[i]? = some q → p.1 = q.1 ∧ RV g h w p.2 q.2) :
  ∃ z, (Instr.build t vals.toArray).run P w = .ok z w ∧ RV g h w r z := by
 unfold evBuild at he
 split at he
 ·skip
  rename_i i hi
  split at he
  ·skip
   rename_i z fs hzc hd
   split at he
   ·skip
    rename_i pl hpl
    obtain ⟨cs, hf, rfl⟩ : ∃ cs, fillC (pl[·]?) z parts = some cs ∧ V.agg cs = r := by simpa using he
    obtain ⟨vs, h1, h2, h3, _⟩ := cellsOf_ok (g := g) (h := h) (w := w) hzc (constV_ok g h w _ (hz i hi))
    obtain ⟨us, h4, h5, h6⟩ := fillC_ok (pl[·]?) parts vals z cs vs hlen hp h2 h3 hf
    refine ⟨.agg us.toArray, ?_, .agg _ _ h5 h6⟩
    have hm : (fs.mapM fun f => (do pure (f.offset, ← sizeOf f.type) : Sem (Nat × Nat))).run P w = .ok pl.toArray w := by
     rw [Array.mapM_eq_mapM_toList]
     simp only [Sem.run_map, run_places hT _ _ hpl, Result.andThen_ok]
    have hu := run_underlying' (w := w) hT hi
    rw [hd] at hu
    have h4' : Instr.fill (fun x => pl.toArray[x]?) vs.toArray vals.toArray.toList = some us.toArray := by simpa using h4
    simp only [Instr.build, Sem.run_bind, run_zeroValue' hT hi, Result.andThen_ok, hu, hm, h1, h4', Sem.run_pure]
   ·skip
    cases he
  ·skip
   rename_i z m e hzc hd
   split at he
   ·skip
    rename_i j hj
    obtain ⟨cs, hf, rfl⟩ : ∃ cs, fillC (fun i => some (i * j.size, j.size)) z parts = some cs ∧ V.agg cs = r := by simpa using he
    obtain ⟨vs, h1, h2, h3, _⟩ := cellsOf_ok (g := g) (h := h) (w := w) hzc (constV_ok g h w _ (hz i hi))
    obtain ⟨us, h4, h5, h6⟩ := fillC_ok (fun i => some (i * j.size, j.size)) parts vals z cs vs hlen hp h2 h3 hf
    refine ⟨.agg us.toArray, ?_, .agg _ _ h5 h6⟩
    have hu := run_underlying' (w := w) hT hi
    rw [hd] at hu
    have h4' : Instr.fill (fun i => some (i * j.size, j.size)) vs.toArray vals.toArray.toList = some us.toArray := by simpa using h4
    simp only [Instr.build, Sem.run_bind, run_zeroValue' hT hi, Result.andThen_ok, hu, run_sizeOf' hT hj, h1, h4', Sem.run_pure]
   ·skip
    cases he
  ·skip
   cases he
 ·skip
  cases he
theorem allOpd_ok (r : Rel E n g s a w) : ∀ (l : List (Nat × Operand)) (us : List (Nat × V)) (b : Bool), allOpd n s l = (b, us) → b = true → us.length = l.length ∧
    ∀ (i : Nat) (p : Nat × V) (q : Nat × Value), us[i]? = some p → (l.map fun (j, x) => (j, a.eval x))[i]? = some q → p.1 = q.1 ∧ RV g s.sh w p.2 q.2
  | [], us, b, h, hb => by
    obtain ⟨rfl, rfl⟩ : true = b ∧ [] = us := by simpa [allOpd] using h
    exact ⟨rfl, fun i p q h1 _ => by simp at h1⟩
  | (j, x) :: l, us, b, h, hb => by
    unfold allOpd at h
    simp only at h
    generalize h1 : opd n s x = p1 at h
    generalize h2 : allOpd n s l = p2 at h
    obtain ⟨b1, v1⟩ := p1
    obtain ⟨b2, v2⟩ := p2
    simp only [Prod.mk.injEq] at h
    obtain ⟨h3, rfl⟩ := h
    rw [← h3, Bool.and_eq_true] at hb
    obtain ⟨h4, h5⟩ := allOpd_ok r l v2 b2 h2 hb.2
    refine ⟨by simp [h4], fun i p q h6 h7 => ?_⟩
    cases i with
    | zero =>
      simp at h6 h7
      subst h6; subst h7
      exact ⟨rfl, opd_ok r h1 hb.1⟩
    | succ i => exact h5 i p q (by simpa using h6) (by simpa using h7)
def ZeroOk (T : TypeId → Option TI) : Prop := ∀ t i, T t = some i → constOk i.zero = true
theorem evP_ok (hT : TabOk P T) (hZ : ZeroOk T) (r : Rel E n g s a w) {o : Oper} {v : V} (he : evP T n s o.op = some (true, v)) :
    ∃ z, (execOp a.eval o).run P w = .ok (.value z) w ∧ RV g s.sh w v z := by
  obtain ⟨dst, op, ty, pos, after, guard⟩ := o
  simp only at he
  have fin : ∀ (f : Sem Value) (q : V), (∃ z, f.run P w = .ok z w ∧ RV g s.sh w q z) → ∃ z, ((do pure (.value (← f)) : Sem Next)).run P w = .ok (.value z) w ∧ RV g s.sh w q z :=
    fun f q ⟨z, h1, h2⟩ => ⟨z, by simp only [Sem.run_bind, h1, Result.andThen_ok, Sem.run_pure], h2⟩
  cases op <;> simp only [evP, reduceCtorEq] at he
  case move x =>
    obtain ⟨u, hu⟩ : ∃ u, opd n s x = u := ⟨_, rfl⟩
    rw [hu] at he; obtain rfl : u = (true, v) := by simpa using he
    exact ⟨_, rfl, opd_ok r hu rfl⟩
  case assign x =>
    obtain ⟨u, hu⟩ : ∃ u, opd n s x = u := ⟨_, rfl⟩
    rw [hu] at he; obtain rfl : u = (true, v) := by simpa using he
    exact ⟨_, rfl, opd_ok r hu rfl⟩
  case pick c x y =>
    unfold evPick at he
    split at he
    · rename_i o b p y' q z' hc hx hy
      simp only [Option.some.injEq, Prod.mk.injEq, Bool.and_eq_true] at he
      obtain ⟨⟨rfl, h1⟩, rfl⟩ := he
      have hcv := opd_ok r hc rfl
      generalize hzc : a.eval c = zc at hcv
      cases hcv with | one _ _ q1 => cases q1 with | d _ _ q1 => cases q1 with | bool =>
      cases b with
      | true =>
        have := opd_ok r hx (by simpa using h1)
        exact ⟨a.eval x, by simp [execOp, hzc, asBool], this⟩
      | false =>
        have := opd_ok r hy (by simpa using h1)
        exact ⟨a.eval y, by simp [execOp, hzc, asBool], this⟩
    · cases he
  case load t x =>
    obtain ⟨u, h1, h2⟩ := one'_some he
    exact fin _ _ (evLoad_ok hT r.heap h2 (opd_ok r h1 rfl))
  case nilCheck x =>
    obtain ⟨u, h1, h2⟩ := one'_some he
    have := opd_ok r h1 rfl
    unfold evNil at h2
    split at h2
    · split at h2
      · rename_i o ho
        obtain rfl : _ = v := by simpa using h2
        generalize hz : a.eval x = z at this
        cases this with | one _ _ q =>
        obtain ⟨_, _, rfl⟩ := rptr_val ho q
        exact ⟨_, by simp only [execOp, hz, Sem.run_pure], .one _ _ q⟩
      · cases h2
    · obtain rfl : _ = v := by simpa using h2
      generalize hz : a.eval x = z at this
      cases this with | one _ _ q => cases q with | ptr _ _ q =>
      exact ⟨_, by simp only [execOp, hz, Sem.run_pure], .one _ _ (.ptr _ _ q)⟩
    · obtain rfl : _ = v := by simpa using h2
      generalize hz : a.eval x = z at this
      cases this with | one _ _ q => cases q with | eptr _ b o u hb h3 h4 =>
      exact ⟨_, by simp only [execOp, hz, Sem.run_pure], .one _ _ (.eptr _ b o u hb h3 h4)⟩
    · cases h2
  case binOp op t x y t' =>
    obtain ⟨u, u', h1, h2, h3⟩ := both_some he
    refine fin _ _ (evBin_ok hT h3 rfl (opd_ok r h1 rfl) (opd_ok r h2 rfl) (fun hc => ?_))
    cases x <;> cases y <;> first | rfl | cases hc
  case unOp op t x =>
    obtain ⟨u, h1, h2⟩ := one'_some he
    exact fin _ _ (evUn_ok h2 (opd_ok r h1 rfl))
  case convert p q x =>
    obtain ⟨u, h1, h2⟩ := one'_some he
    exact fin _ _ (evConv_ok hT h2 (opd_ok r h1 rfl))
  case slice t x lo hi mx =>
    cases mx with
    | some m => simp only [evP, reduceCtorEq] at he
    | none =>
      simp only [evP] at he
      generalize hx : opd n s x = p at he
      obtain ⟨o, u⟩ := p
      simp only at he
      split at he
      · rename_i len hlen
        split at he
        · rename_i lo' hi' hlo hhi
          split at he
          · rename_i p' r' hs
            simp only [Option.some.injEq, Prod.mk.injEq, Bool.and_eq_true] at he
            obtain ⟨⟨rfl, rfl⟩, rfl⟩ := he
            exact fin _ _ (evSlice_ok hT hs (opd_ok r hx rfl) hlen (fun hb => bnd_ok r (b := lo'.1) (i := lo'.2) hlo hb) (fun hb => bnd_ok r (b := hi'.1) (i := hi'.2) hhi hb))
          · cases he
        · cases he
      · cases he
  case fieldAddr t x f =>
    obtain ⟨u, h1, h2⟩ := one'_some he
    exact fin _ _ (evFieldAddr_ok hT h2 (opd_ok r h1 rfl))
  case field t x f =>
    obtain ⟨u, h1, h2⟩ := one'_some he
    exact fin _ _ (evField_ok hT h2 (opd_ok r h1 rfl))
  case indexAddr t x i =>
    obtain ⟨u, u', h1, h2, h3⟩ := both_some he
    exact fin _ _ (evIndexAddr_ok hT r.heap h3 (opd_ok r h1 rfl) (opd_ok r h2 rfl))
  case index t x i =>
    obtain ⟨u, u', h1, h2, h3⟩ := both_some he
    exact fin _ _ (evIndex_ok hT h3 (opd_ok r h1 rfl) (opd_ok r h2 rfl))
  case extract x i =>
    obtain ⟨u, h1, h2⟩ := one'_some he
    refine fin _ _ ?_
    have := opd_ok r h1 rfl
    unfold evExtract at h2
    split at h2
    · rename_i us
      generalize hz : a.eval x = z at this
      cases this with | tup _ vs hl hx =>
      have hlt := (List.getElem?_eq_some_iff.1 h2).1
      have hv : vs[i]? = some vs[i] := List.getElem?_eq_getElem (by omega)
      exact ⟨vs[i], by simp [Instr.extract, hz, hv], hx i v _ h2 hv⟩
    · cases h2
  case build t parts =>
    generalize hp : allOpd n s parts.toList = p at he
    obtain ⟨b, us⟩ := p
    simp only at he
    split at he
    · rename_i q hq
      simp only [Option.some.injEq, Prod.mk.injEq] at he
      obtain ⟨rfl, rfl⟩ := he
      obtain ⟨h1, h2⟩ := allOpd_ok r _ _ _ hp rfl
      have := evBuild_ok (P := P) hT (vals := parts.toList.map fun (i, x) => (i, a.eval x)) (fun i hi => hZ t i hi) hq (by simp [h1]) h2
      have e : (parts.map fun (i, x) => (i, a.eval x)) = (parts.toList.map fun (i, x) => (i, a.eval x)).toArray := Array.toList_inj.1 (by simp)
      refine fin _ _ ?_
      rw [e]
      exact this
    · cases he
  case call c =>
    obtain ⟨callee, args, ats⟩ := c
    cases callee with
    | value f => simp only [evP, reduceCtorEq] at he
    | invoke p q => simp only [evP, reduceCtorEq] at he
    | builtin b =>
      cases b <;> simp only [evP, reduceCtorEq] at he
      case len =>
        split at he
        · rename_i x t hx ht
          obtain ⟨u, h1, h2⟩ := one'_some he
          obtain rfl : args = #[x] := by apply Array.toList_inj.1; simpa using hx
          obtain rfl : ats = #[t] := by apply Array.toList_inj.1; simpa using ht
          obtain ⟨z, h3, h4⟩ := evLen_ok (P := P) (ty := ty) hT r.heap h2 (opd_ok r h1 rfl)
          refine ⟨z, ?_, h4⟩
          simp [execOp, resolve, invoke, builtin, h3]
        · cases he
      case min =>
        split at he
        · rename_i x y hx
          obtain ⟨u, u', h1, h2, h3⟩ := both_some he
          obtain rfl : args = #[x, y] := by apply Array.toList_inj.1; simpa using hx
          split at h3
          · rename_i k p k' q
            split at h3
            · rename_i hk
              subst hk
              obtain rfl : _ = v := by simpa using h3
              have q1 := opd_ok r h1 rfl
              have q2 := opd_ok r h2 rfl
              generalize hz1 : a.eval x = z1 at q1
              generalize hz2 : a.eval y = z2 at q2
              cases q1 with | one _ _ q1 => cases q1 with | d _ _ q1 => cases q1 with | int =>
              cases q2 with | one _ _ q2 => cases q2 with | d _ _ q2 => cases q2 with | int =>
              refine ⟨_, ?_, .one _ _ (.d _ _ (.int _ _))⟩
              simp [execOp, resolve, invoke, builtin, hz1, hz2, run_min_int2]
            · cases h3
          · cases h3
        · cases he
      case max =>
        split at he
        · rename_i x y hx
          obtain ⟨u, u', h1, h2, h3⟩ := both_some he
          obtain rfl : args = #[x, y] := by apply Array.toList_inj.1; simpa using hx
          split at h3
          · rename_i k p k' q
            split at h3
            · rename_i hk
              subst hk
              obtain rfl : _ = v := by simpa using h3
              have q1 := opd_ok r h1 rfl
              have q2 := opd_ok r h2 rfl
              generalize hz1 : a.eval x = z1 at q1
              generalize hz2 : a.eval y = z2 at q2
              cases q1 with | one _ _ q1 => cases q1 with | d _ _ q1 => cases q1 with | int =>
              cases q2 with | one _ _ q2 => cases q2 with | d _ _ q2 => cases q2 with | int =>
              refine ⟨_, ?_, .one _ _ (.d _ _ (.int _ _))⟩
              simp [execOp, resolve, invoke, builtin, hz1, hz2, run_max_int2]
            · cases h3
          · cases h3
        · cases he
def guardB (n : Nat) (ops : Array Oper) (s : St) (j : Nat) (want : Bool) : Option Bool :=
  match (ops[j]?).bind (·.dst) with
  | some d => if Nat.blt d n then match s.t d with
      | .one (.d (.bool x)) => some (x == want)
      | .when b (.one (.d (.bool x))) => some (b && (x == want))
      | _ => none
    else none
  | none => none
theorem guardB_ok (r : Rel E n g s a w) {ops : Array Oper} {o : Oper} {j : Nat} {want c : Bool} (hg : o.guard = some (j, want)) (hc : guardB n ops s j want = some c) :
  Region.wanted o (yielded ops a.tmps) = c := by
 unfold guardB at hc
 simp only [Region.wanted, hg, yielded]
 split at hc
 ·skip
  rename_i d hd
  rw [hd]
  split at hc
  ·skip
   rename_i hlt
   have hlt : d < n := by simpa [Nat.blt_eq] using hlt
   have hz : a.tmps[d]? = some (a.tmps.getD d undef) := by
    rw [Array.getD_eq_getD_getElem?, Array.getElem?_eq_getElem (by rw [r.size]; exact hlt)]; rfl
   have hr := r.tmps d hlt
   simp only [Option.bind_some, hz]
   generalize a.tmps.getD d undef = z at hr
   split at hc
   ·skip
    rename_i x hx
    rw [hx] at hr
    obtain rfl : _ = c := by simpa using hc
    cases hr with | one _ _ q => cases q with | d _ _ q => cases q with | bool => cases x <;> cases want <;> rfl
   ·skip
    rename_i b x hx
    rw [hx] at hr
    obtain rfl : _ = c := by simpa using hc
    cases hr with
    | whenT _ _ q => cases q with | one _ _ q => cases q with | d _ _ q => cases q with | bool => cases x <;> cases want <;> rfl
    | whenF _ => cases x <;> cases want <;> rfl
   ·skip
    cases hc
  ·skip
   cases hc
 ·skip
  cases hc
theorem Step.pure {ops : Array Oper} {o : Oper} {K : St → Prop} {b : Bool} {v : V} (hT : TabOk P T) (hZ : ZeroOk T) (he : evP T n s o.op = some (b, v)) (hg : o.guard = none) (hb : b = true)
  (k : K (s.set o.dst v)) : Step E P n ops o K s := by
 intro g a w r next Q hn
 subst hb
 have hw : Region.wanted o (yielded ops a.tmps) = true := by simp [Region.wanted, hg]
 rw [if_pos hw]
 obtain ⟨z, h1, h2⟩ := evP_ok hT hZ r he
 unfold Oper.wp
 rw [h1]
 exact hn _ g _ _ k (r.put_same _ h2)
theorem Step.pureG {ops : Array Oper} {o : Oper} {K : St → Prop} {b c : Bool} {v : V} {j : Nat} {want : Bool} (hT : TabOk P T) (hZ : ZeroOk T) (hg : o.guard = some (j, want))
  (hc : guardB n ops s j want = some c) (he : evP T n s o.op = some (b, v)) (hb : c = true → b = true) (k : K (s.set o.dst (.when c v))) : Step E P n ops o K s := by
 intro g a w r next Q hn
 rw [guardB_ok r hg hc]
 cases c with
 | true =>
  obtain rfl := hb rfl
  rw [if_pos rfl]
  obtain ⟨z, h1, h2⟩ := evP_ok hT hZ r he
  unfold Oper.wp
  rw [h1]
  exact hn _ g _ _ k (r.put_same _ (.whenT _ _ h2))
 | false =>
  rw [if_neg (by simp)]
  exact hn _ g _ _ k (r.put_same _ (.whenF _))
theorem Step.skip {ops : Array Oper} {o : Oper} {K : St → Prop} {j : Nat} {want : Bool} (hg : o.guard = some (j, want))
  (hc : guardB n ops s j want = some false) (u : V) (k : K (s.set o.dst (.when false u))) : Step E P n ops o K s := by
 intro g a w r next Q hn
 rw [guardB_ok r hg hc, if_neg (by simp)]
 exact hn _ g _ _ k (r.put_same _ (.whenF _))
end
end
section
open Go Go.RowKit
section
variable {J : Inv} {k0 : Lens} {E : Env J k0} {P : Program} {T : TypeId → Option TI} {n : Nat} {s : St} {g : Gh} {a : Act} {w : World}
mutual
theorem RC.pure {g : Gh} {h : Sh} {w : World} (g' : Gh) (h' : Sh) (hi : g'.im = g.im) : ∀ (c : C) (v : Value), pureC c = true → RC g h w c v → RC g' h' w c v
  | .d x, v, _, hx => by cases hx with | d _ _ hx => exact .d _ _ (by rw [hi]; exact hx)
  | .clo f caps, v, hp, hx => by
    cases hx with | clo _ _ vs hl hx =>
    exact .clo f caps vs hl (RC.pures g' h' hi caps vs (by simpa [pureC] using hp) hx)
  | .ptr _ _, _, hp, _ => by simp [pureC] at hp
  | .eptr _, _, hp, _ => by simp [pureC] at hp
  | .row _ _ _ _, _, hp, _ => by simp [pureC] at hp
  | .rptr _ _ _ _, _, hp, _ => by simp [pureC] at hp
  | .map _, _, hp, _ => by simp [pureC] at hp
  | .wr _ _ _, _, hp, _ => by simp [pureC] at hp
  | .junk, _, hp, _ => by simp [pureC] at hp
theorem RC.pures {g : Gh} {h : Sh} {w : World} (g' : Gh) (h' : Sh) (hi : g'.im = g.im) : ∀ (cs : List C) (vs : List Value), pureCs cs = true → (∀ (i : Nat) (c : C) (v : Value), cs[i]? = some c → vs[i]? = some v → RC g h w c v) →
    ∀ (i : Nat) (c : C) (v : Value), cs[i]? = some c → vs[i]? = some v → RC g' h' w c v
  | [], vs, _, _, i, c, v, h1, _ => by simp at h1
  | c0 :: cs, vs, hp, hx, i, c, v, h1, h2 => by
    simp only [pureCs, Bool.and_eq_true] at hp
    cases i with
    | zero =>
      obtain rfl : c0 = c := by simpa using h1
      exact RC.pure g' h' hi c0 v hp.1 (hx 0 c0 v rfl h2)
    | succ i =>
      refine RC.pures g' h' hi cs (vs.drop 1) hp.2 (fun j c v h3 h4 => hx (j + 1) c v (by simpa using h3) (by rw [List.getElem?_drop, Nat.add_comm] at h4; exact h4)) i c v (by simpa using h1) ?_
      rw [List.getElem?_drop, Nat.add_comm]; exact h2
end
theorem RV.pure {g : Gh} {h : Sh} {w : World} (g' : Gh) (h' : Sh) (hi : g'.im = g.im) {u : V} {v : Value} (hp : pureV u = true) (hx : RV g h w u v) : RV g' h' w u v := by
 cases hx with
 | one c v hx => exact .one _ _ (hx.pure g' h' hi _ _ (by simpa [pureV] using hp))
 | agg cs vs hl hx => exact .agg cs vs hl (RC.pures g' h' hi cs vs (by simpa [pureV] using hp) hx)
 | tup => simp [pureV] at hp
 | whenT => simp [pureV] at hp
 | whenF => simp [pureV] at hp
 | junk => simp [pureV] at hp
theorem Ext.fromNo (im : Nat → Prop) (w : World) (g : Gh) (h : Sh) (hi : g.im = im) : Ext (noGh im) noSh w g h w :=
  ⟨fun b hb => by rw [hi]; exact hb, fun _ _ => rfl, Nat.zero_le _, Nat.zero_le _, Nat.zero_le _, fun l hl => absurd hl (Nat.not_lt_zero _), fun l hl => absurd hl (Nat.not_lt_zero _),
    fun r _ _ _ _ hr => absurd hr (Nat.not_lt_zero _)⟩
def Gh.box (g : Gh) (l b : Nat) : Gh := { g with at_ := fun x => if x = .b l then b else g.at_ x }
theorem Rel.newBox (r : Rel E n g s a w) (d : Option Nat) {cs : List C} {vs : List Value} {t : TypeId} (hl : vs.length = cs.length)
    (hx : ∀ (i : Nat) (c : C) (v : Value), cs[i]? = some c → vs[i]? = some v → RC g s.sh w c v) :
    Rel E n (g.box s.b.length w.heap.size) ((⟨s.t, s.b ++ [cs], s.r, s.m⟩ : St).set d (.one (.ptr s.b.length 0))) (a.put d (.pointer (some ⟨w.heap.size, 0, none⟩))) (w.alloc (.cells vs.toArray t)) := by
  obtain ⟨s1, hs1⟩ : ∃ s1 : St, s1 = ⟨s.t, s.b ++ [cs], s.r, s.m⟩ := ⟨_, rfl⟩
  have hsz : (w.alloc (.cells vs.toArray t)).heap.size = w.heap.size + 1 := by simp
  have hold : ∀ k, k < w.heap.size → (w.alloc (.cells vs.toArray t)).heap[k]? = w.heap[k]? := fun k hk => Below.heap_alloc w _ k hk
  have hnew : (w.alloc (.cells vs.toArray t)).heap[w.heap.size]? = some (.cells vs.toArray t (0, 0)) := by show (w.heap.push _)[w.heap.size]? = _; simp
  have e : Ext g s.sh w (g.box s.b.length w.heap.size) s1.sh (w.alloc (.cells vs.toArray t)) := by
    subst hs1
    refine ⟨fun _ h => h, fun b hb => hold b (r.imlt b hb), by simp [St.sh], Nat.le_refl _, Nat.le_refl _, fun l hl => ?_, fun _ _ => by simp [Gh.box], fun q al ver sz len hq h => ⟨al, ver, sz, len, h, Nat.le_refl _, fun _ => ⟨rfl, rfl, Nat.le_refl _, by simp [Gh.box], rfl, rfl⟩⟩⟩
    have : l ≠ s.b.length := by have : l < s.b.length := hl; omega
    simp [Gh.box, this]
  have hat : ∀ x, s.live x → (g.box s.b.length w.heap.size).at_ x = g.at_ x := fun x hx => by
    have : x ≠ .b s.b.length := by rintro rfl; exact absurd (show s.b.length < s.b.length from hx) (Nat.lt_irrefl _)
    simp [Gh.box, this]
  have hlive : ∀ x, s1.live x → s.live x ∨ x = .b s.b.length := fun x hx => by
    subst hs1
    cases x with
    | b l => have h2 : l < s.b.length + 1 := by have := show l < (s.b ++ [cs]).length from hx; simpa using this
             rcases Nat.lt_or_ge l s.b.length with h | h
             · exact .inl h
             · right; congr 1; omega
    | r l => exact .inl hx
    | m l => exact .inl hx
  have hnewat : (g.box s.b.length w.heap.size).at_ (.b s.b.length) = w.heap.size := by simp [Gh.box]
  have hheap : Heap (g.box s.b.length w.heap.size) s1 (w.alloc (.cells vs.toArray t)) := by
    refine ⟨fun x hx => ?_, fun x hx => ?_, fun x y hx hy he => ?_, fun l cs' hl' => ?_, fun l o ho => ?_, fun l es hes => ?_⟩
    · rcases hlive x hx with h | rfl
      · rw [hat x h, hsz]; exact Nat.lt_succ_of_lt (r.heap.lt x h)
      · rw [hnewat, hsz]; exact Nat.lt_succ_self _
    · rcases hlive x hx with h | rfl
      · rw [hat x h]; exact r.heap.new x h
      · rw [hnewat]; exact fun hi => absurd (r.imlt _ hi) (Nat.lt_irrefl _)
    · rcases hlive x hx with h | rfl <;> rcases hlive y hy with h' | rfl
      · rw [hat x h, hat y h'] at he; exact r.heap.inj x y h h' he
      · rw [hat x h, hnewat] at he; exact absurd (r.heap.lt x h) (by omega)
      · rw [hat y h', hnewat] at he; exact absurd (r.heap.lt y h') (by omega)
      · rfl
    · subst hs1
      rcases Nat.lt_or_ge l s.b.length with h | h
      · have hl2 : s.b[l]? = some cs' := by rwa [List.getElem?_append_left h] at hl'
        obtain ⟨vs', t', h1, h2, h3⟩ := r.heap.box l cs' hl2
        rw [hat (.b l) h]
        exact ⟨vs', t', by rw [hold _ (r.heap.lt (.b l) h)]; exact h1, h2, fun j c v hc hv => (h3 j c v hc hv).mono e⟩
      · have hl2 : l = s.b.length ∧ cs = cs' := by
          rw [List.getElem?_append_right h] at hl'
          have h4 : l - s.b.length < 1 := by have := (List.getElem?_eq_some_iff.1 hl').1; simpa using this
          have h5 : l - s.b.length = 0 := by omega
          rw [h5] at hl'
          exact ⟨by omega, by simpa using hl'⟩
        obtain ⟨rfl, rfl⟩ := hl2
        rw [hnewat]
        exact ⟨vs.toArray, t, hnew, by simpa using hl, fun j c v hc hv => (hx j c v hc (by simpa using hv)).mono e⟩
    · have ho' : s.r[l]? = some (some o) := by subst hs1; exact ho
      have := r.heap.row l o ho'
      by_cases hal : o.al = true
      · rw [if_pos hal] at this ⊢
        obtain ⟨vs', t', h1, h2, h3, h4, h5, h6⟩ := this
        rw [hat (.r l) ⟨o, ho', hal⟩]
        exact ⟨vs', t', by rw [hold _ (r.heap.lt (.r l) ⟨o, ho', hal⟩)]; exact h1, h2, h3, h4, h5, fun i j x d v p q u => (h6 i j x d v p q u).mono e.im e.same⟩
      · rw [if_neg hal] at this ⊢; exact this
    · have hes' : s.m[l]? = some es := by subst hs1; exact hes
      obtain ⟨arr, clock, h1, h2, h3⟩ := r.heap.map l es hes'
      have hlv : s.live (.m l) := (List.getElem?_eq_some_iff.1 hes').1
      rw [hat (.m l) hlv]
      exact ⟨arr, clock, by rw [hold _ (r.heap.lt (.m l) hlv)]; exact h1, h2, fun i x y hx hy => ⟨(h3 i x y hx hy).1.mono e, (h3 i x y hx hy).2.mono e⟩⟩
  have hbelow : BelowX E.lent E.w0 (w.alloc (.cells vs.toArray t)) := r.below.then ((Below.refl _ _).alloc (Nat.le_refl _) _)
  have rel1 : Rel E n (g.box s.b.length w.heap.size) s1 a (w.alloc (.cells vs.toArray t)) := by
    refine ⟨hbelow, r.ext.trans e, fun b hb => by rw [hsz]; exact Nat.lt_succ_of_lt (r.imlt b hb), r.imold, fun x hx => ?_, hheap, r.size, r.defers, fun i hi => ?_⟩
    · rcases hlive x hx with h | rfl
      · rw [hat x h]; exact r.own x h
      · rw [hnewat]; exact .inr r.below.size
    · have := (r.tmps i hi).mono e
      subst hs1; exact this
  have := rel1.put_same d (u := .one (.ptr s.b.length 0)) (v := .pointer (some ⟨w.heap.size, 0, none⟩)) (by
    have h := RC.ptr (g := g.box s.b.length w.heap.size) (h := s1.sh) (w := w.alloc (.cells vs.toArray t)) s.b.length 0 (by subst hs1; simp [St.sh])
    rw [hnewat] at h
    exact .one _ _ h)
  subst hs1
  exact this
theorem Step.alloc {ops : Array Oper} {o : Oper} {K : St → Prop} {t : TypeId} {i : TI} {cs : List C} (hT : TabOk P T) (ho : o.op = .alloc t) (hg : o.guard = none) (hi : T t = some i) (hz : zeroC i = some cs)
  (k : K ((⟨s.t, s.b ++ [cs], s.r, s.m⟩ : St).set o.dst (.one (.ptr s.b.length 0)))) : Step E P n ops o K s := by
 intro g a w r next Q hn
 have hw : Region.wanted o (yielded ops a.tmps) = true := by simp [Region.wanted, hg]
 rw [if_pos hw]
 obtain ⟨vs, h1, h2, h3, _⟩ := zeroC_ok (h := s.sh) hz g w
 have hrun : (execOp a.eval o).run P w = .ok (.value (.pointer (some ⟨w.heap.size, 0, none⟩))) (w.alloc (.cells vs.toArray t)) := by
  simp [execOp, ho, Instr.alloc, run_zeroValue' hT hi, newVar, newRow, h1]
 unfold Oper.wp
 rw [hrun]
 exact hn _ _ _ _ k (r.newBox o.dst h2 h3)
theorem Step.box {ops : Array Oper} {o : Oper} {K : St → Prop} {t : TypeId} {x : Operand} {v : V} {cs : List C} (ho : o.op = .box t x) (hg : o.guard = none) (hx : opd n s x = (true, v)) (hc : cellsOfV v = some cs)
  (k : K ((⟨s.t, s.b ++ [cs], s.r, s.m⟩ : St).set o.dst (.one (.ptr s.b.length 0)))) : Step E P n ops o K s := by
 intro g a w r next Q hn
 have hw : Region.wanted o (yielded ops a.tmps) = true := by simp [Region.wanted, hg]
 rw [if_pos hw]
 obtain ⟨vs, h1, h2, h3, _⟩ := cellsOf_ok hc (opd_ok r hx rfl)
 have hrun : (execOp a.eval o).run P w = .ok (.value (.pointer (some ⟨w.heap.size, 0, none⟩))) (w.alloc (.cells vs.toArray t)) := by
  simp [execOp, ho, Instr.box, newVar, newRow, h1]
 unfold Oper.wp
 rw [hrun]
 exact hn _ _ _ _ k (r.newBox o.dst h2 h3)
theorem storeCells_run {b t : Nat} : ∀ (vs : List Value) (i : Nat) (w : World) (cur : Array Value), w.heap[b]? = some (.cells cur t (0, 0)) → i + vs.length ≤ cur.size → (∀ v ∈ vs, v.oneCell' = true) → ∀ (o : Nat), o ≤ i →
    (storeCells ⟨b, o, none⟩ vs (i - o)).run P w = .ok () { w with heap := w.heap.setIfInBounds b (.cells (cur.toList.take i ++ vs ++ cur.toList.drop (i + vs.length)).toArray t (0, 0)) }
  | [], i, w, cur, hb, hl, h1, o, ho => by
    have hlt := (Array.getElem?_eq_some_iff.1 hb)
    simp only [storeCells, Sem.run_pure, List.append_nil, List.length_nil, Nat.add_zero, List.take_append_drop]
    obtain ⟨h2, h3⟩ := hlt
    congr 1
    have : w.heap.setIfInBounds b (.cells cur t (0, 0)) = w.heap := by
      rw [← h3]
      simp [Array.setIfInBounds, h2]
    simp only [Array.toArray_toList]
    rw [this]
  | v :: vs, i, w, cur, hb, hl, h1, o, ho => by
    simp only [List.length_cons] at hl
    have hi : i < cur.size := by omega
    have hc : w.cell? ⟨b, i, none⟩ = some cur[i] := by simp [World.cell?, hb, hi]
    have hf : w.frozen? ⟨b, i, none⟩ = false := by simp [World.frozen?, hb]
    have hv := h1 v (List.mem_cons_self ..)
    have hlt := (Array.getElem?_eq_some_iff.1 hb).1
    have hset : w.setCell ⟨b, i, none⟩ v = { w with heap := w.heap.setIfInBounds b (.cells (cur.setIfInBounds i v) t (0, 0)) } := by
      simp only [World.setCell]
      congr 1
      apply Array.ext_getElem?
      intro k
      rw [Array.getElem?_modify, Array.getElem?_setIfInBounds]
      by_cases hk : b = k
      · subst hk
        rw [if_pos rfl, if_pos rfl, if_pos hlt, hb]
        rfl
      · simp [hk]
    have ih := storeCells_run (b := b) (t := t) vs (i + 1) { w with heap := w.heap.setIfInBounds b (.cells (cur.setIfInBounds i v) t (0, 0)) } (cur.setIfInBounds i v)
      (by simp [Array.getElem?_setIfInBounds, hlt]) (by simp; omega) (fun u hu => h1 u (List.mem_cons_of_mem _ hu)) o (by omega)
    simp only [storeCells, Sem.run_bind, add_none, run_store P _ _ _ _ hv]
    rw [show o + (i - o) = i by omega, hc]
    simp only [hf, Bool.false_eq_true, if_false, Result.andThen_ok, hset]
    rw [show i - o + 1 = i + 1 - o by omega, ih]
    congr 2
    simp only [Array.setIfInBounds_setIfInBounds]
    congr 3
    simp only [Array.toList_setIfInBounds]
    have e1 : (cur.toList.set i v).take (i + 1) = cur.toList.take i ++ [v] := by
      rw [List.take_add_one, List.take_set_of_le (Nat.le_refl _)]
      simp [hi]
    have e2 : (cur.toList.set i v).drop (i + 1 + vs.length) = cur.toList.drop (i + (vs.length + 1)) := by
      rw [List.drop_set_of_lt (by omega)]
      congr 1
      omega
    rw [e1, e2]
    simp
def putCells (cs : List C) (off : Nat) (ds : List C) : List C := cs.take off ++ ds ++ cs.drop (off + ds.length)
theorem Rel.store (r : Rel E n g s a w) {l off : Nat} {cs ds : List C} {vs us : List Value} {t : TypeId} (hl : s.b[l]? = some cs) (hlen : us.length = ds.length) (hoff : off + ds.length ≤ cs.length)
    (hb : w.heap[g.at_ (.b l)]? = some (.cells vs.toArray t (0, 0))) (hvl : vs.length = cs.length)
    (hx : ∀ (i : Nat) (c : C) (v : Value), ds[i]? = some c → us[i]? = some v → RC g s.sh w c v) (d : Option Nat) (u : V) (v : Value) (hv : RV g s.sh w u v) :
    Rel E n g ((⟨s.t, s.b.set l (putCells cs off ds), s.r, s.m⟩ : St).set d u) (a.put d v) { w with heap := w.heap.setIfInBounds (g.at_ (.b l)) (.cells (vs.take off ++ us ++ vs.drop (off + us.length)).toArray t (0, 0)) } := by
  obtain ⟨s1, hs1⟩ : ∃ s1 : St, s1 = ⟨s.t, s.b.set l (putCells cs off ds), s.r, s.m⟩ := ⟨_, rfl⟩
  obtain ⟨w1, hw1⟩ : ∃ w1 : World, w1 = { w with heap := w.heap.setIfInBounds (g.at_ (.b l)) (.cells (vs.take off ++ us ++ vs.drop (off + us.length)).toArray t (0, 0)) } := ⟨_, rfl⟩
  rw [← hs1, ← hw1]
  have hll : l < s.b.length := (List.getElem?_eq_some_iff.1 hl).1
  have hlive : s.live (.b l) := hll
  have hlt := r.heap.lt _ hlive
  have hold : ∀ k, k ≠ g.at_ (.b l) → w1.heap[k]? = w.heap[k]? := fun k hk => by
    rw [hw1]; simp only; rw [Array.getElem?_setIfInBounds, if_neg (Ne.symm hk)]
  have hnew : w1.heap[g.at_ (.b l)]? = some (.cells (vs.take off ++ us ++ vs.drop (off + us.length)).toArray t (0, 0)) := by
    rw [hw1]; simp [Array.getElem?_setIfInBounds, hlt]
  have hsz : w1.heap.size = w.heap.size := by rw [hw1]; simp
  have hsh : s1.sh = s.sh := by rw [hs1]; simp [St.sh]
  have hlv : s1.live = s.live := by rw [hs1]; funext x; cases x <;> simp [St.live]
  have e : Ext g s.sh w g s.sh w1 := .of (fun _ h => h) (fun b hbi => hold b (fun he => r.heap.new _ hlive (he ▸ hbi))) rfl rfl rfl
  have hother : ∀ x, s.live x → x ≠ .b l → w1.heap[g.at_ x]? = w.heap[g.at_ x]? := fun x hx' hne => hold _ (fun he => hne (r.heap.inj _ _ hx' hlive he))
  have hheap : Heap g s1 w1 := by
    refine ⟨fun x hx' => by rw [hsz]; exact r.heap.lt x (hlv ▸ hx'), fun x hx' => r.heap.new x (hlv ▸ hx'), fun x y hx' hy => r.heap.inj x y (hlv ▸ hx') (hlv ▸ hy), fun l' cs' hl' => ?_, fun l' o ho => ?_, fun l' es hes => ?_⟩
    · rw [hsh]
      by_cases hll' : l = l'
      · subst hll'
        have hcs : putCells cs off ds = cs' := by rw [hs1] at hl'; simpa [hll] using hl'
        subst hcs
        refine ⟨_, t, hnew, by simp [putCells, hvl, hlen], fun j c v hc hv' => ?_⟩
        simp only [List.getElem?_toArray] at hv'
        obtain ⟨vs0, t0, q1, q2, q3⟩ := r.heap.box l cs hl
        have hvs : vs0 = vs.toArray := by rw [hb] at q1; injection q1 with q1; injection q1 with q1; exact q1.symm
        subst hvs
        unfold putCells at hc
        simp only [List.append_assoc] at hc hv'
        by_cases k1 : j < off
        · rw [List.getElem?_append_left (by simp; omega), List.getElem?_take, if_pos k1] at hc hv'
          exact (q3 j c v hc (by simpa using hv')).mono e
        · rw [List.getElem?_append_right (by simp; omega)] at hc hv'
          simp only [List.length_take] at hc hv'
          rw [show min off cs.length = off by omega] at hc
          rw [show min off vs.length = off by omega] at hv'
          by_cases k2 : j - off < ds.length
          · rw [List.getElem?_append_left (by omega)] at hc hv'
            exact (hx _ c v hc hv').mono e
          · rw [List.getElem?_append_right (by omega)] at hc hv'
            rw [List.getElem?_drop] at hc hv'
            rw [hlen] at hv'
            exact (q3 _ c v hc (by simpa using hv')).mono e
      · have hl2 : s.b[l']? = some cs' := by rw [hs1] at hl'; simpa [List.getElem?_set, hll'] using hl'
        obtain ⟨vs', t', h1, h2, h3⟩ := r.heap.box l' cs' hl2
        have hlv' : s.live (.b l') := (List.getElem?_eq_some_iff.1 hl2).1
        exact ⟨vs', t', by rw [hother _ hlv' (fun he => hll' (by injection he with he; exact he.symm))]; exact h1, h2, fun j c v hc hv => (h3 j c v hc hv).mono e⟩
    · have ho' : s.r[l']? = some (some o) := by rw [hs1] at ho; exact ho
      have := r.heap.row l' o ho'
      by_cases hal : o.al = true
      · rw [if_pos hal] at this ⊢
        obtain ⟨vs', t', h1, h2, h3, h4, h5, h6⟩ := this
        exact ⟨vs', t', by rw [hother _ (show s.live (.r l') from ⟨o, ho', hal⟩) (by simp)]; exact h1, h2, h3, h4, h5, fun i j x d v p q u => (h6 i j x d v p q u).mono e.im e.same⟩
      · rw [if_neg hal] at this ⊢; exact this
    · have hes' : s.m[l']? = some es := by rw [hs1] at hes; exact hes
      obtain ⟨arr, clock, h1, h2, h3⟩ := r.heap.map l' es hes'
      have hlv' : s.live (.m l') := (List.getElem?_eq_some_iff.1 hes').1
      rw [hsh]
      exact ⟨arr, clock, by rw [hother _ hlv' (by simp)]; exact h1, h2, fun i x y hx hy => ⟨(h3 i x y hx hy).1.mono e, (h3 i x y hx hy).2.mono e⟩⟩
  have hbelow : BelowX E.lent E.w0 w1 := by
    refine r.below.trans (l2 := fun k => k = g.at_ (.b l)) ⟨by rw [hw1], by rw [hw1], by rw [hw1], by rw [hsz]; exact Nat.le_refl _, fun k hk hn => hold k hn⟩ (fun k hk hlt' => ?_)
    rcases r.own _ hlive with h | h
    · rw [hk]; exact h
    · omega
  have rel1 : Rel E n g s1 a w1 := by
    refine ⟨hbelow, by rw [hsh]; exact r.ext.trans e, fun b hbi => by rw [hsz]; exact r.imlt b hbi, r.imold, fun x hx' => r.own x (hlv ▸ hx'), hheap, r.size, r.defers, fun i hi => ?_⟩
    have := (r.tmps i hi).mono e
    rw [hsh]
    rw [hs1]; exact this
  exact rel1.put_same d (by rw [hsh]; exact hv.mono e)
theorem Step.store {ops : Array Oper} {o : Oper} {K : St → Prop} {t : TypeId} {i : TI} {x y : Operand} {l off : Nat} {v : V} {cs ds : List C} (hT : TabOk P T) (ho : o.op = .store t x y) (hg : o.guard = none) (hd : o.dst = none)
  (hi : T t = some i) (hx : opd n s x = (true, .one (.ptr l off))) (hy : opd n s y = (true, v)) (hv : cellsOfV v = some ds) (hb : s.b[l]? = some cs) (hs : ds.length = i.size) (hoff : off + ds.length ≤ cs.length)
  (k : K ⟨s.t, s.b.set l (putCells cs off ds), s.r, s.m⟩) : Step E P n ops o K s := by
 intro g a w r next Q hn
 have hw : Region.wanted o (yielded ops a.tmps) = true := by simp [Region.wanted, hg]
 rw [if_pos hw]
 obtain ⟨us, h1, h2, h3, h4⟩ := cellsOf_ok hv (opd_ok r hy rfl)
 have hp := opd_ok r hx rfl
 generalize hz : a.eval x = z at hp
 cases hp with | one _ _ hp => cases hp with | ptr _ _ hl =>
 obtain ⟨vs, ty, q1, q2, q3⟩ := r.heap.box l cs hb
 obtain ⟨vs, rfl⟩ : ∃ l : List Value, vs = l.toArray := ⟨vs.toList, by simp⟩
 have hrun : (execOp a.eval o).run P w = .ok .skip { w with heap := w.heap.setIfInBounds (g.at_ (.b l)) (.cells (vs.take off ++ us ++ vs.drop (off + us.length)).toArray ty (0, 0)) } := by
  have hst := storeCells_run (P := P) us off w vs.toArray q1 (by simp at q2 ⊢; omega) h4 off (Nat.le_refl _)
  simp only [Nat.sub_self] at hst
  have hsz : us.toArray.size = i.size := by simp [h2, hs]
  simp only [execOp, ho, Instr.storeAt, hz, Instr.sureAddr, storeVar, Sem.run_bind, Sem.run_pure, Result.andThen_ok, run_sizeOf' hT hi, h1, hsz, ne_eq, not_true_eq_false, if_false, hst]
 have hput : a.put o.dst undef = a := by rw [hd]; rfl
 have hrel := r.store (l := l) (off := off) (cs := cs) (ds := ds) (vs := vs) (us := us) hb h2 hoff q1 (by simpa using q2) h3 none .junk undef (.junk _)
 unfold Oper.wp
 rw [hrun]
 show next (a.put o.dst undef) _
 rw [hput]
 exact hn _ _ _ _ k hrel
def allDs : List C → Option (List D)
 | [] => some []
 | .d x :: l => match allDs l with | some r => some (x :: r) | none => none
 | _ => none
theorem allDs_eq : ∀ {cs : List C} {ds : List D}, allDs cs = some ds → cs = ds.map .d
  | [], ds, h => by obtain rfl : [] = ds := by simpa [allDs] using h
                    rfl
  | .d x :: l, ds, h => by
    unfold allDs at h
    split at h
    · rename_i r hr
      obtain rfl : x :: r = ds := by simpa using h
      rw [allDs_eq hr]; rfl
    · cases h
  | .ptr _ _ :: l, ds, h => by simp [allDs] at h
  | .eptr _ :: l, ds, h => by simp [allDs] at h
  | .row _ _ _ _ :: l, ds, h => by simp [allDs] at h
  | .rptr _ _ _ _ :: l, ds, h => by simp [allDs] at h
  | .map _ :: l, ds, h => by simp [allDs] at h
  | .clo _ _ :: l, ds, h => by simp [allDs] at h
  | .wr _ _ _ :: l, ds, h => by simp [allDs] at h
  | .junk :: l, ds, h => by simp [allDs] at h
end
end
section
open Go Go.RowKit
section
variable {J : Inv} {k0 : Lens} {E : Env J k0} {P : Program} {T : TypeId → Option TI} {n : Nat} {s : St} {g : Gh} {a : Act} {w : World}
def chunk (sz : Nat) : Nat → List D → List (List D)
 | 0, _ => []
 | k + 1, ds => ds.take sz :: chunk sz k (ds.drop sz)
theorem chunk_length (sz : Nat) : ∀ (k : Nat) (ds : List D), (chunk sz k ds).length = k
 | 0, _ => rfl
 | k + 1, ds => by simp [chunk, chunk_length sz k]
theorem chunk_get (sz : Nat) : ∀ (k : Nat) (ds : List D) (i j : Nat) (x : List D) (d : D), (chunk sz k ds)[i]? = some x → x[j]? = some d → ds[i * sz + j]? = some d
  | 0, ds, i, j, x, d, h, _ => by simp [chunk] at h
  | k + 1, ds, 0, j, x, d, h, h2 => by
    simp [chunk] at h
    subst h
    rw [List.getElem?_take] at h2
    split at h2
    · simpa using h2
    · cases h2
  | k + 1, ds, i + 1, j, x, d, h, h2 => by
    have := chunk_get sz k (ds.drop sz) i j x d (by simpa [chunk] using h) h2
    rw [List.getElem?_drop] at this
    rw [Nat.add_mul, Nat.one_mul]
    rwa [show i * sz + sz + j = sz + (i * sz + j) by omega]
theorem chunk_sz (sz : Nat) : ∀ (k : Nat) (ds : List D), ds.length = k * sz → ∀ x ∈ chunk sz k ds, x.length = sz
  | 0, _, _, x, hx => by simp [chunk] at hx
  | k + 1, ds, h, x, hx => by
    rw [Nat.add_mul, Nat.one_mul] at h
    simp only [chunk, List.mem_cons] at hx
    rcases hx with rfl | hx
    · simp; omega
    · exact chunk_sz sz k (ds.drop sz) (by simp; omega) x hx
def evBS (T : TypeId → Option TI) (t : TypeId) (len : Nat) (parts : List (Nat × V)) : Option (Nat × List (List D)) :=
  match T t with
  | some { desc := .slice e, .. } => match T e with
    | some j => match zeroC j with
      | some z => if len * j.size ≤ 16777216 ∧ z.length = j.size then
          match fillC (fun i => some (i * j.size, j.size)) (List.replicate (len * j.size) .junk) parts with
          | some out => match allDs out with
            | some ds => if ds.length = len * j.size then some (j.size, chunk j.size len ds) else none
            | none => none
          | none => none
        else none
      | none => none
    | none => none
  | _ => none
theorem Rel.newRow (r : Rel E n g s a w) (d : Option Nat) {sz len : Nat} {ds : List D} {us : List Value} {t : TypeId} (hd : ds.length = len * sz) (hl : us.length = ds.length)
    (hx : ∀ (i : Nat) (c : C) (v : Value), (ds.map C.d)[i]? = some c → us[i]? = some v → RC g s.sh w c v) :
    ∃ g', Rel E n g' (s.set d (.one (.d (.vec sz (chunk sz len ds))))) (a.put d (.slice (some ⟨w.heap.size, 0, none⟩) len len)) (w.alloc (.cells us.toArray t)) := by
  have hsz : (w.alloc (.cells us.toArray t)).heap.size = w.heap.size + 1 := by simp
  have hb : Below w.heap.size w (w.alloc (.cells us.toArray t)) := (Below.refl _ _).alloc (Nat.le_refl _) _
  have hnew : (w.alloc (.cells us.toArray t)).heap[w.heap.size]? = some (.cells us.toArray t (0, 0)) := by show (w.heap.push _)[w.heap.size]? = _; simp
  have r1 := r.later (fun b => g.im b ∨ b = w.heap.size) hb (fun b h => .inl h) (fun b h => by rw [hsz]; rcases h with h | rfl; exact Nat.lt_succ_of_lt (r.imlt b h); exact Nat.lt_succ_self _)
    (fun b h => h.elim .inl (fun h => .inr (by omega)))
  refine ⟨_, r1.put_same d (.one _ _ (.d _ _ ?_))⟩
  have hrd : ∀ (i : Nat) (x : D) (v : Value), ds[i]? = some x → us[i]? = some v → RD (fun b => g.im b ∨ b = w.heap.size) (w.alloc (.cells us.toArray t)) x v := fun i x v h1 h2 => by
    have := hx i (.d x) v (by simp [h1]) h2
    cases this with | d _ _ q => exact q.mono (fun b h => .inl h) (fun b h => hb.block b (r.imlt b h))
  by_cases hz : len = 0
  · subst hz; exact .empty _ _ _
  · have hcl := chunk_length sz len ds
    have := RD.vec (im := fun b => g.im b ∨ b = w.heap.size) (w := w.alloc (.cells us.toArray t)) sz (chunk sz len ds) w.heap.size 0 len (fun i j => us.getD (i * sz + j) undef)
      (fun h => by rw [h] at hcl; simp at hcl; omega) (by omega) (.inr rfl) (chunk_sz sz len ds hd) (fun i j x d h1 h2 => ?_) (fun i j x d h1 h2 => ?_)
    · rw [hcl] at this; exact this
    · have h3 := chunk_get sz len ds i j x d h1 h2
      have h4 := (List.getElem?_eq_some_iff.1 h3).1
      have h5 : us[i * sz + j]? = some us[i * sz + j] := List.getElem?_eq_getElem (by omega)
      simp only [World.cell?, hnew, Nat.zero_add, Option.isSome_none, Bool.false_eq_true, if_false, List.getElem?_toArray, List.getD_eq_getElem?_getD, h5, Option.getD_some]
    · have h3 := chunk_get sz len ds i j x d h1 h2
      have h4 := (List.getElem?_eq_some_iff.1 h3).1
      have h5 : us[i * sz + j]? = some us[i * sz + j] := List.getElem?_eq_getElem (by omega)
      rw [List.getD_eq_getElem?_getD, h5]
      exact hrd _ _ _ h3 h5
theorem zeroCells_ok {h : Sh} {i : TI} {z : List C} (hz : zeroC i = some z) (m : Nat) (hm : z.length = i.size) (g : Gh) (w : World) :
  ∃ vs : List Value, ((Array.range m).map (i.zero.cells[· % i.zero.cells.size]!)) = vs.toArray ∧ vs.length = m ∧ (0 < i.size → ∀ v ∈ vs, v.oneCell' = true) := by
 obtain ⟨zs, h1, h2, _, h4⟩ := zeroC_ok (h := h) hz g w
 refine ⟨(List.range m).map (zs.toArray[· % zs.length]!), ?_, by simp, fun hpos v hv => ?_⟩
 ·skip
  rw [h1]
  apply Array.toList_inj.1
  simp [Array.toList_range]
 ·skip
  simp only [List.mem_map, List.mem_range] at hv
  obtain ⟨k, _, rfl⟩ := hv
  have hlt : k % zs.length < zs.length := Nat.mod_lt _ (by omega)
  simp only [List.getElem!_toArray, List.getElem!_eq_getElem?_getD, List.getElem?_eq_getElem hlt, Option.getD_some]
  exact h4 _ (List.getElem_mem _)
theorem run_buildSlice {len : Nat} {pv : Array (Nat × Value)} {t e : TypeId} {ti j : TI} {zs vs : List Value} (hT : TabOk P T) (ht : T t = some ti) (hd : ti.desc = .slice e) (hj : T e = some j)
  (hb : ¬ len * j.size > 2 ^ 24) (hz : ((Array.range (len * j.size)).map (j.zero.cells[· % j.zero.cells.size]!)) = zs.toArray)
  (hf : Instr.fill (fun i => some (i * j.size, j.size)) zs.toArray pv.toList = some vs.toArray) :
  (Instr.buildSlice t len pv).run P w = .ok (.slice (some ⟨w.heap.size, 0, none⟩) len len) (w.alloc (.cells vs.toArray e)) := by
 have hu := run_underlying' (w := w) hT ht
 rw [hd] at hu
 simp only [Instr.buildSlice, Sem.run_bind, hu, Result.andThen_ok, run_sizeOf' hT hj, if_neg hb]
 by_cases h0 : len * j.size = 0
 ·skip
  have hzs : zs = [] := by
   have := congrArg Array.size hz
   simp [h0] at this
   exact List.eq_nil_of_length_eq_zero this.symm
  simp only [if_pos h0, Sem.run_bind, Sem.run_pure, Result.andThen_ok]
  have he : ((Array.range (len * j.size)).map fun x => (#[] : Array Value)[x % (#[] : Array Value).size]!) = zs.toArray := by rw [h0, hzs]; simp
  rw [he, hf]
  simp [newRow]
 ·skip
  simp only [if_neg h0, Sem.run_bind, run_zeroValue' hT hj, Sem.run_pure, Result.andThen_ok]
  rw [hz, hf]
  simp [newRow]
theorem Step.buildSlice {ops : Array Oper} {o : Oper} {K : St → Prop} {t : TypeId} {len sz : Nat} {parts : Array (Nat × Operand)} {us : List (Nat × V)} {xs : List (List D)} (hT : TabOk P T)
  (ho : o.op = .buildSlice t len parts) (hg : o.guard = none) (hp : allOpd n s parts.toList = (true, us)) (hx : evBS T t len us = some (sz, xs))
  (k : K (s.set o.dst (.one (.d (.vec sz xs))))) : Step E P n ops o K s := by
 intro g a w r next Q hn
 have hw : Region.wanted o (yielded ops a.tmps) = true := by simp [Region.wanted, hg]
 rw [if_pos hw]
 obtain ⟨hl, hpv⟩ := allOpd_ok r _ _ _ hp rfl
 unfold evBS at hx
 split at hx
 ·skip
  rename_i e _ _ _ _ ht
  split at hx
  ·skip
   rename_i j hj
   split at hx
   ·skip
    rename_i z hz
    split at hx
    ·skip
     rename_i hc
     split at hx
     ·skip
      rename_i out hf
      split at hx
      ·skip
       rename_i ds hds
       split at hx
       ·skip
        rename_i hlen
        obtain ⟨rfl, rfl⟩ : j.size = sz ∧ chunk j.size len ds = xs := by simpa using hx
        have hout := allDs_eq hds
        obtain ⟨zs, q1, q2, q3⟩ := zeroCells_ok (h := s.sh) hz (len * j.size) hc.2 g w
        have hjunk : ∀ (i : Nat) (c : C) (v : Value), (List.replicate (len * j.size) C.junk)[i]? = some c → zs[i]? = some v → RC g s.sh w c v := fun i c v h1 h2 => by
         rw [List.getElem?_replicate] at h1
         split at h1
         ·skip
          rename_i hi
          cases h1
          refine .junk _ (q3 ?_ v (List.mem_of_getElem? h2))
          rcases Nat.eq_zero_or_pos j.size with h0 | h0
          ·skip
           rw [h0, Nat.mul_zero] at hi; omega
          ·skip
           exact h0
         ·skip
          cases h1
        obtain ⟨vs, f1, f2, f3⟩ := fillC_ok (h := s.sh) (fun i => some (i * j.size, j.size)) us (parts.toList.map fun (i, x) => (i, a.eval x)) _ out zs (by simp [hl]) hpv (by simp [q2]) hjunk hf
        have hu := run_underlying' (w := w) hT ht
        have e1 : (parts.map fun (i, x) => (i, a.eval x)) = (parts.toList.map fun (i, x) => (i, a.eval x)).toArray := Array.toList_inj.1 (by simp)
        have hrun : (execOp a.eval o).run P w = .ok (.value (.slice (some ⟨w.heap.size, 0, none⟩) len len)) (w.alloc (.cells vs.toArray e)) := by
         have := run_buildSlice (w := w) (pv := parts.map fun (i, x) => (i, a.eval x)) (len := len) hT ht rfl hj (by have := hc.1; omega) q1 (by rw [e1]; simpa using f1)
         simp only [execOp, ho, Sem.run_bind, this, Result.andThen_ok, Sem.run_pure]
        obtain ⟨g', hr⟩ := r.newRow o.dst (sz := j.size) (len := len) (ds := ds) (us := vs) (t := e) hlen (by rw [f2, hout]; simp) (by rw [← hout]; exact f3)
        unfold Oper.wp
        rw [hrun]
        exact hn _ _ _ _ k hr
       ·skip
        cases hx
      ·skip
       cases hx
     ·skip
      cases hx
    ·skip
     cases hx
   ·skip
    cases hx
  ·skip
   cases hx
 ·skip
  cases hx
def allOpdL (n : Nat) (s : St) : List Operand → Bool × List V
 | [] => (true, [])
 | x :: r => let a := opd n s x; let b := allOpdL n s r; (a.1 && b.1, a.2 :: b.2)
theorem allOpdL_ok (r : Rel E n g s a w) : ∀ (l : List Operand) (us : List V) (b : Bool), allOpdL n s l = (b, us) → b = true → us.length = l.length ∧
    ∀ (i : Nat) (u : V) (v : Value), us[i]? = some u → (l.map a.eval)[i]? = some v → RV g s.sh w u v
  | [], us, b, h, hb => by
    obtain ⟨rfl, rfl⟩ : true = b ∧ [] = us := by simpa [allOpdL] using h
    exact ⟨rfl, fun i p q h1 _ => by simp at h1⟩
  | x :: l, us, b, h, hb => by
    unfold allOpdL at h
    simp only at h
    generalize h1 : opd n s x = p1 at h
    generalize h2 : allOpdL n s l = p2 at h
    obtain ⟨b1, v1⟩ := p1
    obtain ⟨b2, v2⟩ := p2
    simp only [Prod.mk.injEq] at h
    obtain ⟨h3, rfl⟩ := h
    rw [← h3, Bool.and_eq_true] at hb
    obtain ⟨h4, h5⟩ := allOpdL_ok r l v2 b2 h2 hb.2
    refine ⟨by simp [h4], fun i p q h6 h7 => ?_⟩
    cases i with
    | zero =>
      simp at h6 h7
      subst h6; subst h7
      exact opd_ok r h1 hb.1
    | succ i => exact h5 i p q (by simpa using h6) (by simpa using h7)
def calleeV : V → Option (FuncId × List C)
 | .one (.d (.fn f)) => some (f, [])
 | .one (.clo f caps) => some (f, caps)
 | _ => none
theorem callFunc_run {f : FuncId} {fn : Func} (hf : P.funcs[f]? = some fn) (h1 : (fn.name == "runtime.NumGoroutine") = false) (h2 : fn.body.isNone = false) (args : Array Value) :
  (callFunc f args).run P w = .ok (.enter f args) w := by
 simp only [callFunc, Sem.run_bind, run_program, Result.andThen_ok, hf, h1, h2, Bool.false_eq_true, if_false, Sem.run_pure]
theorem call_run (r : Rel E n g s a w) {o : Oper} {fo : Operand} {args : Array Operand} {ats : Array TypeId} (ho : o.op = .call { callee := .value fo, args, argTypes := ats }) {u : V} {f : FuncId} {caps : List C}
  (hu : opd n s fo = (true, u)) (hc : calleeV u = some (f, caps)) {fn : Func} (hf : P.funcs[f]? = some fn) (h1 : (fn.name == "runtime.NumGoroutine") = false) (h2 : fn.body.isNone = false) :
  ∃ vs : List Value, vs.length = caps.length ∧ (∀ (i : Nat) (c : C) (v : Value), caps[i]? = some c → vs[i]? = some v → RC g s.sh w c v) ∧
   (execOp a.eval o).run P w = .ok (.enter f (args.toList.map a.eval ++ vs).toArray) w := by
 have hv := opd_ok r hu rfl
 unfold calleeV at hc
 split at hc
 ·skip
  rename_i f'
  obtain ⟨rfl, rfl⟩ : f' = f ∧ [] = caps := by simpa using hc
  generalize hz : a.eval fo = z at hv
  cases hv with | one _ _ q => cases q with | d _ _ q => cases q with | fn =>
  refine ⟨[], rfl, fun i c v hc => by simp at hc, ?_⟩
  simp only [execOp, ho, resolve, hz, Deferred.ofValue, Sem.run_bind, Sem.run_pure, Result.andThen_ok, invoke, callFunc_run hf h1 h2]
  congr 2
  apply Array.toList_inj.1
  simp
 ·skip
  rename_i f' caps'
  obtain ⟨rfl, rfl⟩ : f' = f ∧ caps' = caps := by simpa using hc
  generalize hz : a.eval fo = z at hv
  cases hv with | one _ _ q => cases q with | clo _ _ vs hl hx =>
  refine ⟨vs, hl, hx, ?_⟩
  simp only [execOp, ho, resolve, hz, Deferred.ofValue, Sem.run_bind, Sem.run_pure, Result.andThen_ok, invoke, callFunc_run hf h1 h2]
  congr 2
  apply Array.toList_inj.1
  simp
 ·skip
  cases hc
def pureVs : List V → Bool
 | [] => true
 | v :: l => pureV v && pureVs l
theorem pureVs_get : ∀ {us : List V}, pureVs us = true → ∀ (i : Nat) (u : V), us[i]? = some u → pureV u = true
  | [], _, i, u, h => by simp at h
  | v :: l, hp, i, u, h => by
    simp only [pureVs, Bool.and_eq_true] at hp
    cases i with
    | zero => obtain rfl : v = u := by simpa using h
              exact hp.1
    | succ i => exact pureVs_get hp.2 i u (by simpa using h)
theorem capsV_ok {us : List V} {caps : List C} {ws vs : List Value} (hul : ws.length = us.length) (h1 : ∀ (i : Nat) (u : V) (v : Value), us[i]? = some u → ws[i]? = some v → RV g s.sh w u v)
  (hcl : vs.length = caps.length) (h2 : ∀ (i : Nat) (c : C) (v : Value), caps[i]? = some c → vs[i]? = some v → RC g s.sh w c v) :
  ∀ (i : Nat) (u : V) (v : Value), (us ++ caps.map V.one)[i]? = some u → (ws ++ vs)[i]? = some v → RV g s.sh w u v := by
 intro i u v h3 h4
 rcases Nat.lt_or_ge i us.length with h | h
 ·skip
  rw [List.getElem?_append_left h] at h3
  rw [List.getElem?_append_left (by omega)] at h4
  exact h1 i u v h3 h4
 ·skip
  rw [List.getElem?_append_right h] at h3
  rw [List.getElem?_append_right (by omega), hul] at h4
  simp only [List.getElem?_map, Option.map_eq_some_iff] at h3
  obtain ⟨c, hc, rfl⟩ := h3
  exact .one _ _ (h2 _ c v hc h4)
theorem call_wp (r : Rel E n g s a w) {o : Oper} {fo : Operand} {args : Array Operand} {ats : Array TypeId} (ho : o.op = .call { callee := .value fo, args, argTypes := ats }) {u : V} {f : FuncId} {caps : List C} {us : List V} {rv : V}
  (hu : opd n s fo = (true, u)) (hc : calleeV u = some (f, caps)) (ha : allOpdL n s args.toList = (true, us)) (hp : pureVs (us ++ caps.map V.one) = true) (pc : PureCall P J f (us ++ caps.map V.one) rv)
  {next : Act → World → Prop} {Q : Exit → Act → World → Prop} (k : ∀ v g' w', Rel E n g' s a w' → RV g' s.sh w' rv v → next (a.put o.dst v) w') : o.wp P a w next Q := by
 obtain ⟨fn, hf, h1, h2⟩ := pc.enter
 obtain ⟨vs, hl, hx, hrun⟩ := call_run r ho hu hc hf h1 h2
 obtain ⟨hal, hav⟩ := allOpdL_ok r _ _ _ ha rfl
 have hall := capsV_ok (s := s) (g := g) (w := w) (us := us) (caps := caps) (ws := args.toList.map a.eval) (vs := vs) (by simp [hal]) hav hl hx
 have hcall := pc.calls g.im w (args.toList.map a.eval ++ vs) r.inv r.imlt (by simp [hal, hl]) (fun i u v h3 h4 => (hall i u v h3 h4).pure (noGh g.im) noSh (show (noGh g.im).im = g.im from rfl) (pureVs_get hp i u h3))
 unfold Oper.wp
 rw [hrun]
 show Calls P f _ w _
 refine hcall.mono ?_
 rintro e w' ⟨v, im', rfl, hb, hi1, hi2, hi3, hv⟩
 exact k v _ _ (r.later im' hb hi1 hi2 hi3) (hv.mono (.fromNo im' w' _ _ rfl))
theorem Step.call {ops : Array Oper} {o : Oper} {K : St → Prop} {fo : Operand} {args : Array Operand} {ats : Array TypeId} {u : V} {f : FuncId} {caps : List C} {us : List V} {rv : V}
  (pc : PureCall P J f (us ++ caps.map V.one) rv) (ho : o.op = .call { callee := .value fo, args, argTypes := ats }) (hg : o.guard = none) (hu : opd n s fo = (true, u)) (hc : calleeV u = some (f, caps))
  (ha : allOpdL n s args.toList = (true, us)) (hp : pureVs (us ++ caps.map V.one) = true)
  (k : K (s.set o.dst rv)) : Step E P n ops o K s := by
 intro g a w r next Q hn
 have hw : Region.wanted o (yielded ops a.tmps) = true := by simp [Region.wanted, hg]
 rw [if_pos hw]
 exact call_wp r ho hu hc ha hp pc (fun v g' w' r' hv => hn _ g' _ _ k (r'.put_same _ hv))
theorem Step.callG {ops : Array Oper} {o : Oper} {K : St → Prop} {fo : Operand} {args : Array Operand} {ats : Array TypeId} {u : V} {f : FuncId} {caps : List C} {us : List V} {rv : V} {j : Nat} {want c b1 b2 : Bool}
  (pc : c = true → PureCall P J f (us ++ caps.map V.one) rv) (ho : o.op = .call { callee := .value fo, args, argTypes := ats }) (hg : o.guard = some (j, want)) (hgc : guardB n ops s j want = some c)
  (hu : opd n s fo = (b1, u)) (hc : calleeV u = some (f, caps)) (ha : allOpdL n s args.toList = (b2, us)) (hb : c = true → (b1 && b2) = true) (hp : pureVs (us ++ caps.map V.one) = true)
  (k : K (s.set o.dst (.when c rv))) : Step E P n ops o K s := by
 intro g a w r next Q hn
 rw [guardB_ok r hg hgc]
 cases c with
 | true =>
  rw [if_pos rfl]
  obtain ⟨rfl, rfl⟩ : b1 = true ∧ b2 = true := by simpa using hb rfl
  exact call_wp r ho hu hc ha hp (pc rfl) (fun v g' w' r' hv => hn _ g' _ _ k (r'.put_same _ (.whenT _ _ hv)))
 | false =>
  rw [if_neg (by simp)]
  exact hn _ g _ _ k (r.put_same _ (.whenF _))
def resOne (T : TypeId → Option TI) (n : Nat) (s : St) : ResultVar → Option (Bool × V)
 | .tmp t => some (opd n s (.tmp t))
 | .cell a t => one' n s (.tmp a) (evLoad T s t)
def resAll (T : TypeId → Option TI) (n : Nat) (s : St) : List ResultVar → Option (List V)
  | [] => some []
  | r :: l => match resOne T n s r, resAll T n s l with
    | some (true, v), some vs => some (v :: vs)
    | _, _ => none
def resV : List V → V
 | [v] => v
 | vs => .tup vs
def LeV (r' r : V) : Prop := ∀ (im : Nat → Prop) (w : World) (v : Value), RV (noGh im) noSh w r' v → RV (noGh im) noSh w r v
theorem LeV.refl (r : V) : LeV r r := fun _ _ _ h => h
def resSem (tmps : Array Value) : ResultVar → Sem Value
 | .tmp t => pure (tmps.getD t undef)
 | .cell c t => do loadVar t (← asAddr (tmps.getD c undef))
theorem results_eq (fn : Func) (tmps : Array Value) : results fn tmps = (do let vs ← fn.results.mapM (resSem tmps); pure (if h : vs.size = 1 then vs[0] else .tuple vs)) := by
 unfold results
 congr 1
theorem resOne_ok (hT : TabOk P T) (r : Rel E n g s a w) {x : ResultVar} {v : V} (h : resOne T n s x = some (true, v)) :
  ∃ z, (resSem a.tmps x).run P w = .ok z w ∧ RV g s.sh w v z := by
 cases x with
 | tmp t =>
  simp only [resOne, Option.some.injEq] at h
  exact ⟨_, rfl, opd_ok r h rfl⟩
 | cell c t =>
  simp only [resOne] at h
  obtain ⟨u, h1, h2⟩ := one'_some h
  obtain ⟨z, h3, h4⟩ := evLoad_ok (P := P) hT r.heap h2 (opd_ok r h1 rfl)
  have hp : ∃ ad, a.eval (.tmp c) = .pointer (some ad) := by
   have hv := opd_ok r h1 rfl
   unfold evLoad at h2
   split at h2
   ·skip
    generalize a.eval (.tmp c) = z at hv ⊢
    cases hv with | one _ _ q => cases q with | ptr => exact ⟨_, rfl⟩
   ·skip
    generalize a.eval (.tmp c) = z at hv ⊢
    cases hv with | one _ _ q => cases q with | eptr => exact ⟨_, rfl⟩
   ·skip
    generalize a.eval (.tmp c) = z at hv ⊢
    cases hv with | one _ _ q =>
    split at h2
    ·skip
     rename_i ho
     obtain ⟨_, _, rfl⟩ := rptr_val ho q
     exact ⟨_, rfl⟩
    ·skip
     cases h2
   ·skip
    cases h2
  obtain ⟨ad, hp⟩ := hp
  have hp' : a.tmps.getD c undef = .pointer (some ad) := hp
  refine ⟨z, ?_, h4⟩
  simp only [Instr.loadAt, hp, Instr.sureAddr, Sem.run_bind, Sem.run_pure, Result.andThen_ok] at h3
  simp only [resSem, hp', asAddr, Sem.run_bind, Sem.run_pure, Result.andThen_ok, h3]
theorem resAll_ok (hT : TabOk P T) (r : Rel E n g s a w) : ∀ (l : List ResultVar) (vs : List V), resAll T n s l = some vs →
    ∃ zs : List Value, (l.mapM (resSem a.tmps)).run P w = .ok zs w ∧ zs.length = vs.length ∧
      ∀ (i : Nat) (u : V) (v : Value), vs[i]? = some u → zs[i]? = some v → RV g s.sh w u v
  | [], vs, h => by
    obtain rfl : [] = vs := by simpa [resAll] using h
    exact ⟨[], by simp, rfl, fun i u v h => by simp at h⟩
  | x :: l, vs, h => by
    unfold resAll at h
    split at h
    · rename_i v vs' h1 h2
      obtain rfl : v :: vs' = vs := by simpa using h
      obtain ⟨z, h3, h4⟩ := resOne_ok hT r h1
      obtain ⟨zs, h5, h6, h7⟩ := resAll_ok hT r l vs' h2
      refine ⟨z :: zs, ?_, by simp [h6], fun i u v h8 h9 => ?_⟩
      · rw [List.mapM_cons]
        simp only [Sem.run_bind, h3, Result.andThen_ok, h5, Sem.run_pure]
      · cases i with
        | zero => simp at h8 h9; subst h8; subst h9; exact h4
        | succ i => exact h7 i u v (by simpa using h8) (by simpa using h9)
    · cases h
theorem results_ok (hT : TabOk P T) (r : Rel E n g s a w) {fn : Func} {vs : List V} (h : resAll T n s fn.results.toList = some vs) : ∃ z, (results fn a.tmps).run P w = .ok z w ∧ RV g s.sh w (resV vs) z := by
  obtain ⟨zs, h1, h2, h3⟩ := resAll_ok (P := P) hT r _ _ h
  rw [results_eq, Array.mapM_eq_mapM_toList]
  simp only [Sem.run_bind, Sem.run_map, h1, Result.andThen_ok, Sem.run_pure]
  refine ⟨_, rfl, ?_⟩
  by_cases hz : zs.length = 1
  · obtain ⟨z, rfl⟩ := List.length_eq_one_iff.1 hz
    obtain ⟨v, rfl⟩ := List.length_eq_one_iff.1 (by rw [← h2]; exact hz : vs.length = 1)
    simpa [resV] using h3 0 v z rfl rfl
  · rw [dif_neg (by simpa using hz)]
    have : resV vs = .tup vs := by
      unfold resV
      split
      · simp at h2; omega
      · rfl
    rw [this]
    exact .tup vs zs h2 h3
def pureR : V → Bool
 | .tup vs => pureVs vs
 | v => pureV v
theorem RV.pureR {g : Gh} {h : Sh} {w : World} (g' : Gh) (h' : Sh) (hi : g'.im = g.im) {u : V} {v : Value} (hp : pureR u = true) (hx : RV g h w u v) : RV g' h' w u v := by
 cases hx with
 | tup us vs hl hx => exact .tup us vs hl (fun i u v h1 h2 => (hx i u v h1 h2).pure g' h' hi (pureVs_get hp i u h1))
 | one c v hx => exact (RV.one c v hx).pure g' h' hi hp
 | agg cs vs hl hx => exact (RV.agg cs vs hl hx).pure g' h' hi hp
 | whenT => simp [Go.Proofs.YtpelfildfidnbaaGreatDoor.pureR, pureV] at hp
 | whenF => simp [Go.Proofs.YtpelfildfidnbaaGreatDoor.pureR, pureV] at hp
 | junk => simp [Go.Proofs.YtpelfildfidnbaaGreatDoor.pureR, pureV] at hp
def Ends (T : TypeId → Option TI) (fn : Func) (r : V) : Ex → St → Prop
 | .exit _, _ => False
 | _, s => ∃ vs, resAll T fn.ntmps s fn.results.toList = some vs ∧ Go.Proofs.YtpelfildfidnbaaGreatDoor.pureR (resV vs) = true ∧ LeV (resV vs) r
theorem argsV_get : ∀ (l : List V) (i : Nat), argsV l i = l.getD i .junk
 | [], i => by simp [argsV]
 | v :: l, 0 => rfl
 | v :: l, i + 1 => by simp only [argsV]; rw [argsV_get l i]; simp
theorem PureCall.of_body (hT : TabOk P T) {f : FuncId} {fn : Func} {c : Code} {args : List V} {r : V} (hf : P.funcs[f]? = some fn) (hname : (fn.name == "runtime.NumGoroutine") = false) (hb : fn.body = some c)
    (hn : args.length ≤ fn.ntmps) (h : ∀ E : Env J ⟨0, 0, 0⟩, W E P fn.ntmps c (Ends T fn r) ⟨argsV args, [], [], []⟩) : PureCall P J f args r := by
  refine ⟨⟨fn, hf, hname, by rw [hb]; rfl⟩, fun im w vs hJ hi hl hx => ?_⟩
  refine calls_of_wp hf hb ?_
  have hsh : (⟨argsV args, [], [], []⟩ : St).sh = noSh := rfl
  have rel : Rel (⟨w, noGh im, noSh, fun _ => False, rfl, rfl, rfl, hJ, fun _ h => h.elim⟩ : Env J ⟨0, 0, 0⟩) fn.ntmps (noGh im) ⟨argsV args, [], [], []⟩ { tmps := vs.toArray ++ Array.replicate (fn.ntmps - vs.toArray.size) undef, defers := [] } w := by
    refine ⟨BelowX.refl _ _, .refl _ _ _, hi, fun b h => .inl h, fun x hx => ?_, ?_, ?_, rfl, fun i hi' => ?_⟩
    · cases x with
      | b l => exact absurd (show l < 0 from hx) (Nat.not_lt_zero _)
      | r l => obtain ⟨o, h, _⟩ := hx; simp at h
      | m l => exact absurd (show l < 0 from hx) (Nat.not_lt_zero _)
    · have hno : ∀ x, ¬ (⟨argsV args, [], [], []⟩ : St).live x := fun x hx => by
        cases x with
        | b l => exact absurd (show l < 0 from hx) (Nat.not_lt_zero _)
        | r l => obtain ⟨o, h, _⟩ := hx; simp at h
        | m l => exact absurd (show l < 0 from hx) (Nat.not_lt_zero _)
      exact ⟨fun x hx => absurd hx (hno x), fun x hx => absurd hx (hno x), fun x y hx => absurd hx (hno x), fun l cs h => by simp at h, fun l cs h => by simp at h, fun l cs h => by simp at h⟩
    · simp [hl]; omega
    · rw [hsh]
      show RV _ _ _ (argsV args i) _
      rw [argsV_get]
      rcases Nat.lt_or_ge i args.length with h1 | h1
      · have h2 : vs[i]? = some vs[i] := List.getElem?_eq_getElem (by omega)
        have h3 : args[i]? = some args[i] := List.getElem?_eq_getElem h1
        rw [List.getD_eq_getElem?_getD, h3, Option.getD_some]
        have h4 : (vs.toArray ++ Array.replicate (fn.ntmps - vs.toArray.size) undef).getD i undef = vs[i] := by
          rw [Array.getD_eq_getD_getElem?, Array.getElem?_append_left (by simp; omega)]
          simp [h2]
        rw [h4]
        exact hx i _ _ h3 h2
      · rw [List.getD_eq_getElem?_getD, List.getElem?_eq_none h1]
        exact .junk _
  refine wp_mono (h _ (noGh im) _ w rel) ?_
  rintro _ a' w' ⟨e, s', g', rfl, hk, r'⟩
  have fin : (∃ vs, resAll T fn.ntmps s' fn.results.toList = some vs ∧ Go.Proofs.YtpelfildfidnbaaGreatDoor.pureR (resV vs) = true ∧ LeV (resV vs) r) → a'.defers = [] ∧ ∃ v, (results fn a'.tmps).run P w' = .ok v w' ∧
      ∃ v_1 im', Ending.returned v = Ending.returned v_1 ∧ Below w.heap.size w w' ∧ (∀ b, im b → im' b) ∧ (∀ b, im' b → b < w'.heap.size) ∧ (∀ b, im' b → im b ∨ w.heap.size ≤ b) ∧ RV (noGh im') noSh w' r v_1 := by
    rintro ⟨vs, h1, h2, h3⟩
    obtain ⟨z, h4, h5⟩ := results_ok (P := P) hT r' h1
    exact ⟨r'.defers, z, h4, z, g'.im, rfl, ⟨r'.below.os, r'.below.tape, r'.below.output, r'.below.size, fun k hk => r'.below.block k hk (fun h => h)⟩, r'.ext.im, r'.imlt, fun b hb => (r'.imold b hb).imp id (fun h => h.elim False.elim id), h3 _ _ _ (h5.pureR (noGh g'.im) noSh (show (noGh g'.im).im = g'.im from rfl) h2)⟩
  cases e with
  | normal => exact fin hk
  | exit id => exact hk.elim
  | ret => exact fin hk
end
end
section
open Go Go.RowKit
def forceL {α : Type} : List α → Option (List α)
 | [] => some []
 | c :: l => match forceL l with | some r => some (c :: r) | none => none
theorem forceL_eq {α : Type} : ∀ {l r : List α}, forceL l = some r → l = r
  | [], r, h => by simpa [forceL] using h
  | c :: l, r, h => by
    unfold forceL at h
    split at h
    · rename_i q hq
      rw [forceL_eq hq]; simpa using h
    · cases h
mutual
def forceV : V → Option V
  | .one c => some (.one c)
  | .agg cs => match forceL cs with | some r => some (.agg r) | none => none
  | .tup vs => match forceVs vs with | some r => some (.tup r) | none => none
  | .when b v => match forceV v with | some r => some (.when b r) | none => none
  | .junk => some .junk
def forceVs : List V → Option (List V)
  | [] => some []
  | v :: l => match forceV v, forceVs l with | some q, some r => some (q :: r) | _, _ => none
end
mutual
theorem forceV_eq : ∀ {v r : V}, forceV v = some r → v = r
  | .one c, r, h => by simpa [forceV] using h
  | .agg cs, r, h => by
    unfold forceV at h
    split at h
    · rename_i q hq; rw [forceL_eq hq]; simpa using h
    · cases h
  | .tup vs, r, h => by
    unfold forceV at h
    split at h
    · rename_i q hq; rw [forceVs_eq hq]; simpa using h
    · cases h
  | .when b v, r, h => by
    unfold forceV at h
    split at h
    · rename_i q hq; rw [forceV_eq hq]; simpa using h
    · cases h
  | .junk, r, h => by simpa [forceV] using h
theorem forceVs_eq : ∀ {v r : List V}, forceVs v = some r → v = r
  | [], r, h => by simpa [forceVs] using h
  | v :: l, r, h => by
    unfold forceVs at h
    split at h
    · rename_i q r' hq hr; rw [forceV_eq hq, forceVs_eq hr]; simpa using h
    · cases h
end
def tagsV : V → List Bool
 | .when b v => b :: tagsV v
 | _ => []
def appL {α : Type} : List α → List α → List α
 | [], l => l
 | a :: r, l => a :: appL r l
def tagsO (t : Nat → V) : List Operand → List Bool
 | [] => []
 | .tmp i :: l => appL (tagsV (t i)) (tagsO t l)
 | _ :: l => tagsO t l
def allT (c : Bool) : List Bool → Prop
 | [] => True
 | b :: l => (c = true → b = true) ∧ allT c l
theorem allT_nil {c : Bool} : allT c [] := trivial
theorem allT_cons {c b : Bool} {l : List Bool} (h : c = true → b = true) (k : allT c l) : allT c (b :: l) := ⟨h, k⟩
theorem appL_eq {α : Type} : ∀ (a l : List α), appL a l = a ++ l
 | [], _ => rfl
 | x :: r, l => by simp [appL, appL_eq r l]
theorem allT_mem {c : Bool} : ∀ {l : List Bool}, allT c l → c = true → ∀ b ∈ l, b = true
  | [], _, _, b, hb => by cases hb
  | x :: l, h, hc, b, hb => by
    rcases List.mem_cons.1 hb with rfl | hb
    · exact h.1 hc
    · exact allT_mem h.2 hc b hb
def bare (t : Nat → V) : Nat → V := fun i => (strip (t i)).2
theorem strip_tags : ∀ {v : V}, (∀ b ∈ tagsV v, b = true) → strip v = (true, (strip v).2)
  | .when b v, h => by
    have h1 := h b (List.mem_cons_self ..)
    have h2 := strip_tags (v := v) (fun b hb => h b (List.mem_cons_of_mem _ hb))
    have h3 : (strip v).1 = true := by rw [h2]
    simp [strip, h1, h3]
  | .one _, _ => rfl
  | .agg _, _ => rfl
  | .tup _, _ => rfl
  | .junk, _ => rfl
theorem strip_strip : ∀ (v : V), strip (strip v).2 = (true, (strip v).2)
 | .when b v => by simp only [strip]; exact strip_strip v
 | .one _ => rfl
 | .agg _ => rfl
 | .tup _ => rfl
 | .junk => rfl
section
variable {J : Inv} {k0 : Lens} {E : Env J k0} {P : Program} {T : TypeId → Option TI} {n : Nat} {t : Nat → V} {b : List (List C)} {r : List (Option RowO)} {m : List (List (DV × DV))}
theorem opd_bare {x : Operand} (h : ∀ c ∈ tagsO t [x], c = true) : opd n ⟨t, b, r, m⟩ x = opd n ⟨bare t, b, r, m⟩ x := by
 cases x with
 | tmp i =>
  have h1 : ∀ c ∈ tagsV (t i), c = true := fun c hc => h c (by simp [tagsO, appL_eq, hc])
  have h2 := strip_tags h1
  simp only [opd, opdV, bare, strip_strip]
  rw [h2]
 | const v => rfl
 | func f => rfl
 | global g => rfl
theorem tagsO_mem : ∀ {l : List Operand} {x : Operand}, x ∈ l → ∀ c ∈ tagsO t [x], c ∈ tagsO t l
  | [], x, h, _, _ => by cases h
  | y :: l, x, h, c, hc => by
    rcases List.mem_cons.1 h with rfl | h
    · cases x <;> simp [tagsO, appL_eq] at hc ⊢
      exact .inl hc
    · have := tagsO_mem h c hc
      cases y <;> simp [tagsO, appL_eq, this]
theorem opds_bare {l : List Operand} (h : ∀ c ∈ tagsO t l, c = true) {x : Operand} (hx : x ∈ l) : opd n ⟨t, b, r, m⟩ x = opd n ⟨bare t, b, r, m⟩ x :=
 opd_bare fun c hc => h c (tagsO_mem hx c hc)
theorem allOpd_congr {s s' : St} : ∀ (l : List (Nat × Operand)), (∀ p ∈ l, opd n s p.2 = opd n s' p.2) → allOpd n s l = allOpd n s' l
  | [], _ => rfl
  | (i, x) :: l, h => by
    simp only [allOpd, h (i, x) (List.mem_cons_self ..), allOpd_congr l (fun p hp => h p (List.mem_cons_of_mem _ hp))]
theorem allOpdL_congr {s s' : St} : ∀ (l : List Operand), (∀ p ∈ l, opd n s p = opd n s' p) → allOpdL n s l = allOpdL n s' l
  | [], _ => rfl
  | x :: l, h => by
    simp only [allOpdL, h x (List.mem_cons_self ..), allOpdL_congr l (fun p hp => h p (List.mem_cons_of_mem _ hp))]
theorem evP_bare (op : Op) (h : ∀ c ∈ tagsO t op.operands.toList, c = true) : evP T n ⟨t, b, r, m⟩ op = evP T n ⟨bare t, b, r, m⟩ op := by
 have hx : ∀ x ∈ op.operands.toList, opd n ⟨t, b, r, m⟩ x = opd n ⟨bare t, b, r, m⟩ x := fun x hx => opds_bare h hx
 cases op <;> simp only [evP]
 case move x => rw [hx x (by simp [Op.operands])]
 case assign x => rw [hx x (by simp [Op.operands])]
 case pick c x y => simp only [evPick]; rw [hx c (by simp [Op.operands]), hx x (by simp [Op.operands]), hx y (by simp [Op.operands])]
 case load t' x => simp only [one']; rw [hx x (by simp [Op.operands])]; rfl
 case nilCheck x => simp only [one']; rw [hx x (by simp [Op.operands])]; rfl
 case binOp op t' x y t'' => simp only [both]; rw [hx x (by simp [Op.operands]), hx y (by simp [Op.operands])]
 case unOp op t' x => simp only [one']; rw [hx x (by simp [Op.operands])]
 case convert p q x => simp only [one']; rw [hx x (by simp [Op.operands])]
 case slice t' x lo hi mx =>
  cases mx with
  | some _ => simp only [evP]
  | none =>
   simp only [evP]
   rw [hx x (by simp [Op.operands])]
   have hb : ∀ (d : Int) (o : Option Operand), (∀ y, o = some y → y ∈ (Op.slice t' x lo hi none).operands.toList) → bnd n ⟨t, b, r, m⟩ d o = bnd n ⟨bare t, b, r, m⟩ d o := fun d o ho => by
    cases o with
    | none => rfl
    | some y => simp only [bnd]; rw [hx y (ho y rfl)]
   rw [hb 0 lo (fun y hy => by subst hy; simp [Op.operands])]
   generalize opd n ⟨bare t, b, r, m⟩ x = p
   obtain ⟨p1, p2⟩ := p
   simp only
   cases lenOfV p2 with
   | none => rfl
   | some l => simp only; rw [hb l hi (fun y hy => by subst hy; simp [Op.operands])]
 case fieldAddr t' x f => simp only [one']; rw [hx x (by simp [Op.operands])]; rfl
 case field t' x f => simp only [one']; rw [hx x (by simp [Op.operands])]
 case indexAddr t' x i => simp only [both]; rw [hx x (by simp [Op.operands]), hx i (by simp [Op.operands])]; rfl
 case index t' x i => simp only [both]; rw [hx x (by simp [Op.operands]), hx i (by simp [Op.operands])]
 case extract x i => simp only [one']; rw [hx x (by simp [Op.operands])]
 case build t' parts =>
  rw [allOpd_congr parts.toList (fun p hp => hx p.2 (by simp only [Op.operands, List.mem_map]; exact ⟨p, hp, rfl⟩))]
 case call c =>
  obtain ⟨callee, args, ats⟩ := c
  have hargs : ∀ x ∈ args.toList, opd n ⟨t, b, r, m⟩ x = opd n ⟨bare t, b, r, m⟩ x := fun x hx' => hx x (by
   simp only [Op.operands, Call.operands]
   simp only [Array.toList_append, List.mem_append]
   exact .inr hx')
  cases callee with
  | value f => simp only [evP]
  | invoke p q => simp only [evP]
  | builtin bb =>
   cases bb <;> simp only [evP]
   case len =>
    split
    ·skip
     rename_i x t' hx' _
     simp only [one']; rw [hargs x (by rw [hx']; simp)]; rfl
    ·skip
     rfl
   case min =>
    split
    ·skip
     rename_i x y hx'
     simp only [both]; rw [hargs x (by rw [hx']; simp), hargs y (by rw [hx']; simp)]
    ·skip
     rfl
   case max =>
    split
    ·skip
     rename_i x y hx'
     simp only [both]; rw [hargs x (by rw [hx']; simp), hargs y (by rw [hx']; simp)]
    ·skip
     rfl
variable {ops : Array Oper} {l : List Oper} {K : St → Prop} {ty : TypeId} {pos : String} {after : Array Edge} {i : Nat}
theorem S.pure (hT : TabOk P T) (hZ : ZeroOk T) {op : Op} {ok : Bool} {v0 v : V} (he : evP T n ⟨t, b, r, m⟩ op = some (ok, v0)) (hok : ok = true) (hf : forceV v0 = some v)
  (k : WL E P n ops l K ⟨upd t i v, b, r, m⟩) : WL E P n ops (⟨some i, op, ty, pos, after, none⟩ :: l) K ⟨t, b, r, m⟩ := by
 obtain rfl := forceV_eq hf
 exact Step.pure (o := ⟨some i, op, ty, pos, after, none⟩) hT hZ he rfl hok k
def guardV (n : Nat) (ops : Array Oper) (t : Nat → V) (j : Nat) (want : Bool) : Option Bool :=
  match (ops[j]?).bind (·.dst) with
  | some d => match Nat.blt d n, t d, want with
      | true, .one (.d (.bool x)), true => some x
      | true, .one (.d (.bool x)), false => some (!x)
      | true, .when c (.one (.d (.bool x))), true => some (c && x)
      | true, .when c (.one (.d (.bool x))), false => some (c && !x)
      | _, _, _ => none
  | none => none
theorem guardV_B {j : Nat} {want c : Bool} (h : guardV n ops t j want = some c) : guardB n ops ⟨t, b, r, m⟩ j want = some c := by
 unfold guardV at h
 unfold guardB
 split at h
 ·skip
  rename_i d hd
  try rw [hd]
  try simp only
  split at h
  ·skip
   rename_i h1 h2; rw [if_pos h1, h2]; simpa using h
  ·skip
   rename_i h1 h2; rw [if_pos h1, h2]; simpa using h
  ·skip
   rename_i h1 h2; rw [if_pos h1, h2]; simpa using h
  ·skip
   rename_i h1 h2; rw [if_pos h1, h2]; simpa using h
  ·skip
   cases h
 ·skip
  cases h
theorem S.pureG (hT : TabOk P T) (hZ : ZeroOk T) {op : Op} {ok c : Bool} {v0 v : V} {j : Nat} {want : Bool} (hg : guardV n ops t j want = some c)
  (he : evP T n ⟨bare t, b, r, m⟩ op = some (ok, v0)) (ht : allT c (tagsO t op.operands.toList)) (hok : c = true → ok = true) (hf : forceV v0 = some v)
  (k : WL E P n ops l K ⟨upd t i (.when c v), b, r, m⟩) : WL E P n ops (⟨some i, op, ty, pos, after, some (j, want)⟩ :: l) K ⟨t, b, r, m⟩ := by
 obtain rfl := forceV_eq hf
 cases c with
 | true =>
  rw [← evP_bare op (allT_mem ht rfl)] at he
  exact Step.pureG (o := ⟨some i, op, ty, pos, after, some (j, want)⟩) hT hZ rfl (guardV_B hg) he hok k
 | false => exact Step.skip (o := ⟨some i, op, ty, pos, after, some (j, want)⟩) rfl (guardV_B hg) v0 k
theorem S.pickAnd (hT : TabOk P T) (hZ : ZeroOk T) {c a : Operand} {x y : Bool} (hc : opd n ⟨t, b, r, m⟩ c = (true, .one (.d (.bool x)))) (ha : opd n ⟨bare t, b, r, m⟩ a = (true, .one (.d (.bool y))))
  (ht : allT x (tagsO t [a])) (k : WL E P n ops l K ⟨upd t i (.one (.d (.bool (x && y)))), b, r, m⟩) :
  WL E P n ops (⟨some i, .pick c a (.const (.bool false)), ty, pos, after, none⟩ :: l) K ⟨t, b, r, m⟩ := by
 cases x with
 | true =>
  rw [Bool.true_and] at k
  rw [← opd_bare (allT_mem ht rfl)] at ha
  refine Step.pure (o := ⟨some i, .pick c a (.const (.bool false)), ty, pos, after, none⟩) (b := true) (v := .one (.d (.bool y))) hT hZ ?_ rfl rfl k
  simp only [evP, evPick, hc, ha]
  rfl
 | false =>
  obtain ⟨u, hu⟩ : ∃ u, opd n ⟨t, b, r, m⟩ a = u := ⟨_, rfl⟩
  intro g a' w rel next Q hn
  have hw : Region.wanted (⟨some i, .pick c a (.const (.bool false)), ty, pos, after, none⟩ : Oper) (yielded ops a'.tmps) = true := by simp [Region.wanted]
  rw [if_pos hw]
  have hv := opd_ok rel hc rfl
  generalize hz : a'.eval c = z at hv
  cases hv with | one _ _ q => cases q with | d _ _ q => cases q with | bool =>
  have hrun : (execOp a'.eval (⟨some i, .pick c a (.const (.bool false)), ty, pos, after, none⟩ : Oper)).run P w = .ok (.value (.bool false)) w := by
   simp only [execOp, Sem.run_bind, hz, asBool, Sem.run_pure, Result.andThen_ok]
   rfl
  unfold Oper.wp
  rw [hrun]
  rw [Bool.false_and] at k
  exact hn _ g _ _ k (rel.put_same (some i) (.one _ _ (.d _ _ (.bool _))))
theorem S.pickOr (hT : TabOk P T) (hZ : ZeroOk T) {c a : Operand} {x y : Bool} (hc : opd n ⟨t, b, r, m⟩ c = (true, .one (.d (.bool x)))) (ha : opd n ⟨bare t, b, r, m⟩ a = (true, .one (.d (.bool y))))
  (ht : allT (!x) (tagsO t [a])) (k : WL E P n ops l K ⟨upd t i (.one (.d (.bool (x || y)))), b, r, m⟩) :
  WL E P n ops (⟨some i, .pick c (.const (.bool true)) a, ty, pos, after, none⟩ :: l) K ⟨t, b, r, m⟩ := by
 cases x with
 | false =>
  rw [Bool.false_or] at k
  rw [← opd_bare (allT_mem ht rfl)] at ha
  refine Step.pure (o := ⟨some i, .pick c (.const (.bool true)) a, ty, pos, after, none⟩) (b := true) (v := .one (.d (.bool y))) hT hZ ?_ rfl rfl k
  simp only [evP, evPick, hc, ha]
  rfl
 | true =>
  intro g a' w rel next Q hn
  have hw : Region.wanted (⟨some i, .pick c (.const (.bool true)) a, ty, pos, after, none⟩ : Oper) (yielded ops a'.tmps) = true := by simp [Region.wanted]
  rw [if_pos hw]
  have hv := opd_ok rel hc rfl
  generalize hz : a'.eval c = z at hv
  cases hv with | one _ _ q => cases q with | d _ _ q => cases q with | bool =>
  have hrun : (execOp a'.eval (⟨some i, .pick c (.const (.bool true)) a, ty, pos, after, none⟩ : Oper)).run P w = .ok (.value (.bool true)) w := by
   simp only [execOp, Sem.run_bind, hz, asBool, Sem.run_pure, Result.andThen_ok]
   rfl
  unfold Oper.wp
  rw [hrun]
  rw [Bool.true_or] at k
  exact hn _ g _ _ k (rel.put_same (some i) (.one _ _ (.d _ _ (.bool _))))
theorem S.pickAndG (hT : TabOk P T) (hZ : ZeroOk T) {c a : Operand} {x y gd : Bool} {j : Nat} {want : Bool} (hg : guardV n ops t j want = some gd) (hc : opd n ⟨bare t, b, r, m⟩ c = (true, .one (.d (.bool x))))
  (ha : opd n ⟨bare t, b, r, m⟩ a = (true, .one (.d (.bool y)))) (hct : allT gd (tagsO t [c])) (ht : allT (gd && x) (tagsO t [a]))
  (k : WL E P n ops l K ⟨upd t i (.when gd (.one (.d (.bool (x && y))))), b, r, m⟩) :
  WL E P n ops (⟨some i, .pick c a (.const (.bool false)), ty, pos, after, some (j, want)⟩ :: l) K ⟨t, b, r, m⟩ := by
 cases gd with
 | false => exact Step.skip (o := ⟨some i, .pick c a (.const (.bool false)), ty, pos, after, some (j, want)⟩) rfl (guardV_B hg) _ k
 | true =>
  rw [← opd_bare (allT_mem hct rfl)] at hc
  intro g a' w rel next Q hn
  rw [guardB_ok (o := ⟨some i, .pick c a (.const (.bool false)), ty, pos, after, some (j, want)⟩) rel rfl (guardV_B hg), if_pos rfl]
  have h := S.pickAnd (E := E) (P := P) (ops := ops) (l := []) (K := fun s => s = ⟨upd t i (.one (.d (.bool (x && y)))), b, r, m⟩) (ty := ty) (pos := pos) (after := after) (i := i) hT hZ hc ha (by simpa using ht) rfl
  have h2 := h g a' w rel (fun a'' w'' => next a'' w'') Q (fun s' g' a'' w'' hs rel' => ?_)
  ·skip
   rw [if_pos (by simp [Region.wanted])] at h2; exact h2
  ·skip
   have hs : s' = ⟨upd t i (.one (.d (.bool (x && y)))), b, r, m⟩ := hs
   subst hs
   refine hn _ g' _ _ k ⟨rel'.below, rel'.ext, rel'.imlt, rel'.imold, rel'.own, ⟨rel'.heap.lt, rel'.heap.new, rel'.heap.inj, rel'.heap.box, rel'.heap.row, rel'.heap.map⟩, rel'.size, rel'.defers, fun q hq => ?_⟩
   have := rel'.tmps q hq
   by_cases hqi : i = q
   ·skip
    subst hqi
    show RV _ _ _ (upd t i _ i) _
    have h3 : RV g' _ w'' (upd t i (V.one (.d (.bool (x && y)))) i) (a''.tmps.getD i undef) := this
    rw [upd_same] at h3 ⊢
    exact .whenT _ _ h3
   ·skip
    show RV _ _ _ (upd t i _ q) _
    have h3 : RV g' _ w'' (upd t i (V.one (.d (.bool (x && y)))) q) (a''.tmps.getD q undef) := this
    rw [upd_ne _ _ hqi] at h3 ⊢
    exact h3
theorem S.alloc (hT : TabOk P T) {te : TypeId} {ti : TI} {cs cs' : List C} {b' : List (List C)} (hi : T te = some ti) (hz : zeroC ti = some cs) (hf : forceL cs = some cs') (hb : forceL (appL b [cs']) = some b')
  (k : WL E P n ops l K ⟨upd t i (.one (.ptr b.length 0)), b', r, m⟩) : WL E P n ops (⟨some i, .alloc te, ty, pos, after, none⟩ :: l) K ⟨t, b, r, m⟩ := by
 obtain rfl := forceL_eq hf
 obtain rfl := forceL_eq hb
 rw [appL_eq] at k
 exact Step.alloc (s := ⟨t, b, r, m⟩) (o := ⟨some i, .alloc te, ty, pos, after, none⟩) hT rfl rfl hi hz k
theorem S.box {te : TypeId} {x : Operand} {v : V} {cs cs' : List C} {b' : List (List C)} (hx : opd n ⟨t, b, r, m⟩ x = (true, v)) (hc : cellsOfV v = some cs) (hf : forceL cs = some cs') (hb : forceL (appL b [cs']) = some b')
  (k : WL E P n ops l K ⟨upd t i (.one (.ptr b.length 0)), b', r, m⟩) : WL E P n ops (⟨some i, .box te x, ty, pos, after, none⟩ :: l) K ⟨t, b, r, m⟩ := by
 obtain rfl := forceL_eq hf
 obtain rfl := forceL_eq hb
 rw [appL_eq] at k
 exact Step.box (s := ⟨t, b, r, m⟩) (o := ⟨some i, .box te x, ty, pos, after, none⟩) rfl rfl hx hc k
theorem S.store (hT : TabOk P T) {te : TypeId} {ti : TI} {x y : Operand} {lo off : Nat} {v : V} {cs ds cs' : List C} {b' : List (List C)} (hi : T te = some ti) (hx : opd n ⟨t, b, r, m⟩ x = (true, .one (.ptr lo off)))
  (hy : opd n ⟨t, b, r, m⟩ y = (true, v)) (hv : cellsOfV v = some ds) (hb : b[lo]? = some cs) (hs : (Nat.beq ds.length ti.size && Nat.ble (off + ds.length) cs.length) = true)
  (hf : forceL (putCells cs off ds) = some cs') (hb' : forceL (b.set lo cs') = some b')
  (k : WL E P n ops l K ⟨t, b', r, m⟩) : WL E P n ops (⟨none, .store te x y, ty, pos, after, none⟩ :: l) K ⟨t, b, r, m⟩ := by
 obtain rfl := forceL_eq hf
 obtain rfl := forceL_eq hb'
 simp only [Bool.and_eq_true] at hs
 exact Step.store (s := ⟨t, b, r, m⟩) (o := ⟨none, .store te x y, ty, pos, after, none⟩) hT rfl rfl rfl hi hx hy hv hb (Nat.eq_of_beq_eq_true hs.1) (Nat.le_of_ble_eq_true hs.2) k
theorem S.slice (hT : TabOk P T) {te : TypeId} {len sz : Nat} {parts : Array (Nat × Operand)} {us : List (Nat × V)} {xs : List (List D)} (hp : allOpd n ⟨t, b, r, m⟩ parts.toList = (true, us)) (hx : evBS T te len us = some (sz, xs))
  (k : WL E P n ops l K ⟨upd t i (.one (.d (.vec sz xs))), b, r, m⟩) : WL E P n ops (⟨some i, .buildSlice te len parts, ty, pos, after, none⟩ :: l) K ⟨t, b, r, m⟩ :=
 Step.buildSlice (s := ⟨t, b, r, m⟩) (o := ⟨some i, .buildSlice te len parts, ty, pos, after, none⟩) hT rfl rfl hp hx k
theorem S.call {fo : Operand} {args : Array Operand} {ats : Array TypeId} {u : V} {f : FuncId} {caps : List C} {us ws : List V} {rv : V} (hu : opd n ⟨t, b, r, m⟩ fo = (true, u)) (hc : calleeV u = some (f, caps))
  (ha : allOpdL n ⟨t, b, r, m⟩ args.toList = (true, us)) (hw : forceVs (appL us (caps.map V.one)) = some ws) (hp : pureVs ws = true) (pc : PureCall P J f ws rv)
  (k : WL E P n ops l K ⟨upd t i rv, b, r, m⟩) : WL E P n ops (⟨some i, .call ⟨.value fo, args, ats⟩, ty, pos, after, none⟩ :: l) K ⟨t, b, r, m⟩ := by
 obtain rfl := forceVs_eq hw
 rw [appL_eq] at hp pc
 exact Step.call (s := ⟨t, b, r, m⟩) (o := ⟨some i, .call ⟨.value fo, args, ats⟩, ty, pos, after, none⟩) pc rfl rfl hu hc ha hp k
theorem S.callG {fo : Operand} {args : Array Operand} {ats : Array TypeId} {u : V} {f : FuncId} {caps : List C} {us ws : List V} {rv : V} {j : Nat} {want c : Bool} (hg : guardV n ops t j want = some c)
  (hu : opd n ⟨bare t, b, r, m⟩ fo = (true, u)) (hc : calleeV u = some (f, caps)) (ha : allOpdL n ⟨bare t, b, r, m⟩ args.toList = (true, us)) (ht : allT c (tagsO t (fo :: args.toList)))
  (hw : forceVs (appL us (caps.map V.one)) = some ws) (hp : pureVs ws = true) (pc : c = true → PureCall P J f ws rv)
  (k : WL E P n ops l K ⟨upd t i (.when c rv), b, r, m⟩) : WL E P n ops (⟨some i, .call ⟨.value fo, args, ats⟩, ty, pos, after, some (j, want)⟩ :: l) K ⟨t, b, r, m⟩ := by
 obtain rfl := forceVs_eq hw
 rw [appL_eq] at hp pc
 cases c with
 | true =>
  have htt := allT_mem ht rfl
  have h1 := opds_bare (n := n) (b := b) (r := r) (m := m) htt (List.mem_cons_self ..)
  have h2 := allOpdL_congr (n := n) args.toList (fun p hp => opds_bare (n := n) (b := b) (r := r) (m := m) htt (List.mem_cons_of_mem _ hp))
  rw [← h1] at hu
  rw [← h2] at ha
  exact Step.callG (s := ⟨t, b, r, m⟩) (o := ⟨some i, .call ⟨.value fo, args, ats⟩, ty, pos, after, some (j, want)⟩) pc rfl rfl (guardV_B hg) hu hc ha (fun _ => rfl) hp k
 | false => exact Step.skip (o := ⟨some i, .call ⟨.value fo, args, ats⟩, ty, pos, after, some (j, want)⟩) rfl (guardV_B hg) rv k
def ofL : List (Nat × V) → Nat → V
 | [], _ => .junk
 | (k, v) :: l, j => bif Nat.beq k j then v else ofL l j
def holdsL (t : Nat → V) : List (Nat × V) → Prop
 | [] => True
 | (k, v) :: l => t k = v ∧ holdsL t l
theorem ofL_or (t : Nat → V) : ∀ (l : List (Nat × V)), holdsL t l → ∀ j, ofL l j = .junk ∨ ofL l j = t j
  | [], _, j => .inl rfl
  | (k, v) :: l, h, j => by
    unfold ofL
    cases hb : Nat.beq k j with
    | true => obtain rfl : k = j := by simpa using hb
              exact .inr h.1.symm
    | false => exact ofL_or t l h.2 j
theorem W.keep {c : Code} {K : Ex → St → Prop} (l : List (Nat × V)) (hl : holdsL t l) (h : W E P n c K ⟨ofL l, b, r, m⟩) : W E P n c K ⟨t, b, r, m⟩ :=
 h.weaken fun g a w rel => ⟨g, rel.below, rel.ext, rel.imlt, rel.imold, rel.own, ⟨rel.heap.lt, rel.heap.new, rel.heap.inj, rel.heap.box, rel.heap.row, rel.heap.map⟩, rel.size, rel.defers, fun i hi => by
  show RV _ _ _ (ofL l i) _
  rcases ofL_or t l hl i with h | h
  ·skip
   rw [h]; exact .junk _
  ·skip
   rw [h]; exact rel.tmps i hi⟩
end
theorem thenK_n {N : St → Prop} {K : Ex → St → Prop} {s : St} (h : N s) : thenK N K .normal s := h
theorem thenK_r {N : St → Prop} {K : Ex → St → Prop} {s : St} (h : K .ret s) : thenK N K .ret s := h
theorem thenK_e {N : St → Prop} {K : Ex → St → Prop} {s : St} {id : Nat} (h : K (.exit id) s) : thenK N K (.exit id) s := h
theorem blockK_n {id : Nat} {K : Ex → St → Prop} {s : St} (h : K .normal s) : blockK id K .normal s := h
theorem blockK_r {id : Nat} {K : Ex → St → Prop} {s : St} (h : K .ret s) : blockK id K .ret s := h
theorem blockK_x {id : Nat} {K : Ex → St → Prop} {s : St} (h : K .normal s) : blockK id K (.exit id) s := by simpa [blockK] using h
theorem loop_n {m : Nat} {I : Nat → St → Prop} {K : Ex → St → Prop} {s : St} (m' : Nat) (h : m' < m) (k : I m' s) : thenK (fun s' => ∃ m', m' < m ∧ I m' s') K .normal s := ⟨m', h, k⟩
def WR {J : Inv} {k0 : Lens} (E : Env J k0) (P : Program) (n : Nat) (c : Code) (K : Ex → St → Prop) : Nat → St → Prop
 | 0, _ => False
 | k + 1, s => W E P n c (thenK (WR E P n c K k) K) s
theorem WR.succ {J : Inv} {k0 : Lens} {E : Env J k0} {P : Program} {n k : Nat} {c : Code} {K : Ex → St → Prop} {s : St} (h : W E P n c (thenK (WR E P n c K k) K) s) : WR E P n c K (k + 1) s := h
theorem W.rounds {J : Inv} {k0 : Lens} {E : Env J k0} {P : Program} {n : Nat} {c : Code} {K : Ex → St → Prop} {s : St} (k : Nat) (h : WR E P n c K k s) : W E P n (.loop c) K s := by
 have key : ∀ (k : Nat) (s : St), WR E P n c K k s → ∀ g a w, Rel E n g s a w → Code.rounds P c (fun e a' w' => ∃ x s' g', e = Ex.exit' x ∧ K x s' ∧ Rel E n g' s' a' w') k a w := by
  intro k
  induction k with
  | zero => intro s h; exact h.elim
  | succ k ih =>
   intro s h g a w r
   refine wp_mono (h g a w r) ?_
   rintro _ a' w' ⟨e, s', g', rfl, hk, r'⟩
   cases e with
   | normal => exact ih s' hk g' a' w' r'
   | exit id => exact ⟨.exit id, s', g', rfl, hk, r'⟩
   | ret => exact ⟨.ret, s', g', rfl, hk, r'⟩
 exact fun g a w r => wp_loop_rounds k (key k s h g a w r)
theorem W.condT {J : Inv} {k0 : Lens} {E : Env J k0} {P : Program} {n : Nat} {K : Ex → St → Prop} {s : St} {x y : Code} {c : Operand} {b : Bool} (hc : opd n s c = (true, .one (.d (.bool b)))) (hb : b = true) (ht : W E P n x K s) : W E P n (.cond c x y) K s :=
 W.cond hc (fun _ => ht) (fun h => by rw [hb] at h; cases h)
theorem W.condF {J : Inv} {k0 : Lens} {E : Env J k0} {P : Program} {n : Nat} {K : Ex → St → Prop} {s : St} {x y : Code} {c : Operand} {b : Bool} (hc : opd n s c = (true, .one (.d (.bool b)))) (hb : b = false) (ht : W E P n y K s) : W E P n (.cond c x y) K s :=
 W.cond hc (fun h => by rw [hb] at h; cases h) (fun _ => ht)
theorem andl {a b : Bool} (h : (a && b) = true) : a = true := by cases a <;> simp_all
theorem tg {c : Bool} {l : List Bool} (h : allT c l := by repeat first | exact allT_nil | refine allT_cons (fun h => h) ?_ | refine allT_cons (fun h => andl h) ?_ | refine allT_cons (fun h => andl (andl h)) ?_ | refine allT_cons (fun _ => rfl) ?_) : allT c l := h
theorem andr {a b : Bool} (h : (a && b) = true) : b = true := by cases a <;> simp_all
theorem LeV.of_eq {a b : V} (h : a = b) : LeV a b := h ▸ LeV.refl _
theorem LeV.nil (sz : Nat) : LeV (.one (.d .nilsl)) (.one (.d (.vec sz []))) := fun im w v h => by
 cases h with | one _ _ h => cases h with | d _ _ h => cases h with | nilsl => exact .one _ _ (.d _ _ (.empty _ _ _))
theorem LeV.tup2 {a a' b b' : V} (h1 : LeV a a') (h2 : LeV b b') : LeV (.tup [a, b]) (.tup [a', b']) := fun im w v h => by
  cases h with | tup _ vs hl hx =>
  refine .tup _ _ hl (fun i u v h3 h4 => ?_)
  match i with
  | 0 => obtain rfl : a' = u := by simpa using h3
         exact h1 _ _ _ (hx 0 a v rfl h4)
  | 1 => obtain rfl : b' = u := by simpa using h3
         exact h2 _ _ _ (hx 1 b v rfl h4)
  | i + 2 => simp at h3
theorem wrap_i64 {x : Int} (h0 : -9223372036854775808 ≤ x) (h1 : x ≤ 9223372036854775807) : IntKind.i64.wrap x = x := by
 unfold IntKind.wrap IntKind.bits IntKind.signed
 simp only [Bool.true_and, decide_eq_true_eq]
 split <;> omega
theorem inc_i64 {i : Nat} (h : i ≤ 4611686018427387904) : V.one (.d (.int .i64 (IntKind.i64.wrap ((i : Int) + 1)))) = V.one (.d (.int .i64 ((i + 1 : Nat) : Int))) := by
 rw [wrap_i64 (by omega) (by omega)]; rfl
theorem idx_ok {i n : Int} (h0 : 0 ≤ i) (h1 : i < n) : (decide (0 ≤ i) && decide (i < n)) = true := by simp [h0, h1]
theorem sl_ok {l h n : Int} (h0 : 0 ≤ l) (h1 : l ≤ h) (h2 : h ≤ n) : (decide (0 ≤ l) && decide (l ≤ h) && decide (h ≤ n)) = true := by simp [h0, h1, h2]
theorem cat_ok {n : Nat} (h : n ≤ 4611686018427387904) : decide (n ≤ 4611686018427387904) = true := by simp [h]
end
section
open Go Go.RowKit
def updO (t : Nat → V) : Option Nat → V → Nat → V
 | some d, v => upd t d v
 | none, _ => t
def cls : Op → Nat
 | .load _ _ => 1
 | .lookup _ _ _ _ => 1
 | .call ⟨.value _, _, _⟩ => 1
 | .store _ _ _ | .alloc _ | .box _ _ | .mapUpdate _ _ _ _ => 2
 | _ => 0
def compat (i j : Nat) : Bool := Nat.beq i 0 || Nat.beq j 0 || (Nat.beq i 1 && Nat.beq j 1)
section
variable {J : Inv} {k0 : Lens} {E : Env J k0} {P : Program} {T : TypeId → Option TI} {n : Nat} {r : List (Option RowO)} {m : List (List (DV × DV))} {ops : Array Oper} {md : Region.Mode}
def Tr {J : Inv} {k0 : Lens} (E : Env J k0) (P : Program) (n : Nat) (ops : Array Oper) (r : List (Option RowO)) (m : List (List (DV × DV))) (o : Oper) (t : Nat → V) (b : List (List C)) (v : V) (b' : List (List C)) : Prop :=
 ∀ g a w, Rel E n g ⟨t, b, r, m⟩ a w → ∀ (next : Act → World → Prop) (Q : Exit → Act → World → Prop),
  (∀ z g' w', (∀ t1 a1, Rel E n g ⟨t1, b, r, m⟩ a1 w → Rel E n g' ⟨t1, b', r, m⟩ a1 w') → RV g' (⟨t, b', r, m⟩ : St).sh w' v z → next (a.put o.dst z) w') →
  if Region.wanted o (yielded ops a.tmps) then o.wp P a w next Q else next (a.put o.dst undef) w
def TrA {J : Inv} {k0 : Lens} (E : Env J k0) (P : Program) (n : Nat) (ops : Array Oper) (r : List (Option RowO)) (m : List (List (DV × DV))) (o : Oper) (t : Nat → V) (b : List (List C)) (v : V) (b' : List (List C)) : Prop :=
 ∀ t', (∀ i ∈ o.looksAt ops, t' i = t i) → (cls o.op = 0 → b' = b ∧ ∀ b1, Tr E P n ops r m o t' b1 v b1) ∧ (cls o.op = 1 → b' = b) ∧ Tr E P n ops r m o t' b v b'
theorem TrA.agree {o : Oper} {t t2 : Nat → V} {b b' : List (List C)} {v : V} (h : TrA E P n ops r m o t b v b') (ht : ∀ i ∈ o.looksAt ops, t2 i = t i) : TrA E P n ops r m o t2 b v b' :=
 fun t' h' => h t' (fun i hi => (h' i hi).trans (ht i hi))
theorem updO_ne {t : Nat → V} {d : Option Nat} {v : V} {i : Nat} (h : ∀ k, d = some k → k ≠ i) : updO t d v i = t i := by
 cases d with
 | none => rfl
 | some k => exact upd_ne _ _ (h k rfl)
theorem upd_comm (t : Nat → V) {i j : Nat} (v u : V) (h : i ≠ j) : upd (upd t i v) j u = upd (upd t j u) i v := by
 funext k
 by_cases hi : i = k
 ·skip
  subst hi; rw [upd_ne _ _ (Ne.symm h), upd_same, upd_same]
 ·skip
  by_cases hj : j = k
  ·skip
   subst hj; rw [upd_same, upd_ne _ _ hi, upd_same]
  ·skip
   rw [upd_ne _ _ hj, upd_ne _ _ hi, upd_ne _ _ hi, upd_ne _ _ hj]
theorem updO_comm (t : Nat → V) {x y : Option Nat} (v u : V) (h : ∀ d, x = some d → y ≠ some d) : updO (updO t x v) y u = updO (updO t y u) x v := by
  cases x with
  | none => rfl
  | some d => cases y with
    | none => rfl
    | some e => exact upd_comm t v u (fun he => h d rfl (by rw [he]))
theorem Tr.rel {o : Oper} {t : Nat → V} {b b' : List (List C)} {v : V} {g g' : Gh} {a : Act} {w w' : World} {z : Value} (rel : Rel E n g ⟨t, b, r, m⟩ a w)
  (hl : ∀ t1 a1, Rel E n g ⟨t1, b, r, m⟩ a1 w → Rel E n g' ⟨t1, b', r, m⟩ a1 w') (hv : RV g' (⟨t, b', r, m⟩ : St).sh w' v z) : Rel E n g' ⟨updO t o.dst v, b', r, m⟩ (a.put o.dst z) w' := by
 have h := (hl t a rel).put_same o.dst (u := v) (v := z) hv
 cases hd : o.dst with
 | none => rw [hd] at h; exact h
 | some d => rw [hd] at h; exact h
def qD {J : Inv} {k0 : Lens} (E : Env J k0) (P : Program) (n : Nat) (ops : Array Oper) (r : List (Option RowO)) (m : List (List (DV × DV))) (i : Nat) (K : (Nat → V) → List (List C) → Prop) (t : Nat → V) (b : List (List C)) : Prop :=
 match ops[i]? with
 | none => K t b
 | some o => ∃ v b', TrA E P n ops r m o t b v b' ∧ K (updO t o.dst v) b'
def AnyD {J : Inv} {k0 : Lens} (E : Env J k0) (P : Program) (n : Nat) (md : Region.Mode) (ops : Array Oper) (r : List (Option RowO)) (m : List (List (DV × DV))) (K : (Nat → V) → List (List C) → Prop) : Nat → Array Bool → (Nat → V) → List (List C) → Prop
  | 0, listed, t, b => Region.ready md ops listed = [] ∧ K t b
  | fuel + 1, listed, t, b => (Region.ready md ops listed = [] → K t b) ∧
    ∀ i ∈ Region.ready md ops listed, qD E P n ops r m i (AnyD E P n md ops r m K fuel (listed.setIfInBounds i true)) t b
theorem wpAny_of_AnyD {K : (Nat → V) → List (List C) → Prop} {Q : Exit → Act → World → Prop} (hQ : ∀ t b g a w, K t b → Rel E n g ⟨t, b, r, m⟩ a w → Q .normal a w) :
    ∀ (fuel : Nat) (listed : Array Bool) (t : Nat → V) (b : List (List C)) (g : Gh) (a : Act) (w : World), Rel E n g ⟨t, b, r, m⟩ a w → AnyD E P n md ops r m K fuel listed t b → wpAny P md ops Q fuel listed a w
  | 0, listed, t, b, g, a, w, rel, h => ⟨h.1, hQ _ _ _ _ _ h.2 rel⟩
  | fuel + 1, listed, t, b, g, a, w, rel, h => by
    refine ⟨fun h0 => hQ _ _ _ _ _ (h.1 h0) rel, fun i hi => ?_⟩
    have hq := h.2 i hi
    unfold qD at hq
    unfold wpOp
    split
    · rename_i ho; simp only [ho] at hq; exact wpAny_of_AnyD hQ fuel _ t b g a w rel hq
    · rename_i o ho
      simp only [ho] at hq
      obtain ⟨v, b', h1, h2⟩ := hq
      have h3 := (h1 t (fun _ _ => rfl)).2.2 g a w rel (wpAny P md ops Q fuel (listed.setIfInBounds i true)) Q (fun z g' w' hl hv => wpAny_of_AnyD hQ fuel _ _ _ g' _ _ (Tr.rel rel hl hv) h2)
      split
      · rename_i hw; rw [if_pos hw] at h3; exact .inl h3
      · rename_i hw; rw [if_neg hw] at h3; exact h3
theorem swap {oi oj : Oper} {t : Nat → V} {b bi bij : List (List C)} {vi vj : V} (hap : oi.apart ops oj = true) (hc : compat (cls oi.op) (cls oj.op) = true) (hi : TrA E P n ops r m oi t b vi bi)
    (hj : TrA E P n ops r m oj (updO t oi.dst vi) bi vj bij) : ∃ bj, TrA E P n ops r m oj t b vj bj ∧ TrA E P n ops r m oi (updO t oj.dst vj) bj vi bij := by
  obtain ⟨h1, h2, h3⟩ := Oper.apart_spec hap
  have hj' : TrA E P n ops r m oj t bi vj bij := hj.agree fun k hk => (updO_ne fun d hd he => h1 d hd (he ▸ hk)).symm
  have hi' : TrA E P n ops r m oi (updO t oj.dst vj) b vi bi := hi.agree fun k hk => updO_ne fun d hd he => h3 d hd (he ▸ hk)
  have ci := hi t (fun _ _ => rfl)
  have cj := hj' t (fun _ _ => rfl)
  unfold compat at hc
  by_cases c1 : cls oi.op = 0
  · have e1 := (ci.1 c1).1
    subst e1
    refine ⟨bij, hj', fun t' ht' => ?_⟩
    have := hi' t' ht'
    exact ⟨fun _ => ⟨rfl, (this.1 c1).2⟩, fun _ => rfl, (this.1 c1).2 bij⟩
  · by_cases c2 : cls oj.op = 0
    · have e1 := (cj.1 c2).1
      subst e1
      refine ⟨b, fun t' ht' => ?_, hi'⟩
      have := hj' t' ht'
      exact ⟨fun _ => ⟨rfl, (this.1 c2).2⟩, fun _ => rfl, (this.1 c2).2 b⟩
    · have b1 : Nat.beq (cls oi.op) 0 = false := by cases h : Nat.beq (cls oi.op) 0 <;> simp_all
      have b2 : Nat.beq (cls oj.op) 0 = false := by cases h : Nat.beq (cls oj.op) 0 <;> simp_all
      rw [b1, b2] at hc
      simp only [Bool.false_or, Bool.and_eq_true] at hc
      have d1 : cls oi.op = 1 := Nat.eq_of_beq_eq_true hc.1
      have d2 : cls oj.op = 1 := Nat.eq_of_beq_eq_true hc.2
      have e1 := ci.2.1 d1
      subst e1
      have e2 := cj.2.1 d2
      subst e2
      exact ⟨_, hj', hi'⟩
inductive DepOn (md : Region.Mode) (ops : Array Oper) : Nat → Nat → Prop where
 | direct (j i : Nat) (o : Oper) (e : Edge) (ho : ops[j]? = some o) (he : e ∈ o.after) (hb : Region.binds md e = true) (hi : e.on = i) : DepOn md ops j i
 | trans (j i : Nat) (o : Oper) (e : Edge) (ho : ops[j]? = some o) (he : e ∈ o.after) (hb : Region.binds md e = true) (h : DepOn md ops e.on i) : DepOn md ops j i
def Closed (md : Region.Mode) (ops : Array Oper) (listed : Array Bool) : Prop :=
 ∀ (j : Nat) (o : Oper) (e : Edge), ops[j]? = some o → listed.getD j false = true → e ∈ o.after → Region.binds md e = true → listed.getD e.on false = true
theorem dep_listed {listed : Array Bool} (hc : Closed md ops listed) {j i : Nat} (h : DepOn md ops j i) : listed.getD j false = true → listed.getD i false = true := by
 induction h with
 | direct j i o e ho he hb hi => intro hl; rw [← hi]; exact hc j o e ho hl he hb
 | trans j i o e ho he hb h ih => intro hl; exact ih (hc j o e ho hl he hb)
theorem dep_ready {listed : Array Bool} (hc : Closed md ops listed) {j i : Nat} (h : DepOn md ops j i) (hr : j ∈ Region.ready md ops listed) : listed.getD i false = true := by
 obtain ⟨_, o', ho', hall⟩ := mem_ready.1 hr
 cases h with
 | direct j i o e ho he hb hi =>
  rw [ho] at ho'; cases ho'
  rw [← hi]; exact hall e he hb
 | trans j i o e ho he hb h =>
  rw [ho] at ho'; cases ho'
  exact dep_listed hc h (hall e he hb)
theorem getD_set_eq {l : Array Bool} {i : Nat} (h : i < l.size) (d : Bool) : (l.setIfInBounds i true).getD i d = true := by
 simp [Array.getD_eq_getD_getElem?, Array.getElem?_setIfInBounds, h]
theorem closed_set {listed : Array Bool} (hc : Closed md ops listed) {i : Nat} (hr : i ∈ Region.ready md ops listed) : Closed md ops (listed.setIfInBounds i true) := by
 intro j o e ho hl he hb
 obtain ⟨hun, oi, hoi, hall⟩ := mem_ready.1 hr
 have key : listed.getD e.on false = true := by
  by_cases hji : i = j
  ·skip
   subst hji; rw [hoi] at ho; cases ho; exact hall e he hb
  ·skip
   rw [getD_set_ne false hji] at hl; exact hc j o e ho hl he hb
 by_cases hei : i = e.on
 ·skip
  subst hei
  have hlt : e.on < listed.size := by
   rcases Nat.lt_or_ge e.on listed.size with h | h
   ·skip
    exact h
   ·skip
    simp [Array.getD_eq_getD_getElem?, Array.getElem?_eq_none h] at key
  exact getD_set_eq hlt false
 ·skip
  rw [getD_set_ne false hei]; exact key
theorem anyD_first {K : (Nat → V) → List (List C) → Prop} {i : Nat} {oi : Oper} {vi : V} {bi : List (List C)} (hi : ops[i]? = some oi) :
  ∀ (fuel : Nat) (listed : Array Bool) (t : Nat → V) (b : List (List C)) (bi : List (List C)), Closed md ops listed →
   (∀ j oj, ops[j]? = some oj → j ≠ i → listed.getD j true = false → DepOn md ops j i ∨ (oi.apart ops oj = true ∧ compat (cls oi.op) (cls oj.op) = true)) →
   i ∈ Region.ready md ops listed → TrA E P n ops r m oi t b vi bi →
   AnyD E P n md ops r m K fuel (listed.setIfInBounds i true) (updO t oi.dst vi) bi → AnyD E P n md ops r m K (fuel + 1) listed t b := by
 intro fuel
 induction fuel with
 | zero =>
  intro listed t b bi hcl hfree hr hy H
  refine ⟨fun h => (by rw [h] at hr; cases hr), fun j hj => ?_⟩
  by_cases hji : j = i
  ·skip
   subst hji; unfold qD; simp only [hi]; exact ⟨vi, bi, hy, H⟩
  ·skip
   have := ready_mono hj hji
   rw [H.1] at this
   cases this
 | succ fuel ih =>
  intro listed t b bi hcl hfree hr hy H
  refine ⟨fun h => (by rw [h] at hr; cases hr), fun j hj => ?_⟩
  by_cases hji : j = i
  ·skip
   subst hji; unfold qD; simp only [hi]; exact ⟨vi, bi, hy, H⟩
  ·skip
   have h1 := H.2 j (ready_mono hj hji)
   obtain ⟨hjun, oj, hoj, hall⟩ := mem_ready.1 hj
   have hiun := (mem_ready.1 hr).1
   have hnd : ¬ DepOn md ops j i := fun hd => by
    have h2 := dep_ready hcl hd hj
    rcases Nat.lt_or_ge i listed.size with h' | h'
    ·skip
     simp [h'] at hiun h2; rw [hiun] at h2; cases h2
    ·skip
     simp [Array.getD_eq_getD_getElem?, Array.getElem?_eq_none h'] at h2
   obtain ⟨hap, hco⟩ := (hfree j oj hoj hji hjun).resolve_left hnd
   unfold qD at h1 ⊢
   simp only [hoj] at h1 ⊢
   obtain ⟨vj, bij, hyj, hK⟩ := h1
   obtain ⟨bj, k1, k2⟩ := swap hap hco hy hyj
   refine ⟨vj, bj, k1, ih (listed.setIfInBounds j true) _ bj bij (closed_set hcl hj) (fun k ok hk hki hun => hfree k ok hk hki ?_) (ready_mono hr (Ne.symm hji)) k2 ?_⟩
   ·skip
    by_cases hjk : j = k
    ·skip
     subst hjk; exact hjun
    ·skip
     rwa [getD_set_ne true hjk] at hun
   ·skip
    rw [Array.setIfInBounds_comm _ _ hji, ← updO_comm _ _ _ (Oper.apart_spec hap).2.1]
    exact hK
def WD {J : Inv} {k0 : Lens} (E : Env J k0) (P : Program) (n : Nat) (ops : Array Oper) : List Oper → (St → Prop) → St → Prop
 | [], K, s => K s
 | o :: l, K, s => ∃ v b', TrA E P n ops s.r s.m o s.t s.b v b' ∧ WD E P n ops l K ⟨updO s.t o.dst v, b', s.r, s.m⟩
def depB (md : Region.Mode) (ops : Array Oper) : Nat → Nat → Nat → Bool
  | 0, _, _ => false
  | f + 1, j, i => match ops[j]? with
    | some o => o.after.any fun e => Region.binds md e && (Nat.beq e.on i || depB md ops f e.on i)
    | none => false
theorem depB_dep : ∀ (f j i : Nat), depB md ops f j i = true → DepOn md ops j i
  | 0, j, i, h => by simp [depB] at h
  | f + 1, j, i, h => by
    unfold depB at h
    split at h
    · rename_i o ho
      obtain ⟨e, he, h2⟩ := Array.any_eq_true'.1 h
      simp only [Bool.and_eq_true, Bool.or_eq_true] at h2
      rcases h2.2 with h3 | h3
      · exact .direct j i o e ho he h2.1 (Nat.eq_of_beq_eq_true h3)
      · exact .trans j i o e ho he h2.1 (depB_dep f _ _ h3)
    · cases h
def freeD (md : Region.Mode) (ops : Array Oper) (listed : Array Bool) (i : Nat) : Bool :=
  match ops[i]? with
  | some oi => (List.range ops.size).all fun j => match ops[j]? with
    | some oj => Nat.beq j i || listed.getD j true || depB md ops ops.size j i || (oi.apart ops oj && compat (cls oi.op) (cls oj.op))
    | none => true
  | none => false
def lexD (md : Region.Mode) (ops : Array Oper) : Nat → Nat → Array Bool → Bool
 | 0, _, listed => (Region.ready md ops listed).isEmpty
 | f + 1, k, listed => (Region.ready md ops listed).contains k && freeD md ops listed k && lexD md ops f (k + 1) (listed.setIfInBounds k true)
def lexOk (ops : Array Oper) : Bool := lexD .any ops ops.size 0 (Array.replicate ops.size false)
theorem freeD_spec {listed : Array Bool} {i : Nat} {oi : Oper} (hi : ops[i]? = some oi) (h : freeD md ops listed i = true) :
  ∀ j oj, ops[j]? = some oj → j ≠ i → listed.getD j true = false → DepOn md ops j i ∨ (oi.apart ops oj = true ∧ compat (cls oi.op) (cls oj.op) = true) := by
 intro j oj hj hji hun
 unfold freeD at h
 simp only [hi, List.all_eq_true, List.mem_range] at h
 have := h j (Array.getElem?_eq_some_iff.1 hj).1
 simp only [hj, hun, Bool.or_false, Bool.or_eq_true, Bool.and_eq_true] at this
 rcases this with (h1 | h1) | h1
 ·skip
  exact absurd (Nat.eq_of_beq_eq_true h1) hji
 ·skip
  exact .inl (depB_dep _ _ _ h1)
 ·skip
  exact .inr h1
theorem anyD_lex {K : (Nat → V) → List (List C) → Prop} : ∀ (l : List Oper) (k : Nat) (listed : Array Bool) (t : Nat → V) (b : List (List C)), (∀ j, l[j]? = ops[k + j]?) → Closed md ops listed →
    lexD md ops l.length k listed = true → WD E P n ops l (fun s => K s.t s.b) ⟨t, b, r, m⟩ → AnyD E P n md ops r m K l.length listed t b
  | [], k, listed, t, b, hl, hc, hB, h => ⟨by simpa [lexD] using hB, h⟩
  | o :: l, k, listed, t, b, hl, hc, hB, h => by
    have h0 : ops[k]? = some o := by simpa using (hl 0).symm
    simp only [List.length_cons, lexD, Bool.and_eq_true] at hB
    obtain ⟨⟨hr, hf⟩, hB'⟩ := hB
    obtain ⟨v, b', hy, hK⟩ := h
    have hr' : k ∈ Region.ready md ops listed := by simpa using hr
    exact anyD_first (bi := b') h0 l.length listed t b b' hc (freeD_spec h0 hf) hr' hy
      (anyD_lex l (k + 1) _ _ _ (fun j => by have := hl (j + 1); simpa [Nat.add_assoc, Nat.add_comm 1 j] using this) (closed_set hc hr') hB' hK)
theorem W.regionD {id : Nat} {l : List Oper} {K : Ex → St → Prop} {s : St} (hm : P.follows .mixedOrders = true) (hB : lexOk l.toArray = true) (h : WD E P n l.toArray l (K .normal) s) : W E P n (.region id l.toArray true) K s := by
 intro g a w rel
 refine wp_region_any hm ?_
 have rel' := rel.drew (w.drawn + 1)
 obtain ⟨t, b, r, m⟩ := s
 refine wpAny_of_AnyD (r := r) (m := m) (K := fun t b => K .normal ⟨t, b, r, m⟩) (fun t b g a w hk rel => ⟨.normal, _, g, rfl, hk, rel⟩) _ _ t b g a _ rel' ?_
 have hc : Closed .any l.toArray (Array.replicate l.toArray.size false) := fun j o e ho hl _ _ => by
  simp [Array.getD_eq_getD_getElem?, Array.getElem?_replicate] at hl
  split at hl <;> simp_all
 have hK : ∀ (l' : List Oper) (t : Nat → V) (b : List (List C)), WD E P n l.toArray l' (K .normal) ⟨t, b, r, m⟩ → WD E P n l.toArray l' (fun s => K .normal ⟨s.t, s.b, r, m⟩) ⟨t, b, r, m⟩ := by
  intro l'
  induction l' with
  | nil => intro t b h; exact h
  | cons o l' ih => intro t b ⟨v, b', h1, h2⟩; exact ⟨v, b', h1, ih _ _ h2⟩
 have := anyD_lex (md := .any) (ops := l.toArray) (r := r) (m := m) (K := fun t b => K .normal ⟨t, b, r, m⟩) l 0 (Array.replicate l.toArray.size false) t b (by simp) hc (by simpa [lexOk] using hB) (hK l t b h)
 simpa using this
end
end
section
open Go Go.RowKit
section
variable {J : Inv} {k0 : Lens} {E : Env J k0} {P : Program} {T : TypeId → Option TI} {n : Nat} {t : Nat → V} {b : List (List C)} {r : List (Option RowO)} {m : List (List (DV × DV))} {ops : Array Oper}
def Pv {J : Inv} {k0 : Lens} (E : Env J k0) (P : Program) (n : Nat) (o : Oper) (v : V) (s : St) : Prop :=
 ∀ g a w, Rel E n g s a w → ∃ z, (execOp a.eval o).run P w = .ok (.value z) w ∧ RV g s.sh w v z
def RunV {J : Inv} {k0 : Lens} (E : Env J k0) (P : Program) (n : Nat) (o : Oper) (t : Nat → V) (b : List (List C)) (r : List (Option RowO)) (m : List (List (DV × DV))) (v : V) (b' : List (List C)) : Prop :=
 ∀ g a w, Rel E n g ⟨t, b, r, m⟩ a w → ∀ (next : Act → World → Prop) (Q : Exit → Act → World → Prop),
  (∀ z g' w', (∀ t1 a1, Rel E n g ⟨t1, b, r, m⟩ a1 w → Rel E n g' ⟨t1, b', r, m⟩ a1 w') → RV g' (⟨t, b', r, m⟩ : St).sh w' v z → next (a.put o.dst z) w') → o.wp P a w next Q
theorem RunV.of_pv {o : Oper} {v : V} (h : Pv E P n o v ⟨t, b, r, m⟩) : RunV E P n o t b r m v b := by
 intro g a w rel next Q hn
 obtain ⟨z, h1, h2⟩ := h g a w rel
 unfold Oper.wp
 rw [h1]
 exact hn z g w (fun t1 a1 h => h) h2
theorem Tr.of_run {o : Oper} {v : V} {b' : List (List C)} (hg : o.guard = none) (h : RunV E P n o t b r m v b') : Tr E P n ops r m o t b v b' := by
 intro g a w rel next Q hn
 rw [if_pos (by simp [Region.wanted, hg])]
 exact h g a w rel next Q hn
theorem Tr.of_runG {o : Oper} {v : V} {j : Nat} {want c : Bool} (hg : o.guard = some (j, want)) (hc : guardV n ops t j want = some c) (h : c = true → RunV E P n o t b r m v b) : Tr E P n ops r m o t b (.when c v) b := by
 intro g a w rel next Q hn
 rw [guardB_ok rel hg (guardV_B hc)]
 cases c with
 | true => rw [if_pos rfl]; exact h rfl g a w rel next Q (fun z g' w' h1 h2 => hn z g' w' h1 (.whenT _ _ h2))
 | false => rw [if_neg (by simp)]; exact hn undef g w (fun t1 a1 h => h) (.whenF _)
theorem looks_opd {o : Oper} {x : Operand} (hx : x ∈ o.op.operands.toList) {t' : Nat → V} (h : ∀ i ∈ o.looksAt ops, t' i = t i) {b1 : List (List C)} : opd n ⟨t', b1, r, m⟩ x = opd n ⟨t, b, r, m⟩ x := by
 cases x with
 | tmp i =>
  have : t' i = t i := h i (by
   unfold Oper.looksAt
   exact List.mem_append.2 (.inl (List.mem_filterMap.2 ⟨.tmp i, hx, rfl⟩)))
  simp only [opd, opdV, this]
 | _ => rfl
theorem looks_guard {o : Oper} {j : Nat} {want : Bool} (hg : o.guard = some (j, want)) {t' : Nat → V} (h : ∀ i ∈ o.looksAt ops, t' i = t i) : guardV n ops t' j want = guardV n ops t j want := by
 unfold guardV
 cases hd : (ops[j]?).bind (·.dst) with
 | none => rfl
 | some d =>
  have : t' d = t d := h d (by
   unfold Oper.looksAt
   refine List.mem_append.2 (.inr ?_)
   rw [hg]
   simp only [hd, Option.toList_some, List.mem_singleton])
  simp only [this]
theorem tags_looks {o : Oper} {t' : Nat → V} (h : ∀ i ∈ o.looksAt ops, t' i = t i) : ∀ (l : List Operand), (∀ x ∈ l, x ∈ o.op.operands.toList) → tagsO t' l = tagsO t l
  | [], _ => rfl
  | x :: l, hl => by
    have ih := tags_looks h l (fun y hy => hl y (List.mem_cons_of_mem _ hy))
    cases x with
    | tmp i =>
      have : t' i = t i := h i (by
        unfold Oper.looksAt
        exact List.mem_append.2 (.inl (List.mem_filterMap.2 ⟨.tmp i, hl _ (List.mem_cons_self ..), rfl⟩)))
      simp only [tagsO, this, ih]
    | const _ => simp only [tagsO, ih]
    | func _ => simp only [tagsO, ih]
    | global _ => simp only [tagsO, ih]
theorem bare_looks {o : Oper} {t' : Nat → V} (h : ∀ i ∈ o.looksAt ops, t' i = t i) : ∀ i ∈ o.looksAt ops, bare t' i = bare t i := fun i hi => by simp only [bare, h i hi]
theorem evP_congr (op : Op) {s s' : St} (hr : s.r = s'.r) (hb : cls op = 0 ∨ s.b = s'.b) (hx : ∀ x ∈ op.operands.toList, opd n s x = opd n s' x) : evP T n s op = evP T n s' op := by
 have hra : rowAt s = rowAt s' := by funext r ver; unfold rowAt; rw [hr]
 cases op <;> simp only [evP]
 case move x => rw [hx x (by simp [Op.operands])]
 case assign x => rw [hx x (by simp [Op.operands])]
 case pick c x y => simp only [evPick]; rw [hx c (by simp [Op.operands]), hx x (by simp [Op.operands]), hx y (by simp [Op.operands])]
 case load t' x =>
  have hb : s.b = s'.b := hb.resolve_left (by simp [cls])
  simp only [one']; rw [hx x (by simp [Op.operands])]
  unfold evLoad; rw [hb, hra]
 case nilCheck x => simp only [one']; rw [hx x (by simp [Op.operands])]; unfold evNil; rw [hra]
 case binOp op t' x y t'' => simp only [both]; rw [hx x (by simp [Op.operands]), hx y (by simp [Op.operands])]
 case unOp op t' x => simp only [one']; rw [hx x (by simp [Op.operands])]
 case convert p q x => simp only [one']; rw [hx x (by simp [Op.operands])]
 case slice t' x lo hi mx =>
  cases mx with
  | some _ => simp only [evP]
  | none =>
   simp only [evP]
   rw [hx x (by simp [Op.operands])]
   have hb : ∀ (d : Int) (o : Option Operand), (∀ y, o = some y → y ∈ (Op.slice t' x lo hi none).operands.toList) → bnd n s d o = bnd n s' d o := fun d o ho => by
    cases o with
    | none => rfl
    | some y => simp only [bnd]; rw [hx y (ho y rfl)]
   rw [hb 0 lo (fun y hy => by subst hy; simp [Op.operands])]
   generalize opd n s' x = p
   obtain ⟨p1, p2⟩ := p
   simp only
   cases lenOfV p2 with
   | none => rfl
   | some l => simp only; rw [hb l hi (fun y hy => by subst hy; simp [Op.operands])]
 case fieldAddr t' x f => simp only [one']; rw [hx x (by simp [Op.operands])]; unfold evFieldAddr; rw [hra]
 case field t' x f => simp only [one']; rw [hx x (by simp [Op.operands])]
 case indexAddr t' x i => simp only [both]; rw [hx x (by simp [Op.operands]), hx i (by simp [Op.operands])]; unfold evIndexAddr; rw [hra]
 case index t' x i => simp only [both]; rw [hx x (by simp [Op.operands]), hx i (by simp [Op.operands])]
 case extract x i => simp only [one']; rw [hx x (by simp [Op.operands])]
 case build t' parts =>
  rw [allOpd_congr parts.toList (fun p hp => hx p.2 (by simp only [Op.operands, List.mem_map]; exact ⟨p, hp, rfl⟩))]
 case call c =>
  obtain ⟨callee, args, ats⟩ := c
  have hargs : ∀ x ∈ args.toList, opd n s x = opd n s' x := fun x hx' => hx x (by
   simp only [Op.operands, Call.operands]
   simp only [Array.toList_append, List.mem_append]
   exact .inr hx')
  cases callee with
  | value f => simp only [evP]
  | invoke p q => simp only [evP]
  | builtin bb =>
   cases bb <;> simp only [evP]
   case len =>
    split
    ·skip
     rename_i x t' hx' _
     simp only [one']; rw [hargs x (by rw [hx']; simp)]; unfold evLen; rw [hra]
    ·skip
     rfl
   case min =>
    split
    ·skip
     rename_i x y hx'
     simp only [both]; rw [hargs x (by rw [hx']; simp), hargs y (by rw [hx']; simp)]
    ·skip
     rfl
   case max =>
    split
    ·skip
     rename_i x y hx'
     simp only [both]; rw [hargs x (by rw [hx']; simp), hargs y (by rw [hx']; simp)]
    ·skip
     rfl
theorem TrA.of {o : Oper} {v : V} (hc : cls o.op = 0 ∨ cls o.op = 1) (h : ∀ t' b1, (∀ i ∈ o.looksAt ops, t' i = t i) → (cls o.op = 0 ∨ b1 = b) → Tr E P n ops r m o t' b1 v b1) : TrA E P n ops r m o t b v b :=
 fun t' ht => ⟨fun h0 => ⟨rfl, fun b1 => h t' b1 ht (.inl h0)⟩, fun _ => rfl, h t' b ht (.inr rfl)⟩
variable {l : List Oper} {K : St → Prop} {ty : TypeId} {pos : String} {after : Array Edge} {i : Nat}
theorem pv_pure (hT : TabOk P T) (hZ : ZeroOk T) {o : Oper} {v : V} {s : St} (he : evP T n s o.op = some (true, v)) : Pv E P n o v s := fun g a w rel => evP_ok hT hZ rel he
theorem D.pure (hT : TabOk P T) (hZ : ZeroOk T) {op : Op} {ok : Bool} {v0 v : V} (hcl : Nat.blt (cls op) 2 = true) (he : evP T n ⟨t, b, r, m⟩ op = some (ok, v0)) (hok : ok = true) (hf : forceV v0 = some v)
  (k : WD E P n ops l K ⟨upd t i v, b, r, m⟩) : WD E P n ops (⟨some i, op, ty, pos, after, none⟩ :: l) K ⟨t, b, r, m⟩ := by
 obtain rfl := forceV_eq hf
 subst hok
 have hlt : cls op < 2 := by simpa [Nat.blt_eq] using hcl
 refine ⟨v0, b, .of (show cls op = 0 ∨ cls op = 1 by omega) (fun t' b1 ht hb => .of_run rfl (.of_pv (pv_pure hT hZ (o := ⟨some i, op, ty, pos, after, none⟩) ?_))), k⟩
 rw [← he]
 exact evP_congr op rfl hb (fun x hx => looks_opd (o := ⟨some i, op, ty, pos, after, none⟩) (b := b) hx ht)
theorem D.pureG (hT : TabOk P T) (hZ : ZeroOk T) {op : Op} {ok c : Bool} {v0 v : V} {j : Nat} {want : Bool} (hcl : Nat.blt (cls op) 2 = true) (hg : guardV n ops t j want = some c)
  (he : evP T n ⟨bare t, b, r, m⟩ op = some (ok, v0)) (htg : allT c (tagsO t op.operands.toList)) (hok : c = true → ok = true) (hf : forceV v0 = some v)
  (k : WD E P n ops l K ⟨upd t i (.when c v), b, r, m⟩) : WD E P n ops (⟨some i, op, ty, pos, after, some (j, want)⟩ :: l) K ⟨t, b, r, m⟩ := by
 obtain rfl := forceV_eq hf
 have hlt : cls op < 2 := by simpa [Nat.blt_eq] using hcl
 refine ⟨.when c v0, b, .of (show cls op = 0 ∨ cls op = 1 by omega) (fun t' b1 ht hb => .of_runG (o := ⟨some i, op, ty, pos, after, some (j, want)⟩) rfl ((looks_guard (o := ⟨some i, op, ty, pos, after, some (j, want)⟩) rfl ht).trans hg) (fun hc => .of_pv (pv_pure hT hZ ?_))), k⟩
 have h1 := allT_mem htg hc
 rw [← tags_looks (o := ⟨some i, op, ty, pos, after, some (j, want)⟩) ht op.operands.toList (fun x hx => hx)] at h1
 rw [← hok hc, ← he]
 refine (evP_bare op h1).trans ?_
 exact evP_congr op rfl hb (fun x hx => looks_opd (o := ⟨some i, op, ty, pos, after, some (j, want)⟩) (b := b) hx (bare_looks ht))
theorem pv_and {c a : Operand} {x y : Bool} {o : Oper} (ho : o.op = .pick c a (.const (.bool false))) (hc : opd n ⟨t, b, r, m⟩ c = (true, .one (.d (.bool x)))) (ha : opd n ⟨bare t, b, r, m⟩ a = (true, .one (.d (.bool y))))
  (ht : allT x (tagsO t [a])) : Pv E P n o (.one (.d (.bool (x && y)))) ⟨t, b, r, m⟩ := by
 intro g a' w rel
 have hv := opd_ok rel hc rfl
 generalize hz : a'.eval c = z at hv
 cases hv with | one _ _ q => cases q with | d _ _ q => cases q with | bool =>
 cases x with
 | true =>
  rw [← opd_bare (allT_mem ht rfl)] at ha
  have hv2 := opd_ok rel ha rfl
  refine ⟨a'.eval a, ?_, by simpa using hv2⟩
  simp only [execOp, ho, Sem.run_bind, hz, asBool, Sem.run_pure, Result.andThen_ok]
  rfl
 | false =>
  refine ⟨.bool false, ?_, .one _ _ (.d _ _ (.bool _))⟩
  simp only [execOp, ho, Sem.run_bind, hz, asBool, Sem.run_pure, Result.andThen_ok]
  rfl
theorem pv_or {c a : Operand} {x y : Bool} {o : Oper} (ho : o.op = .pick c (.const (.bool true)) a) (hc : opd n ⟨t, b, r, m⟩ c = (true, .one (.d (.bool x)))) (ha : opd n ⟨bare t, b, r, m⟩ a = (true, .one (.d (.bool y))))
  (ht : allT (!x) (tagsO t [a])) : Pv E P n o (.one (.d (.bool (x || y)))) ⟨t, b, r, m⟩ := by
 intro g a' w rel
 have hv := opd_ok rel hc rfl
 generalize hz : a'.eval c = z at hv
 cases hv with | one _ _ q => cases q with | d _ _ q => cases q with | bool =>
 cases x with
 | false =>
  rw [← opd_bare (allT_mem ht rfl)] at ha
  have hv2 := opd_ok rel ha rfl
  refine ⟨a'.eval a, ?_, by simpa using hv2⟩
  simp only [execOp, ho, Sem.run_bind, hz, asBool, Sem.run_pure, Result.andThen_ok]
  rfl
 | true =>
  refine ⟨.bool true, ?_, .one _ _ (.d _ _ (.bool _))⟩
  simp only [execOp, ho, Sem.run_bind, hz, asBool, Sem.run_pure, Result.andThen_ok]
  rfl
theorem D.pickAnd (hT : TabOk P T) (hZ : ZeroOk T) {c a : Operand} {x y : Bool} (hc : opd n ⟨t, b, r, m⟩ c = (true, .one (.d (.bool x)))) (ha : opd n ⟨bare t, b, r, m⟩ a = (true, .one (.d (.bool y))))
  (htg : allT x (tagsO t [a])) (k : WD E P n ops l K ⟨upd t i (.one (.d (.bool (x && y)))), b, r, m⟩) :
  WD E P n ops (⟨some i, .pick c a (.const (.bool false)), ty, pos, after, none⟩ :: l) K ⟨t, b, r, m⟩ := by
 obtain ⟨o, ho⟩ : ∃ o : Oper, o = ⟨some i, .pick c a (.const (.bool false)), ty, pos, after, none⟩ := ⟨_, rfl⟩
 rw [← ho]
 have hop : o.op = .pick c a (.const (.bool false)) := by rw [ho]
 have m1 : c ∈ o.op.operands.toList := by rw [hop]; simp [Op.operands]
 have m2 : a ∈ o.op.operands.toList := by rw [hop]; simp [Op.operands]
 refine ⟨.one (.d (.bool (x && y))), b, .of (.inl (by rw [hop]; rfl)) (fun t' b1 ht hb => .of_run (by rw [ho]) (.of_pv (pv_and hop ?_ ?_ ?_))), by rw [ho]; exact k⟩
 ·skip
  rw [looks_opd (b := b) m1 ht]; exact hc
 ·skip
  rw [looks_opd (b := b) m2 (bare_looks ht)]; exact ha
 ·skip
  rw [tags_looks ht [a] (fun q hq => by simp at hq; subst hq; exact m2)]; exact htg
theorem D.pickOr (hT : TabOk P T) (hZ : ZeroOk T) {c a : Operand} {x y : Bool} (hc : opd n ⟨t, b, r, m⟩ c = (true, .one (.d (.bool x)))) (ha : opd n ⟨bare t, b, r, m⟩ a = (true, .one (.d (.bool y))))
  (htg : allT (!x) (tagsO t [a])) (k : WD E P n ops l K ⟨upd t i (.one (.d (.bool (x || y)))), b, r, m⟩) :
  WD E P n ops (⟨some i, .pick c (.const (.bool true)) a, ty, pos, after, none⟩ :: l) K ⟨t, b, r, m⟩ := by
 obtain ⟨o, ho⟩ : ∃ o : Oper, o = ⟨some i, .pick c (.const (.bool true)) a, ty, pos, after, none⟩ := ⟨_, rfl⟩
 rw [← ho]
 have hop : o.op = .pick c (.const (.bool true)) a := by rw [ho]
 have m1 : c ∈ o.op.operands.toList := by rw [hop]; simp [Op.operands]
 have m2 : a ∈ o.op.operands.toList := by rw [hop]; simp [Op.operands]
 refine ⟨.one (.d (.bool (x || y))), b, .of (.inl (by rw [hop]; rfl)) (fun t' b1 ht hb => .of_run (by rw [ho]) (.of_pv (pv_or hop ?_ ?_ ?_))), by rw [ho]; exact k⟩
 ·skip
  rw [looks_opd (b := b) m1 ht]; exact hc
 ·skip
  rw [looks_opd (b := b) m2 (bare_looks ht)]; exact ha
 ·skip
  rw [tags_looks ht [a] (fun q hq => by simp at hq; subst hq; exact m2)]; exact htg
theorem D.pickOrG (hT : TabOk P T) (hZ : ZeroOk T) {c a : Operand} {x y gd : Bool} {j : Nat} {want : Bool} (hg : guardV n ops t j want = some gd) (hc : opd n ⟨bare t, b, r, m⟩ c = (true, .one (.d (.bool x))))
  (ha : opd n ⟨bare t, b, r, m⟩ a = (true, .one (.d (.bool y)))) (hct : allT gd (tagsO t [c])) (htg : allT (gd && !x) (tagsO t [a]))
  (k : WD E P n ops l K ⟨upd t i (.when gd (.one (.d (.bool (x || y))))), b, r, m⟩) :
  WD E P n ops (⟨some i, .pick c (.const (.bool true)) a, ty, pos, after, some (j, want)⟩ :: l) K ⟨t, b, r, m⟩ := by
 obtain ⟨o, ho⟩ : ∃ o : Oper, o = ⟨some i, .pick c (.const (.bool true)) a, ty, pos, after, some (j, want)⟩ := ⟨_, rfl⟩
 rw [← ho]
 have hop : o.op = .pick c (.const (.bool true)) a := by rw [ho]
 have hgo : o.guard = some (j, want) := by rw [ho]
 have m1 : c ∈ o.op.operands.toList := by rw [hop]; simp [Op.operands]
 have m2 : a ∈ o.op.operands.toList := by rw [hop]; simp [Op.operands]
 refine ⟨.when gd (.one (.d (.bool (x || y)))), b, .of (.inl (by rw [hop]; rfl)) (fun t' b1 ht hb => .of_runG hgo ((looks_guard hgo ht).trans hg) (fun hgd => .of_pv (pv_or hop ?_ ?_ ?_))), by rw [ho]; exact k⟩
 ·skip
  have h1 := allT_mem hct hgd
  rw [← tags_looks ht [c] (fun q hq => by simp at hq; subst hq; exact m1)] at h1
  rw [opd_bare h1, looks_opd (b := b) m1 (bare_looks ht)]; exact hc
 ·skip
  rw [looks_opd (b := b) m2 (bare_looks ht)]; exact ha
 ·skip
  rw [tags_looks ht [a] (fun q hq => by simp at hq; subst hq; exact m2)]; simpa [hgd] using htg
theorem run_call {o : Oper} {fo : Operand} {args : Array Operand} {ats : Array TypeId} (ho : o.op = .call { callee := .value fo, args, argTypes := ats }) {u : V} {f : FuncId} {caps : List C} {us : List V} {rv : V}
  (hu : opd n ⟨t, b, r, m⟩ fo = (true, u)) (hc : calleeV u = some (f, caps)) (ha : allOpdL n ⟨t, b, r, m⟩ args.toList = (true, us)) (hp : pureVs (us ++ caps.map V.one) = true) (pc : PureCall P J f (us ++ caps.map V.one) rv) :
  RunV E P n o t b r m rv b := by
 intro g a w rel next Q hn
 obtain ⟨fn, hf, h1, h2⟩ := pc.enter
 obtain ⟨vs, hl, hx, hrun⟩ := call_run rel ho hu hc hf h1 h2
 obtain ⟨hal, hav⟩ := allOpdL_ok rel _ _ _ ha rfl
 have hall := capsV_ok (us := us) (caps := caps) (ws := args.toList.map a.eval) (vs := vs) (by simp [hal]) hav hl hx
 have hcall := pc.calls g.im w (args.toList.map a.eval ++ vs) rel.inv rel.imlt (by simp [hal, hl]) (fun i u v h3 h4 => (hall i u v h3 h4).pure (noGh g.im) noSh (show (noGh g.im).im = g.im from rfl) (pureVs_get hp i u h3))
 unfold Oper.wp
 rw [hrun]
 show Calls P f _ w _
 refine hcall.mono ?_
 rintro e w' ⟨v, im', rfl, hb, hi1, hi2, hi3, hv⟩
 exact hn v _ w' (fun t1 a1 h => h.later im' hb hi1 hi2 hi3) (hv.mono (.fromNo im' w' _ _ rfl))
theorem D.call {fo : Operand} {args : Array Operand} {ats : Array TypeId} {u : V} {f : FuncId} {caps : List C} {us ws : List V} {rv : V} (hu : opd n ⟨t, b, r, m⟩ fo = (true, u)) (hc : calleeV u = some (f, caps))
  (ha : allOpdL n ⟨t, b, r, m⟩ args.toList = (true, us)) (hw : forceVs (appL us (caps.map V.one)) = some ws) (hp : pureVs ws = true) (pc : PureCall P J f ws rv)
  (k : WD E P n ops l K ⟨upd t i rv, b, r, m⟩) : WD E P n ops (⟨some i, .call ⟨.value fo, args, ats⟩, ty, pos, after, none⟩ :: l) K ⟨t, b, r, m⟩ := by
 obtain rfl := forceVs_eq hw
 rw [appL_eq] at hp pc
 obtain ⟨o, ho⟩ : ∃ o : Oper, o = ⟨some i, .call ⟨.value fo, args, ats⟩, ty, pos, after, none⟩ := ⟨_, rfl⟩
 rw [← ho]
 have hop : o.op = .call ⟨.value fo, args, ats⟩ := by rw [ho]
 have hm : o.op.operands.toList = fo :: args.toList := by rw [hop]; simp [Op.operands, Call.operands]
 refine ⟨rv, b, .of (.inr (by rw [hop]; rfl)) (fun t' b1 ht hb => .of_run (by rw [ho]) (run_call hop (u := u) ?_ hc ?_ hp pc)), by rw [ho]; exact k⟩
 ·skip
  rw [looks_opd (b := b) (by rw [hm]; simp) ht]; exact hu
 ·skip
  rw [← ha]; exact allOpdL_congr _ (fun p hp => looks_opd (b := b) (by rw [hm]; exact List.mem_cons_of_mem _ hp) ht)
theorem D.callG {fo : Operand} {args : Array Operand} {ats : Array TypeId} {u : V} {f : FuncId} {caps : List C} {us ws : List V} {rv : V} {j : Nat} {want c : Bool} (hg : guardV n ops t j want = some c)
  (hu : opd n ⟨bare t, b, r, m⟩ fo = (true, u)) (hc : calleeV u = some (f, caps)) (ha : allOpdL n ⟨bare t, b, r, m⟩ args.toList = (true, us)) (htg : allT c (tagsO t (fo :: args.toList)))
  (hw : forceVs (appL us (caps.map V.one)) = some ws) (hp : pureVs ws = true) (pc : c = true → PureCall P J f ws rv)
  (k : WD E P n ops l K ⟨upd t i (.when c rv), b, r, m⟩) : WD E P n ops (⟨some i, .call ⟨.value fo, args, ats⟩, ty, pos, after, some (j, want)⟩ :: l) K ⟨t, b, r, m⟩ := by
 obtain rfl := forceVs_eq hw
 rw [appL_eq] at hp pc
 obtain ⟨o, ho⟩ : ∃ o : Oper, o = ⟨some i, .call ⟨.value fo, args, ats⟩, ty, pos, after, some (j, want)⟩ := ⟨_, rfl⟩
 rw [← ho]
 have hop : o.op = .call ⟨.value fo, args, ats⟩ := by rw [ho]
 have hgo : o.guard = some (j, want) := by rw [ho]
 have hm : o.op.operands.toList = fo :: args.toList := by rw [hop]; simp [Op.operands, Call.operands]
 refine ⟨.when c rv, b, .of (.inr (by rw [hop]; rfl)) (fun t' b1 ht hb => .of_runG hgo ((looks_guard hgo ht).trans hg) (fun hct => run_call hop (u := u) ?_ hc ?_ hp (pc hct))), by rw [ho]; exact k⟩
 all_goals
  have h1 := allT_mem htg hct
  rw [← tags_looks ht (fo :: args.toList) (fun q hq => by rw [hm]; exact hq)] at h1
 ·skip
  rw [opds_bare h1 (List.mem_cons_self ..), looks_opd (b := b) (by rw [hm]; simp) (bare_looks ht)]; exact hu
 ·skip
  rw [← ha]
  exact allOpdL_congr _ (fun p hp => (opds_bare h1 (List.mem_cons_of_mem _ hp)).trans (looks_opd (b := b) (by rw [hm]; exact List.mem_cons_of_mem _ hp) (bare_looks ht)))
theorem run_slice (hT : TabOk P T) {o : Oper} {te : TypeId} {len sz : Nat} {parts : Array (Nat × Operand)} {us : List (Nat × V)} {xs : List (List D)} (ho : o.op = .buildSlice te len parts)
  (hp : allOpd n ⟨t, b, r, m⟩ parts.toList = (true, us)) (hx : evBS T te len us = some (sz, xs)) : RunV E P n o t b r m (.one (.d (.vec sz xs))) b := by
 intro g a w rel next Q hn
 obtain ⟨hl, hpv⟩ := allOpd_ok rel _ _ _ hp rfl
 unfold evBS at hx
 split at hx
 ·skip
  rename_i e _ _ _ _ ht
  split at hx
  ·skip
   rename_i j hj
   split at hx
   ·skip
    rename_i z hz
    split at hx
    ·skip
     rename_i hc
     split at hx
     ·skip
      rename_i out hf
      split at hx
      ·skip
       rename_i ds hds
       split at hx
       ·skip
        rename_i hlen
        obtain ⟨rfl, rfl⟩ : j.size = sz ∧ chunk j.size len ds = xs := by simpa using hx
        have hout := allDs_eq hds
        obtain ⟨zs, q1, q2, q3⟩ := zeroCells_ok (h := (⟨t, b, r, m⟩ : St).sh) hz (len * j.size) hc.2 g w
        have hjunk : ∀ (i : Nat) (c : C) (v : Value), (List.replicate (len * j.size) C.junk)[i]? = some c → zs[i]? = some v → RC g (⟨t, b, r, m⟩ : St).sh w c v := fun i c v h1 h2 => by
         rw [List.getElem?_replicate] at h1
         split at h1
         ·skip
          rename_i hi
          cases h1
          refine .junk _ (q3 ?_ v (List.mem_of_getElem? h2))
          rcases Nat.eq_zero_or_pos j.size with h0 | h0
          ·skip
           rw [h0, Nat.mul_zero] at hi; omega
          ·skip
           exact h0
         ·skip
          cases h1
        obtain ⟨vs, f1, f2, f3⟩ := fillC_ok (h := (⟨t, b, r, m⟩ : St).sh) (fun i => some (i * j.size, j.size)) us (parts.toList.map fun (i, x) => (i, a.eval x)) _ out zs (by simp [hl]) hpv (by simp [q2]) hjunk hf
        have e1 : (parts.map fun (i, x) => (i, a.eval x)) = (parts.toList.map fun (i, x) => (i, a.eval x)).toArray := Array.toList_inj.1 (by simp)
        have hrun : (execOp a.eval o).run P w = .ok (.value (.slice (some ⟨w.heap.size, 0, none⟩) len len)) (w.alloc (.cells vs.toArray e)) := by
         have := run_buildSlice (w := w) (pv := parts.map fun (i, x) => (i, a.eval x)) (len := len) hT ht rfl hj (by have := hc.1; omega) q1 (by rw [e1]; simpa using f1)
         simp only [execOp, ho, Sem.run_bind, this, Result.andThen_ok, Sem.run_pure]
        unfold Oper.wp
        rw [hrun]
        have hsz : (w.alloc (.cells vs.toArray e)).heap.size = w.heap.size + 1 := by simp
        have hb : Below w.heap.size w (w.alloc (.cells vs.toArray e)) := (Below.refl _ _).alloc (Nat.le_refl _) _
        have hlater : ∀ t1 a1, Rel E n g ⟨t1, b, r, m⟩ a1 w → Rel E n { g with im := fun b => g.im b ∨ b = w.heap.size } ⟨t1, b, r, m⟩ a1 (w.alloc (.cells vs.toArray e)) := fun t1 a1 h =>
         h.later (fun b => g.im b ∨ b = w.heap.size) hb (fun b h => .inl h) (fun b h => by rw [hsz]; rcases h with h | rfl; exact Nat.lt_succ_of_lt (rel.imlt b h); exact Nat.lt_succ_self _) (fun b h => h.elim .inl (fun h => .inr (by omega)))
        obtain ⟨g', hr⟩ := rel.newRow (some n) (sz := j.size) (len := len) (ds := ds) (us := vs) (t := e) hlen (by rw [f2, hout]; simp) (by rw [← hout]; exact f3)
        refine hn _ _ _ hlater ?_
        -- the value, once more
        have hnew : (w.alloc (.cells vs.toArray e)).heap[w.heap.size]? = some (.cells vs.toArray e (0, 0)) := by show (w.heap.push _)[w.heap.size]? = _; simp
        have hrd : ∀ (i : Nat) (x : D) (v : Value), ds[i]? = some x → vs[i]? = some v → RD (fun b => g.im b ∨ b = w.heap.size) (w.alloc (.cells vs.toArray e)) x v := fun i x v h1 h2 => by
         have := f3 i (.d x) v (by rw [hout]; simp [h1]) h2
         cases this with | d _ _ q => exact q.mono (fun b h => .inl h) (fun b h => hb.block b (rel.imlt b h))
        refine .one _ _ (.d _ _ ?_)
        by_cases hz0 : len = 0
        ·skip
         subst hz0; exact .empty _ _ _
        ·skip
         have hcl := chunk_length j.size len ds
         have hvl : vs.length = ds.length := by rw [f2, hout]; simp
         have := RD.vec (im := fun b => g.im b ∨ b = w.heap.size) (w := w.alloc (.cells vs.toArray e)) j.size (chunk j.size len ds) w.heap.size 0 len (fun i k => vs.getD (i * j.size + k) undef)
          (fun h => by rw [h] at hcl; simp at hcl; omega) (by omega) (.inr rfl) (chunk_sz j.size len ds hlen) (fun i k x d h1 h2 => ?_) (fun i k x d h1 h2 => ?_)
         ·skip
          rw [hcl] at this; exact this
         ·skip
          have h3 := chunk_get j.size len ds i k x d h1 h2
          have h4 := (List.getElem?_eq_some_iff.1 h3).1
          have h5 : vs[i * j.size + k]? = some vs[i * j.size + k] := List.getElem?_eq_getElem (by omega)
          simp only [World.cell?, hnew, Nat.zero_add, Option.isSome_none, Bool.false_eq_true, if_false, List.getElem?_toArray, List.getD_eq_getElem?_getD, h5, Option.getD_some]
         ·skip
          have h3 := chunk_get j.size len ds i k x d h1 h2
          have h4 := (List.getElem?_eq_some_iff.1 h3).1
          have h5 : vs[i * j.size + k]? = some vs[i * j.size + k] := List.getElem?_eq_getElem (by omega)
          rw [List.getD_eq_getElem?_getD, h5]
          exact hrd _ _ _ h3 h5
       ·skip
        cases hx
      ·skip
       cases hx
     ·skip
      cases hx
    ·skip
     cases hx
   ·skip
    cases hx
  ·skip
   cases hx
 ·skip
  cases hx
theorem D.slice (hT : TabOk P T) {te : TypeId} {len sz : Nat} {parts : Array (Nat × Operand)} {us : List (Nat × V)} {xs : List (List D)} (hp : allOpd n ⟨t, b, r, m⟩ parts.toList = (true, us)) (hx : evBS T te len us = some (sz, xs))
  (k : WD E P n ops l K ⟨upd t i (.one (.d (.vec sz xs))), b, r, m⟩) : WD E P n ops (⟨some i, .buildSlice te len parts, ty, pos, after, none⟩ :: l) K ⟨t, b, r, m⟩ := by
 obtain ⟨o, ho⟩ : ∃ o : Oper, o = ⟨some i, .buildSlice te len parts, ty, pos, after, none⟩ := ⟨_, rfl⟩
 rw [← ho]
 have hop : o.op = .buildSlice te len parts := by rw [ho]
 refine ⟨.one (.d (.vec sz xs)), b, .of (.inl (by rw [hop]; rfl)) (fun t' b1 ht hb => .of_run (by rw [ho]) (run_slice hT hop ?_ hx)), by rw [ho]; exact k⟩
 rw [← hp]
 exact allOpd_congr _ (fun p hp => looks_opd (b := b) (by rw [hop]; simp only [Op.operands, List.mem_map]; exact ⟨p, hp, rfl⟩) ht)
theorem D.store (hT : TabOk P T) {te : TypeId} {ti : TI} {x y : Operand} {lo off : Nat} {v : V} {cs ds cs' : List C} {b' : List (List C)} (hi : T te = some ti) (hx : opd n ⟨t, b, r, m⟩ x = (true, .one (.ptr lo off)))
  (hy : opd n ⟨t, b, r, m⟩ y = (true, v)) (hv : cellsOfV v = some ds) (hb : b[lo]? = some cs) (hs : (Nat.beq ds.length ti.size && Nat.ble (off + ds.length) cs.length) = true)
  (hf : forceL (putCells cs off ds) = some cs') (hb' : forceL (b.set lo cs') = some b')
  (k : WD E P n ops l K ⟨t, b', r, m⟩) : WD E P n ops (⟨none, .store te x y, ty, pos, after, none⟩ :: l) K ⟨t, b, r, m⟩ := by
 obtain rfl := forceL_eq hf
 obtain rfl := forceL_eq hb'
 simp only [Bool.and_eq_true] at hs
 have hs1 := Nat.eq_of_beq_eq_true hs.1
 have hs2 := Nat.le_of_ble_eq_true hs.2
 obtain ⟨o, ho⟩ : ∃ o : Oper, o = ⟨none, .store te x y, ty, pos, after, none⟩ := ⟨_, rfl⟩
 rw [← ho]
 have hop : o.op = .store te x y := by rw [ho]
 have hgo : o.guard = none := by rw [ho]
 have hdo : o.dst = none := by rw [ho]
 refine ⟨.junk, b.set lo (putCells cs off ds), fun t' ht => ⟨fun h0 => by rw [hop] at h0; simp [cls] at h0, fun h0 => by rw [hop] at h0; simp [cls] at h0, .of_run hgo ?_⟩, by rw [hdo]; exact k⟩
 have hx' : opd n ⟨t', b, r, m⟩ x = (true, .one (.ptr lo off)) := by rw [looks_opd (b := b) (o := o) (by rw [hop]; simp [Op.operands]) ht]; exact hx
 have hy' : opd n ⟨t', b, r, m⟩ y = (true, v) := by rw [looks_opd (b := b) (o := o) (by rw [hop]; simp [Op.operands]) ht]; exact hy
 intro g a w rel next Q hn
 obtain ⟨us, h1, h2, h3, h4⟩ := cellsOf_ok hv (opd_ok rel hy' rfl)
 have hp := opd_ok rel hx' rfl
 generalize hz : a.eval x = z at hp
 cases hp with | one _ _ hp => cases hp with | ptr _ _ hl =>
 obtain ⟨vs, tyy, q1, q2, q3⟩ := rel.heap.box lo cs hb
 obtain ⟨vs, rfl⟩ : ∃ l : List Value, vs = l.toArray := ⟨vs.toList, by simp⟩
 have hrun : (execOp a.eval o).run P w = .ok .skip { w with heap := w.heap.setIfInBounds (g.at_ (.b lo)) (.cells (vs.take off ++ us ++ vs.drop (off + us.length)).toArray tyy (0, 0)) } := by
  have hst := storeCells_run (P := P) us off w vs.toArray q1 (by simp at q2 ⊢; omega) h4 off (Nat.le_refl _)
  simp only [Nat.sub_self] at hst
  have hsz : us.toArray.size = ti.size := by simp [h2, hs1]
  simp only [execOp, hop, Instr.storeAt, hz, Instr.sureAddr, storeVar, Sem.run_bind, Sem.run_pure, Result.andThen_ok, run_sizeOf' hT hi, h1, hsz, ne_eq, not_true_eq_false, if_false, hst]
 unfold Oper.wp
 rw [hrun]
 refine hn undef g _ (fun t1 a1 h => ?_) (.junk _)
 exact h.store (l := lo) (off := off) (cs := cs) (ds := ds) (vs := vs) (us := us) hb h2 hs2 q1 (by simpa using q2) h3 none .junk undef (.junk _)
theorem WD.nil {ops : Array Oper} {K : St → Prop} {s : St} (h : K s) : WD E P n ops [] K s := h
end
end
section
open Go
theorem tiOk_of {P : Program} {t : TypeId} {i : TI} (h1 : P.underlying t = some i.desc) (h2 : (P.info? t).map (fun x => (x.size, x.zero, x.bytes)) = some (i.size, some i.zero, i.bytes))
  (h3 : i.plain = true → P.eqGuardType P.depth t = false ∧ P.stoodInHeld t = false) : TiOk P t i := by
 refine ⟨h1, ?_⟩
 cases h : P.info? t with
 | none => rw [h] at h2; cases h2
 | some x =>
  rw [h] at h2
  simp only [Option.map_some, Option.some.injEq, Prod.mk.injEq] at h2
  exact ⟨x, rfl, h2.1, h2.2.1, h2.2.2, h3⟩
def ty2 : TI := { desc := .int .i64, size := 1, zero := .int .i64 0, bytes := 8, plain := false }
theorem ty2_ok : TiOk Tryz.prog 2 ty2 := tiOk_of (by kernel_rfl) (by kernel_rfl) (fun h => by cases h)
def ty3 : TI := { desc := .int .i64, size := 1, zero := .int .i64 0, bytes := 8, plain := false }
theorem ty3_ok : TiOk Tryz.prog 3 ty3 := tiOk_of (by kernel_rfl) (by kernel_rfl) (fun h => by cases h)
def ty4 : TI := { desc := .bool, size := 1, zero := .bool false, bytes := 1, plain := false }
theorem ty4_ok : TiOk Tryz.prog 4 ty4 := tiOk_of (by kernel_rfl) (by kernel_rfl) (fun h => by cases h)
def ty5 : TI := { desc := .int .u8, size := 1, zero := .int .u8 0, bytes := 1, plain := false }
theorem ty5_ok : TiOk Tryz.prog 5 ty5 := tiOk_of (by kernel_rfl) (by kernel_rfl) (fun h => by cases h)
def ty9 : TI := { desc := .string, size := 1, zero := .string ⟨#[]⟩, bytes := 16, plain := false }
theorem ty9_ok : TiOk Tryz.prog 9 ty9 := tiOk_of (by kernel_rfl) (by kernel_rfl) (fun h => by cases h)
def ty29 : TI := { desc := .int .i64, size := 1, zero := .int .i64 0, bytes := 8, plain := false }
theorem ty29_ok : TiOk Tryz.prog 29 ty29 := tiOk_of (by kernel_rfl) (by kernel_rfl) (fun h => by cases h)
def ty53 : TI := { desc := .slice 56, size := 1, zero := .slice none 0 0, bytes := 24, plain := false }
theorem ty53_ok : TiOk Tryz.prog 53 ty53 := tiOk_of (by kernel_rfl) (by kernel_rfl) (fun h => by cases h)
def ty54 : TI := { desc := .slice 72, size := 1, zero := .slice none 0 0, bytes := 24, plain := false }
theorem ty54_ok : TiOk Tryz.prog 54 ty54 := tiOk_of (by kernel_rfl) (by kernel_rfl) (fun h => by cases h)
def ty56 : TI := { desc := .struct #[{ name := "Channel", type := 9, offset := 0, embedded := false, tag := "", pkgPath := "", byteOffset := 0 }, { name := "Serial", type := 3, offset := 1, embedded := false, tag := "", pkgPath := "", byteOffset := 16 }, { name := "Time", type := 3, offset := 2, embedded := false, tag := "", pkgPath := "", byteOffset := 24 }, { name := "Offers", type := 54, offset := 3, embedded := false, tag := "", pkgPath := "", byteOffset := 32 }], size := 4, zero := .agg #[.string ⟨#[]⟩, .int .i64 0, .int .i64 0, .slice none 0 0], bytes := 56, plain := false }
theorem ty56_ok : TiOk Tryz.prog 56 ty56 := tiOk_of (by kernel_rfl) (by kernel_rfl) (fun h => by cases h)
def ty64 : TI := { desc := .struct #[{ name := "Major", type := 3, offset := 0, embedded := false, tag := "", pkgPath := "", byteOffset := 0 }, { name := "Minor", type := 3, offset := 1, embedded := false, tag := "", pkgPath := "", byteOffset := 8 }, { name := "Patch", type := 3, offset := 2, embedded := false, tag := "", pkgPath := "", byteOffset := 16 }, { name := "Early", type := 9, offset := 3, embedded := false, tag := "", pkgPath := "", byteOffset := 24 }], size := 4, zero := .agg #[.int .i64 0, .int .i64 0, .int .i64 0, .string ⟨#[]⟩], bytes := 40, plain := true }
theorem ty64_ok : TiOk Tryz.prog 64 ty64 := tiOk_of (by kernel_rfl) (by kernel_rfl) (fun _ => ⟨by kernel_rfl, by kernel_rfl⟩)
def ty65 : TI := { desc := .slice 178, size := 1, zero := .slice none 0 0, bytes := 24, plain := false }
theorem ty65_ok : TiOk Tryz.prog 65 ty65 := tiOk_of (by kernel_rfl) (by kernel_rfl) (fun h => by cases h)
def ty67 : TI := { desc := .struct #[{ name := "Spans", type := 65, offset := 0, embedded := false, tag := "", pkgPath := "", byteOffset := 0 }], size := 1, zero := .agg #[.slice none 0 0], bytes := 24, plain := false }
theorem ty67_ok : TiOk Tryz.prog 67 ty67 := tiOk_of (by kernel_rfl) (by kernel_rfl) (fun h => by cases h)
def ty68 : TI := { desc := .slice 70, size := 1, zero := .slice none 0 0, bytes := 24, plain := false }
theorem ty68_ok : TiOk Tryz.prog 68 ty68 := tiOk_of (by kernel_rfl) (by kernel_rfl) (fun h => by cases h)
def ty70 : TI := { desc := .struct #[{ name := "Kind", type := 3, offset := 0, embedded := false, tag := "", pkgPath := "", byteOffset := 0 }, { name := "Name", type := 9, offset := 1, embedded := false, tag := "", pkgPath := "", byteOffset := 8 }, { name := "Value", type := 9, offset := 2, embedded := false, tag := "", pkgPath := "", byteOffset := 24 }, { name := "Args", type := 68, offset := 3, embedded := false, tag := "", pkgPath := "", byteOffset := 40 }], size := 4, zero := .agg #[.int .i64 0, .string ⟨#[]⟩, .string ⟨#[]⟩, .slice none 0 0], bytes := 64, plain := false }
theorem ty70_ok : TiOk Tryz.prog 70 ty70 := tiOk_of (by kernel_rfl) (by kernel_rfl) (fun h => by cases h)
def ty72 : TI := { desc := .struct #[{ name := "Name", type := 9, offset := 0, embedded := false, tag := "", pkgPath := "", byteOffset := 0 }, { name := "Version", type := 64, offset := 1, embedded := false, tag := "", pkgPath := "", byteOffset := 16 }, { name := "Sum", type := 9, offset := 5, embedded := false, tag := "", pkgPath := "", byteOffset := 56 }, { name := "From", type := 67, offset := 6, embedded := false, tag := "", pkgPath := "", byteOffset := 72 }, { name := "New", type := 4, offset := 7, embedded := false, tag := "", pkgPath := "", byteOffset := 96 }, { name := "When", type := 70, offset := 8, embedded := false, tag := "", pkgPath := "", byteOffset := 104 }, { name := "Begin", type := 3, offset := 12, embedded := false, tag := "", pkgPath := "", byteOffset := 168 }, { name := "Start", type := 3, offset := 13, embedded := false, tag := "", pkgPath := "", byteOffset := 176 }, { name := "Grow", type := 3, offset := 14, embedded := false, tag := "", pkgPath := "", byteOffset := 184 }, { name := "Hold", type := 4, offset := 15, embedded := false, tag := "", pkgPath := "", byteOffset := 192 }, { name := "Urgent", type := 4, offset := 16, embedded := false, tag := "", pkgPath := "", byteOffset := 193 }, { name := "Back", type := 4, offset := 17, embedded := false, tag := "", pkgPath := "", byteOffset := 194 }], size := 18, zero := .agg #[.string ⟨#[]⟩, .int .i64 0, .int .i64 0, .int .i64 0, .string ⟨#[]⟩, .string ⟨#[]⟩, .slice none 0 0, .bool false, .int .i64 0, .string ⟨#[]⟩, .string ⟨#[]⟩, .slice none 0 0, .int .i64 0, .int .i64 0, .int .i64 0, .bool false, .bool false, .bool false], bytes := 200, plain := false }
theorem ty72_ok : TiOk Tryz.prog 72 ty72 := tiOk_of (by kernel_rfl) (by kernel_rfl) (fun h => by cases h)
def ty82 : TI := { desc := .slice 9, size := 1, zero := .slice none 0 0, bytes := 24, plain := false }
theorem ty82_ok : TiOk Tryz.prog 82 ty82 := tiOk_of (by kernel_rfl) (by kernel_rfl) (fun h => by cases h)
def ty86 : TI := { desc := .slice 3, size := 1, zero := .slice none 0 0, bytes := 24, plain := false }
theorem ty86_ok : TiOk Tryz.prog 86 ty86 := tiOk_of (by kernel_rfl) (by kernel_rfl) (fun h => by cases h)
def ty120 : TI := { desc := .slice 29, size := 1, zero := .slice none 0 0, bytes := 24, plain := false }
theorem ty120_ok : TiOk Tryz.prog 120 ty120 := tiOk_of (by kernel_rfl) (by kernel_rfl) (fun h => by cases h)
def ty122 : TI := { desc := .int .u64, size := 1, zero := .int .u64 0, bytes := 8, plain := false }
theorem ty122_ok : TiOk Tryz.prog 122 ty122 := tiOk_of (by kernel_rfl) (by kernel_rfl) (fun h => by cases h)
def ty128 : TI := { desc := .interface #[("Error", 347)], size := 1, zero := .nilIface, bytes := 16, plain := false }
theorem ty128_ok : TiOk Tryz.prog 128 ty128 := tiOk_of (by kernel_rfl) (by kernel_rfl) (fun h => by cases h)
def ty178 : TI := { desc := .struct #[{ name := "HasFrom", type := 4, offset := 0, embedded := false, tag := "", pkgPath := "", byteOffset := 0 }, { name := "HasTo", type := 4, offset := 1, embedded := false, tag := "", pkgPath := "", byteOffset := 1 }, { name := "From", type := 64, offset := 2, embedded := false, tag := "", pkgPath := "", byteOffset := 8 }, { name := "To", type := 64, offset := 6, embedded := false, tag := "", pkgPath := "", byteOffset := 48 }], size := 10, zero := .agg #[.bool false, .bool false, .int .i64 0, .int .i64 0, .int .i64 0, .string ⟨#[]⟩, .int .i64 0, .int .i64 0, .int .i64 0, .string ⟨#[]⟩], bytes := 88, plain := true }
theorem ty178_ok : TiOk Tryz.prog 178 ty178 := tiOk_of (by kernel_rfl) (by kernel_rfl) (fun _ => ⟨by kernel_rfl, by kernel_rfl⟩)
def ty188 : TI := { desc := .array 3 3, size := 3, zero := .agg #[.int .i64 0, .int .i64 0, .int .i64 0], bytes := 24, plain := false }
theorem ty188_ok : TiOk Tryz.prog 188 ty188 := tiOk_of (by kernel_rfl) (by kernel_rfl) (fun h => by cases h)
def ty189 : TI := { desc := .slice 64, size := 1, zero := .slice none 0 0, bytes := 24, plain := false }
theorem ty189_ok : TiOk Tryz.prog 189 ty189 := tiOk_of (by kernel_rfl) (by kernel_rfl) (fun h => by cases h)
def ty328 : TI := { desc := .slice 330, size := 1, zero := .slice none 0 0, bytes := 24, plain := false }
theorem ty328_ok : TiOk Tryz.prog 328 ty328 := tiOk_of (by kernel_rfl) (by kernel_rfl) (fun h => by cases h)
def ty330 : TI := { desc := .struct #[{ name := "sign", type := 5, offset := 0, embedded := false, tag := "", pkgPath := "outfitter/ver", byteOffset := 0 }, { name := "first", type := 9, offset := 1, embedded := false, tag := "", pkgPath := "outfitter/ver", byteOffset := 8 }, { name := "last", type := 9, offset := 2, embedded := false, tag := "", pkgPath := "outfitter/ver", byteOffset := 24 }], size := 3, zero := .agg #[.int .u8 0, .string ⟨#[]⟩, .string ⟨#[]⟩], bytes := 40, plain := true }
theorem ty330_ok : TiOk Tryz.prog 330 ty330 := tiOk_of (by kernel_rfl) (by kernel_rfl) (fun _ => ⟨by kernel_rfl, by kernel_rfl⟩)
def tyL : List (Nat × TI) := [(2, ty2), (3, ty3), (4, ty4), (5, ty5), (9, ty9), (29, ty29), (53, ty53), (54, ty54), (56, ty56), (64, ty64), (65, ty65), (67, ty67), (68, ty68), (70, ty70), (72, ty72), (82, ty82), (86, ty86), (120, ty120), (122, ty122), (128, ty128), (178, ty178), (188, ty188), (189, ty189), (328, ty328), (330, ty330)]
def T : TypeId → Option TI := tabFind tyL
theorem tOk : TabOk Tryz.prog T := tabOk_of ⟨ty2_ok, ty3_ok, ty4_ok, ty5_ok, ty9_ok, ty29_ok, ty53_ok, ty54_ok, ty56_ok, ty64_ok, ty65_ok, ty67_ok, ty68_ok, ty70_ok, ty72_ok, ty82_ok, ty86_ok, ty120_ok, ty122_ok, ty128_ok, ty178_ok, ty188_ok, ty189_ok, ty328_ok, ty330_ok, trivial⟩
theorem zeroOk_of : ∀ {l : List (Nat × TI)}, (l.all fun p => constOk p.2.zero) = true → ZeroOk (tabFind l)
  | [], _, t, i, h => by cases h
  | (k, j) :: l, h, t, i, hf => by
    simp only [List.all_cons, Bool.and_eq_true] at h
    unfold tabFind at hf
    cases hb : Nat.beq k t <;> rw [hb] at hf
    · exact zeroOk_of h.2 t i hf
    · obtain rfl : j = i := by simpa using hf
      exact h.1
theorem zOk : ZeroOk T := zeroOk_of (by kernel_rfl)
theorem mixed : Tryz.prog.follows .mixedOrders = true := by kernel_rfl
end
section
open Go Go.RowKit
def D.lit : D → Option Value
 | .int k n => some (.int k n)
 | .bool b => some (.bool b)
 | .str s => some (.string ⟨s.toArray⟩)
 | _ => none
def litV : V → Option Value
 | .one (.d x) => x.lit
 | _ => none
theorem litV_eq {g : Gh} {h : Sh} {w : World} {u : V} {v x : Value} (hx : RV g h w u v) (hl : litV u = some x) : v = x := by
 cases hx with
 | one c v hc =>
  cases hc with
  | d d v hd => cases hd <;> simp_all [litV, D.lit]
  | _ => simp [litV] at hl
 | _ => simp [litV] at hl
theorem lits_eq {g : Gh} {h : Sh} {w : World} {args : List V} {xs vs : List Value} (ha : args.map litV = xs.map some) (hl : vs.length = args.length)
  (hx : ∀ (i : Nat) (u : V) (v : Value), args[i]? = some u → vs[i]? = some v → RV g h w u v) : vs = xs := by
 have hlen : args.length = xs.length := by have := congrArg List.length ha; simpa using this
 apply List.ext_getElem? ; intro i
 by_cases hi : i < vs.length
 ·skip
  have h1 : vs[i]? = some vs[i] := List.getElem?_eq_getElem hi
  have h2 : args[i]? = some (args[i]'(by omega)) := List.getElem?_eq_getElem _
  have h3 : xs[i]? = some (xs[i]'(by omega)) := List.getElem?_eq_getElem _
  have h4 := congrArg (fun l => l[i]?) ha
  simp only [List.getElem?_map, h2, h3, Option.map_some, Option.some.injEq] at h4
  rw [h1, h3, litV_eq (hx i _ _ h2 h1) h4]
 ·skip
  rw [List.getElem?_eq_none (by omega), List.getElem?_eq_none (by omega)]
theorem PureCall.lib {P : Program} {J : Inv} {f : FuncId} {args : List V} {r : V} {xs : List Value} {fn : Func} (hf : P.funcs[f]? = some fn) (h0 : (fn.name == "runtime.NumGoroutine") = false) (hb : fn.body.isNone = false)
  (ha : args.map litV = xs.map some)
  (h : ∀ w : World, J.I w → Calls P f xs.toArray w fun e w' => ∃ v, e = .returned v ∧ Below w.heap.size w w' ∧ RV (noGh fun b => w.heap.size ≤ b ∧ b < w'.heap.size) noSh w' r v) : PureCall P J f args r := by
 refine ⟨⟨fn, hf, h0, hb⟩, fun im w vs hJ hi hl hx => ?_⟩
 obtain rfl := lits_eq ha hl hx
 refine Calls.mono (h w hJ) fun e w' ⟨v, he, hB, hr⟩ => ?_
 refine ⟨v, fun b => im b ∨ (w.heap.size ≤ b ∧ b < w'.heap.size), he, hB, fun b h => .inl h, fun b h => ?_, fun b h => ?_, ?_⟩
 ·skip
  rcases h with h | h
  ·skip
   exact Nat.lt_of_lt_of_le (hi b h) hB.size
  ·skip
   exact h.2
 ·skip
  rcases h with h | h
  ·skip
   exact .inl h
  ·skip
   exact .inr h.1
 ·skip
  exact RV.mono (g := noGh fun b => w.heap.size ≤ b ∧ b < w'.heap.size) (g' := noGh fun b => im b ∨ (w.heap.size ≤ b ∧ b < w'.heap.size)) (Ext.of (fun b h => Or.inr h) (fun _ _ => rfl) rfl rfl rfl) hr
theorem RV.of_lit {g : Gh} {h : Sh} {w : World} {d : D} {v : Value} (hd : d.lit = some v) : RV g h w (.one (.d d)) v := by
 refine .one _ _ (.d _ _ ?_)
 cases d <;> simp [D.lit] at hd <;> subst hd
 ·skip
  exact .int _ _
 ·skip
  exact .bool _
 ·skip
  exact .str _
theorem RV.tup2 {g : Gh} {h : Sh} {w : World} {a b : V} {x y : Value} (h1 : RV g h w a x) (h2 : RV g h w b y) : RV g h w (.tup [a, b]) (.tuple #[x, y]) := by
 refine .tup [a, b] [x, y] rfl (fun i u v hu hv => ?_)
 match i with
 | 0 => simp at hu hv; subst hu; subst hv; exact h1
 | 1 => simp at hu hv; subst hu; subst hv; exact h2
 | i + 2 => simp at hu
theorem RV.tup3 {g : Gh} {h : Sh} {w : World} {a b c : V} {x y z : Value} (h1 : RV g h w a x) (h2 : RV g h w b y) (h3 : RV g h w c z) : RV g h w (.tup [a, b, c]) (.tuple #[x, y, z]) := by
 refine .tup [a, b, c] [x, y, z] rfl (fun i u v hu hv => ?_)
 match i with
 | 0 => simp at hu hv; subst hu; subst hv; exact h1
 | 1 => simp at hu hv; subst hu; subst hv; exact h2
 | 2 => simp at hu hv; subst hu; subst hv; exact h3
 | i + 3 => simp at hu
theorem Below.drewN' (w : World) (n : Nat) : Below w.heap.size w (w.drewN n) := ⟨rfl, rfl, rfl, Nat.le_refl _, fun _ _ => rfl⟩
theorem Below.alloc' (w : World) (o : Obj) : Below w.heap.size w (w.alloc o) := (Below.refl _ w).alloc (Nat.le_refl _) o
theorem RV.texts {w : World} {ss : List ByteArray} (ty : TypeId) (hne : ss ≠ []) (n : Nat) (hn : n = ss.length) :
  RV (noGh fun b => w.heap.size ≤ b ∧ b < (w.alloc (.cells (ss.map Value.string).toArray ty (0, 0))).heap.size) noSh (w.alloc (.cells (ss.map Value.string).toArray ty (0, 0)))
   (.one (.d (.vec 1 (ss.map fun s => [.str s.data.toList])))) (.slice (some ⟨w.heap.size, 0, none⟩) n n) := by
 refine .one _ _ (.d _ _ ?_)
 have hl : (ss.map fun s => [D.str s.data.toList]).length = n := by simp [hn]
 have hcell : ∀ i, (w.alloc (.cells (ss.map Value.string).toArray ty (0, 0))).cell? ⟨w.heap.size, i, none⟩ = (ss[i]?).map Value.string := by
  intro i
  simp only [World.cell?, World.alloc, Array.getElem?_push_size]
  simp
 have key := RD.vec (im := (noGh fun b => w.heap.size ≤ b ∧ b < (w.alloc (.cells (ss.map Value.string).toArray ty (0, 0))).heap.size).im) (w := w.alloc (.cells (ss.map Value.string).toArray ty (0, 0))) 1 (ss.map fun s => [D.str s.data.toList]) w.heap.size 0 n
  (fun i _ => .string (ss.getD i ByteArray.empty)) (by simpa using hne) (by rw [hl]; exact Nat.le_refl _) ⟨Nat.le_refl _, by show _ < (w.heap.push _).size; simp⟩ (by simp)
  (fun i j x d h1 h2 => by
   simp only [List.getElem?_map, Option.map_eq_some_iff] at h1
   obtain ⟨s, h1, rfl⟩ := h1
   match j with
   | 0 => simp [hcell, h1, List.getD]
   | j + 1 => simp at h2)
  (fun i j x d h1 h2 => by
   simp only [List.getElem?_map, Option.map_eq_some_iff] at h1
   obtain ⟨s, h1, rfl⟩ := h1
   match j with
   | 0 => simp at h2; subst h2; simp [h1, List.getD]; exact .str s.data.toList
   | j + 1 => simp at h2)
 rw [hl] at key
 exact key
end
section
open Go Go.RowKit
variable {J : Inv} {k0 : Lens} {E : Env J k0} {P : Program} {T : TypeId → Option TI} {n : Nat} {t : Nat → V} {b : List (List C)} {r : List (Option RowO)} {m : List (List (DV × DV))} {ops : Array Oper} {l : List Oper} {K : St → Prop}
  {i : Nat} {ty : TypeId} {pos : String} {after : Array Edge} {v' v : V}
theorem S.pureE (hT : TabOk P T) (hZ : ZeroOk T) {op : Op} {ok : Bool} {v0 v1 v : V} (he : evP T n ⟨t, b, r, m⟩ op = some (ok, v0)) (hok : ok = true) (hv : v0 = v1) (hf : forceV v1 = some v)
  (k : WL E P n ops l K ⟨upd t i v, b, r, m⟩) : WL E P n ops (⟨some i, op, ty, pos, after, none⟩ :: l) K ⟨t, b, r, m⟩ :=
 S.pure hT hZ he hok (hv ▸ hf) k
theorem D.pureE (hT : TabOk P T) (hZ : ZeroOk T) {op : Op} {ok : Bool} {v0 v1 v : V} (hcl : Nat.blt (cls op) 2 = true) (he : evP T n ⟨t, b, r, m⟩ op = some (ok, v0)) (hok : ok = true) (hv : v0 = v1) (hf : forceV v1 = some v)
  (k : WD E P n ops l K ⟨upd t i v, b, r, m⟩) : WD E P n ops (⟨some i, op, ty, pos, after, none⟩ :: l) K ⟨t, b, r, m⟩ :=
 D.pure hT hZ hcl he hok (hv ▸ hf) k
theorem D.pureEG (hT : TabOk P T) (hZ : ZeroOk T) {op : Op} {ok c : Bool} {v0 v1 v : V} {j : Nat} {want : Bool} (hcl : Nat.blt (cls op) 2 = true) (hg : guardV n ops t j want = some c)
  (he : evP T n ⟨bare t, b, r, m⟩ op = some (ok, v0)) (htg : allT c (tagsO t op.operands.toList)) (hok : c = true → ok = true) (hv : v0 = v1) (hf : forceV v1 = some v)
  (k : WD E P n ops l K ⟨upd t i (.when c v), b, r, m⟩) : WD E P n ops (⟨some i, op, ty, pos, after, some (j, want)⟩ :: l) K ⟨t, b, r, m⟩ :=
 D.pureG hT hZ hcl hg he htg hok (hv ▸ hf) k
theorem sl_okT {a b : Bool} {l h n : Int} (ha : a = true) (hb : b = true) (h0 : 0 ≤ l) (h1 : l ≤ h) (h2 : h ≤ n) : (a && (b && (decide (0 ≤ l) && decide (l ≤ h) && decide (h ≤ n)))) = true := by simp [ha, hb, h0, h1, h2]
theorem LeV.of_force {a v b : V} (hf : forceV a = some v) (h : v = b) : LeV a b := by
 obtain rfl := forceV_eq hf
 exact h ▸ LeV.refl _
@[simp] theorem constC_int (k : IntKind) (n : Int) : constC (.int k n) = .d (.int k n) := rfl
@[simp] theorem constC_bool (b : Bool) : constC (.bool b) = .d (.bool b) := rfl
@[simp] theorem constC_str (s : ByteArray) : constC (.string s) = .d (.str s.data.toList) := rfl
theorem dec_i64 {i : Nat} (h : ((i : Int) == 0) = false) (hi : i ≤ 4611686018427387904) : V.one (.d (.int .i64 (IntKind.i64.wrap ((i : Int) - 1)))) = V.one (.d (.int .i64 ((i - 1 : Nat) : Int))) := by
 have h0 : 1 ≤ i := by simp at h; omega
 rw [wrap_i64 (by omega) (by omega), show ((i : Int) - 1) = ((i - 1 : Nat) : Int) by omega]
theorem row_at {α : Type} {f : α → List D} {l : List α} (d : α) {i : Nat} (h : i < l.length) : V.one (.eptr ((l.map f).getD ((i : Int)).toNat [])) = V.one (.eptr (f (l.getD i d))) := by
 simp [List.getD, List.getElem?_eq_getElem h]
theorem row_ok {α : Type} {f : α → List D} {l : List α} {i : Nat} (h : i < l.length) : (decide (0 ≤ (i : Int)) && decide ((i : Int) < ((l.map f).length : Int))) = true := by simp; omega
theorem str_ok {l : List UInt8} {i : Nat} (h : i < l.length) : (decide (0 ≤ (i : Int)) && decide ((i : Int) < (l.length : Int))) = true := by simp; omega
theorem row_lt {α : Type} {f : α → List D} {l : List α} {i : Nat} (h : decide ((i : Int) < ((l.map f).length : Int)) = true) : i < l.length := by simpa using h
theorem row_ge {α : Type} {f : α → List D} {l : List α} {i : Nat} (h : decide ((i : Int) < ((l.map f).length : Int)) = false) : l.length ≤ i := by simpa using h
end
end Go.Proofs.YtpelfildfidnbaaGreatDoor
