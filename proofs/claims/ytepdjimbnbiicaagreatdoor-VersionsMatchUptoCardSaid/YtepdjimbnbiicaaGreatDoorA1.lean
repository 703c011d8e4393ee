/- The abstract layer, part 1: values as plain trees, and what it is for a world to hold them. -/
import Derived.Below
import Derived.Orders
import Derived.Laws.CopyRow
import Derived.Laws.Cells
import Derived.Deep.Draws
set_option linter.unusedVariables false
namespace Go.Proofs.YtepdjimbnbiicaaGreatDoor
open Go Go.RowKit

/-- Pure data: no place in memory is told. -/
inductive D where
  | int (k : IntKind) (n : Int)
  | bool (b : Bool)
  | str (s : List UInt8)
  | vec (sz : Nat) (xs : List (List D))
  | nilsl
  | nilmap
  | nilptr
  | fn (f : FuncId)
  | err (isNil : Bool)
  deriving Inhabited

/-- A cell. -/
inductive C where
  | d (x : D)
  | ptr (l off : Nat)
  | eptr (cells : List D)
  | row (r ver off n : Nat)
  | rptr (r ver off : Nat)
  | map (m : Nat)
  | clo (f : FuncId) (caps : List C)
  | junk
  deriving Inhabited

/-- What a temporary holds. -/
inductive V where
  | one (c : C)
  | agg (cs : List C)
  | tup (vs : List V)
  | when (b : Bool) (v : V)
  | junk
  deriving Inhabited

/-- What the world holds of pure data: the blocks in 'im' are never written again. -/
inductive RD (im : Nat → Prop) (w : World) : D → Value → Prop where
  | int (k : IntKind) (n : Int) : RD im w (.int k n) (.int k n)
  | bool (b : Bool) : RD im w (.bool b) (.bool b)
  | str (s : List UInt8) : RD im w (.str s) (.string ⟨s.toArray⟩)
  | nilsl : RD im w .nilsl (.slice none 0 0)
  | nilmap : RD im w .nilmap (.map none)
  | nilptr : RD im w .nilptr (.pointer none)
  | empty (sz : Nat) (A : Option Addr) (cap : Nat) : RD im w (.vec sz []) (.slice A 0 cap)
  | vec (sz : Nat) (xs : List (List D)) (b o cap : Nat) (u : Nat → Nat → Value) (hne : xs ≠ []) (hc : xs.length ≤ cap) (hb : im b) (hsz : ∀ x ∈ xs, x.length = sz)
      (hcell : ∀ (i j : Nat) (x : List D) (d : D), xs[i]? = some x → x[j]? = some d → w.cell? ⟨b, o + i * sz + j, none⟩ = some (u i j))
      (hrd : ∀ (i j : Nat) (x : List D) (d : D), xs[i]? = some x → x[j]? = some d → RD im w d (u i j)) :
      RD im w (.vec sz xs) (.slice (some ⟨b, o, none⟩) xs.length cap)
  | fn (f : FuncId) : RD im w (.fn f) (.func (.func f) #[] #[])
  | errNil : RD im w (.err true) .nilIface
  | errSome (t : TypeId) (x : Value) : RD im w (.err false) (.iface t x)

/-- A place of the call's own. -/
inductive Loc where
  | b (l : Nat) | r (l : Nat) | m (l : Nat)
  deriving DecidableEq

/-- The ghost: which blocks stay as they are; where the call's own things lie; a row's first cell and its room. -/
structure Gh where
  im : Nat → Prop
  at_ : Loc → Nat
  off : Nat → Nat
  cap : Nat → Nat

/-- A row of the call's own. al: has it a block? -/
structure RowO where
  al : Bool
  ver : Nat
  sz : Nat
  xs : List (List D)

/-- What is told of the call's own things: how many boxes and maps, and the rows' forms. -/
structure Sh where
  L : Nat
  rows : List (Option (Bool × Nat × Nat × Nat))
  M : Nat

/-- What the world holds of a cell. -/
inductive RC (g : Gh) (h : Sh) (w : World) : C → Value → Prop where
  | d (x : D) (v : Value) (hx : RD g.im w x v) : RC g h w (.d x) v
  | ptr (l off : Nat) (hl : l < h.L) : RC g h w (.ptr l off) (.pointer (some ⟨g.at_ (.b l), off, none⟩))
  | eptr (cells : List D) (b o : Nat) (u : Nat → Value) (hb : g.im b)
      (hcell : ∀ (j : Nat) (d : D), cells[j]? = some d → w.cell? ⟨b, o + j, none⟩ = some (u j)) (hrd : ∀ (j : Nat) (d : D), cells[j]? = some d → RD g.im w d (u j)) :
      RC g h w (.eptr cells) (.pointer (some ⟨b, o, none⟩))
  | row (r ver off n : Nat) (v : Value) (hv : v.oneCell' = true) (hr : r < h.rows.length)
      (hx : ∀ al ver' sz len, h.rows[r]? = some (some (al, ver', sz, len)) → ver ≤ ver' ∧ (ver = ver' → off + n ≤ len ∧
        v = if al then .slice (some ⟨g.at_ (.r r), g.off r + off * sz, none⟩) n (g.cap r - off) else .slice none 0 0)) :
      RC g h w (.row r ver off n) v
  | rptr (r ver off : Nat) (v : Value) (hv : v.oneCell' = true) (hr : r < h.rows.length)
      (hx : ∀ al ver' sz len, h.rows[r]? = some (some (al, ver', sz, len)) → ver ≤ ver' ∧ (ver = ver' → al = true ∧
        v = .pointer (some ⟨g.at_ (.r r), g.off r + off, none⟩))) :
      RC g h w (.rptr r ver off) v
  | map (m : Nat) (hm : m < h.M) : RC g h w (.map m) (.map (some (g.at_ (.m m))))
  | clo (f : FuncId) (caps : List C) (vs : List Value) (hl : vs.length = caps.length) (hx : ∀ (i : Nat) (c : C) (v : Value), caps[i]? = some c → vs[i]? = some v → RC g h w c v) :
      RC g h w (.clo f caps) (.func (.func f) #[] vs.toArray)
  | junk (v : Value) (hv : v.oneCell' = true) : RC g h w .junk v

inductive RV (g : Gh) (h : Sh) (w : World) : V → Value → Prop where
  | one (c : C) (v : Value) (hx : RC g h w c v) : RV g h w (.one c) v
  | agg (cs : List C) (vs : List Value) (hl : vs.length = cs.length) (hx : ∀ (i : Nat) (c : C) (v : Value), cs[i]? = some c → vs[i]? = some v → RC g h w c v) :
      RV g h w (.agg cs) (.agg vs.toArray)
  | tup (us : List V) (vs : List Value) (hl : vs.length = us.length) (hx : ∀ (i : Nat) (u : V) (v : Value), us[i]? = some u → vs[i]? = some v → RV g h w u v) :
      RV g h w (.tup us) (.tuple vs.toArray)
  | whenT (u : V) (v : Value) (hx : RV g h w u v) : RV g h w (.when true u) v
  | whenF (u : V) : RV g h w (.when false u) undef
  | junk (v : Value) : RV g h w .junk v

theorem RD.one {im : Nat → Prop} {w : World} {x : D} {v : Value} (h : RD im w x v) : v.oneCell' = true := by cases h <;> rfl
theorem RC.one {g : Gh} {h : Sh} {w : World} {c : C} {v : Value} (hx : RC g h w c v) : v.oneCell' = true := by
  cases hx with
  | d x v h => exact h.one
  | junk v h => exact h
  | row _ _ _ _ _ h => exact h
  | rptr _ _ _ _ h => exact h
  | _ => rfl

/-- From one world to a later one: what is pure stays. -/
theorem RD.mono {im im' : Nat → Prop} {w w' : World} (hi : ∀ b, im b → im' b) (hw : ∀ b, im b → w'.heap[b]? = w.heap[b]?) {x : D} {v : Value} (h : RD im w x v) : RD im' w' x v := by
  induction h with
  | int => exact .int _ _
  | bool => exact .bool _
  | str => exact .str _
  | nilsl => exact .nilsl
  | nilmap => exact .nilmap
  | nilptr => exact .nilptr
  | empty => exact .empty _ _ _
  | vec sz xs b o cap u hne hc hb hsz hcell hrd ih =>
    refine .vec sz xs b o cap u hne hc (hi b hb) hsz (fun i j x d h1 h2 => ?_) (fun i j x d h1 h2 => ih i j x d h1 h2)
    rw [World.cell?_of_block (w := w) (hw b hb)]
    exact hcell i j x d h1 h2
  | fn => exact .fn _
  | errNil => exact .errNil
  | errSome => exact .errSome _ _

/-- What is told stays, from one state to a later one. -/
structure Ext (g : Gh) (h : Sh) (w : World) (g' : Gh) (h' : Sh) (w' : World) : Prop where
  im : ∀ b, g.im b → g'.im b
  same : ∀ b, g.im b → w'.heap[b]? = w.heap[b]?
  lenL : h.L ≤ h'.L
  lenM : h.M ≤ h'.M
  lenR : h.rows.length ≤ h'.rows.length
  atB : ∀ l, l < h.L → g'.at_ (.b l) = g.at_ (.b l)
  atM : ∀ l, l < h.M → g'.at_ (.m l) = g.at_ (.m l)
  rows : ∀ r al ver sz len, r < h.rows.length → h'.rows[r]? = some (some (al, ver, sz, len)) → ∃ al0 ver0 sz0 len0, h.rows[r]? = some (some (al0, ver0, sz0, len0)) ∧ ver0 ≤ ver ∧
    (ver0 = ver → al0 = al ∧ sz0 = sz ∧ len0 ≤ len ∧ g'.at_ (.r r) = g.at_ (.r r) ∧ g'.off r = g.off r ∧ g'.cap r = g.cap r)

theorem Ext.refl (g : Gh) (h : Sh) (w : World) : Ext g h w g h w :=
  ⟨fun _ h => h, fun _ _ => rfl, Nat.le_refl _, Nat.le_refl _, Nat.le_refl _, fun _ _ => rfl, fun _ _ => rfl,
    fun _ al ver sz len _ h => ⟨al, ver, sz, len, h, Nat.le_refl _, fun _ => ⟨rfl, rfl, Nat.le_refl _, rfl, rfl, rfl⟩⟩⟩

/-- The ghost's places as they were, the world's pure blocks as they were. -/
theorem Ext.of {g g' : Gh} {h : Sh} {w w' : World} (hi : ∀ b, g.im b → g'.im b) (hs : ∀ b, g.im b → w'.heap[b]? = w.heap[b]?) (ha : g'.at_ = g.at_) (ho : g'.off = g.off) (hc : g'.cap = g.cap) :
    Ext g h w g' h w' :=
  ⟨hi, hs, Nat.le_refl _, Nat.le_refl _, Nat.le_refl _, fun _ _ => by rw [ha], fun _ _ => by rw [ha],
    fun _ al ver sz len _ h => ⟨al, ver, sz, len, h, Nat.le_refl _, fun _ => ⟨rfl, rfl, Nat.le_refl _, by rw [ha], by rw [ho], by rw [hc]⟩⟩⟩

theorem RC.mono {g g' : Gh} {h h' : Sh} {w w' : World} (e : Ext g h w g' h' w') {c : C} {v : Value} (hx : RC g h w c v) : RC g' h' w' c v := by
  induction hx with
  | d x v hx => exact .d _ _ (hx.mono e.im e.same)
  | ptr l off hl => rw [← e.atB l hl]; exact .ptr _ _ (Nat.lt_of_lt_of_le hl e.lenL)
  | eptr cells b o u hb hcell hrd =>
    refine .eptr cells b o u (e.im b hb) (fun j d h1 => ?_) (fun j d h1 => (hrd j d h1).mono e.im e.same)
    rw [World.cell?_of_block (w := w) (e.same b hb)]
    exact hcell j d h1
  | row r ver off n v hv hr hx =>
    refine .row r ver off n v hv (Nat.lt_of_lt_of_le hr e.lenR) (fun al ver' sz len h1 => ?_)
    obtain ⟨al0, ver0, sz0, len0, h2, h3, h4⟩ := e.rows r al ver' sz len hr h1
    obtain ⟨h5, h6⟩ := hx al0 ver0 sz0 len0 h2
    refine ⟨Nat.le_trans h5 h3, fun he => ?_⟩
    have h7 : ver0 = ver' := by omega
    obtain ⟨h8, h9, h10, h11, h12, h13⟩ := h4 h7
    obtain ⟨h14, h15⟩ := h6 (by omega)
    exact ⟨by omega, by rw [h11, h12, h13, ← h8, ← h9]; exact h15⟩
  | rptr r ver off v hv hr hx =>
    refine .rptr r ver off v hv (Nat.lt_of_lt_of_le hr e.lenR) (fun al ver' sz len h1 => ?_)
    obtain ⟨al0, ver0, sz0, len0, h2, h3, h4⟩ := e.rows r al ver' sz len hr h1
    obtain ⟨h5, h6⟩ := hx al0 ver0 sz0 len0 h2
    refine ⟨Nat.le_trans h5 h3, fun he => ?_⟩
    have h7 : ver0 = ver' := by omega
    obtain ⟨h8, h9, h10, h11, h12, h13⟩ := h4 h7
    obtain ⟨h14, h15⟩ := h6 (by omega)
    exact ⟨by rw [← h8]; exact h14, by rw [h11, h12]; exact h15⟩
  | map m hm => rw [← e.atM m hm]; exact .map _ (Nat.lt_of_lt_of_le hm e.lenM)
  | clo f caps vs hl h ih => exact .clo f caps vs hl ih
  | junk v h => exact .junk v h

theorem RV.mono {g g' : Gh} {h h' : Sh} {w w' : World} (e : Ext g h w g' h' w') {u : V} {v : Value} (hx : RV g h w u v) : RV g' h' w' u v := by
  induction hx with
  | one c v h => exact .one _ _ (h.mono e)
  | agg cs vs hl h => exact .agg cs vs hl (fun i c v h1 h2 => (h i c v h1 h2).mono e)
  | tup us vs hl h ih => exact .tup us vs hl ih
  | whenT u v h ih => exact .whenT _ _ ih
  | whenF u => exact .whenF _
  | junk v => exact .junk v

/-- A map's key, or what it holds. -/
inductive DV where
  | one (d : D) | agg (ds : List D)

def DV.v : DV → V
  | .one d => .one (.d d)
  | .agg ds => .agg (ds.map .d)

/-- An abstract state: the temporaries; the call's own boxes, rows and maps. -/
structure St where
  t : Nat → V
  b : List (List C)
  r : List (Option RowO)
  m : List (List (DV × DV))

def RowO.form (o : RowO) : Bool × Nat × Nat × Nat := (o.al, o.ver, o.sz, o.xs.length)
def St.sh (s : St) : Sh := ⟨s.b.length, s.r.map (·.map RowO.form), s.m.length⟩
def St.live (s : St) : Loc → Prop
  | .b l => l < s.b.length
  | .r l => ∃ o, s.r[l]? = some (some o) ∧ o.al = true
  | .m l => l < s.m.length

structure Inv where
  I : World → Prop
  st : ∀ w w' : World, I w → Below w.heap.size w w' → I w'
structure Env (J : Inv) where
  w0 : World
  im0 : Nat → Prop
  hI : J.I w0

/-- What the world holds of the call's own things. -/
structure Heap (g : Gh) (s : St) (w : World) : Prop where
  lt : ∀ x, s.live x → g.at_ x < w.heap.size
  new : ∀ x, s.live x → ¬ g.im (g.at_ x)
  inj : ∀ x y, s.live x → s.live y → g.at_ x = g.at_ y → x = y
  box : ∀ (l : Nat) (cs : List C), s.b[l]? = some cs → ∃ vs t, w.heap[g.at_ (.b l)]? = some (.cells vs t (0, 0)) ∧ vs.size = cs.length ∧
    ∀ (j : Nat) (c : C) (v : Value), cs[j]? = some c → vs[j]? = some v → RC g s.sh w c v
  row : ∀ (l : Nat) (o : RowO), s.r[l]? = some (some o) → if o.al then ∃ vs t, w.heap[g.at_ (.r l)]? = some (.cells vs t (0, 0)) ∧ vs.size = g.off l + g.cap l * o.sz ∧ o.xs.length ≤ g.cap l ∧
      (∀ x ∈ o.xs, x.length = o.sz) ∧ (∀ v ∈ vs, v.oneCell' = true) ∧
      (∀ (i j : Nat) (x : List D) (d : D) (v : Value), o.xs[i]? = some x → x[j]? = some d → vs[g.off l + i * o.sz + j]? = some v → RD g.im w d v)
    else o.xs = []
  map : ∀ (l : Nat) (es : List (DV × DV)), s.m[l]? = some es → ∃ arr clock, w.heap[g.at_ (.m l)]? = some (.map arr clock) ∧ arr.size = es.length ∧
    ∀ (i : Nat) (x : DV × DV) (e : MapEntry), es[i]? = some x → arr[i]? = some e → RV g s.sh w x.1.v e.key ∧ RV g s.sh w x.2.v e.val

/-- From one world to another in which the own things' blocks are as they were. -/
theorem Heap.mono {g g' : Gh} {s : St} {w w' : World} (e : Ext g s.sh w g' s.sh w') (hs : w.heap.size ≤ w'.heap.size) (hi : ∀ x, s.live x → ¬ g'.im (g.at_ x))
    (ha : g'.at_ = g.at_) (ho : g'.off = g.off) (hc : g'.cap = g.cap)
    (hw : ∀ x, s.live x → w'.heap[g.at_ x]? = w.heap[g.at_ x]?) (h : Heap g s w) : Heap g' s w' := by
  refine ⟨fun x hx => by rw [ha]; exact Nat.lt_of_lt_of_le (h.lt x hx) hs, fun x hx => by rw [ha]; exact hi x hx, fun x y hx hy he => h.inj x y hx hy (by rwa [ha] at he), ?_, ?_, ?_⟩
  · intro l cs hl
    obtain ⟨vs, t, h1, h2, h3⟩ := h.box l cs hl
    refine ⟨vs, t, by rw [ha, hw (.b l) (List.getElem?_eq_some_iff.1 hl).1]; exact h1, h2, fun j c v hj hv => (h3 j c v hj hv).mono e⟩
  · intro l o hl
    have h1 := h.row l o hl
    by_cases hal : o.al = true
    · rw [if_pos hal] at h1 ⊢
      obtain ⟨vs, t, h1, h2, h3, h4, h5, h6⟩ := h1
      rw [ha, ho, hc]
      exact ⟨vs, t, by rw [hw (.r l) ⟨o, hl, hal⟩]; exact h1, h2, h3, h4, h5, fun i j x d v a b c => (h6 i j x d v a b c).mono e.im e.same⟩
    · rw [if_neg hal] at h1 ⊢; exact h1
  · intro l es hl
    obtain ⟨arr, clock, h1, h2, h3⟩ := h.map l es hl
    refine ⟨arr, clock, by rw [ha, hw (.m l) (List.getElem?_eq_some_iff.1 hl).1]; exact h1, h2, fun i x y hx hy => ⟨(h3 i x y hx hy).1.mono e, (h3 i x y hx hy).2.mono e⟩⟩

/-- An abstract state and a state of the machine. -/
structure Rel {J : Inv} (E : Env J) (n : Nat) (g : Gh) (s : St) (a : Act) (w : World) : Prop where
  below : Below E.w0.heap.size E.w0 w
  im0 : ∀ b, E.im0 b → g.im b
  imlt : ∀ b, g.im b → b < w.heap.size
  imold : ∀ b, g.im b → E.im0 b ∨ E.w0.heap.size ≤ b
  own : ∀ x, s.live x → E.w0.heap.size ≤ g.at_ x
  heap : Heap g s w
  size : a.tmps.size = n
  defers : a.defers = []
  tmps : ∀ i, i < n → RV g s.sh w (s.t i) (a.tmps.getD i undef)

def upd (t : Nat → V) (i : Nat) (v : V) : Nat → V := fun j => bif Nat.beq i j then v else t j
theorem upd_same (t : Nat → V) (i : Nat) (v : V) : upd t i v i = v := by simp [upd]
theorem upd_ne (t : Nat → V) {i j : Nat} (v : V) (h : i ≠ j) : upd t i v j = t j := by
  have : Nat.beq i j = false := by simpa [← Bool.not_eq_true] using h
  simp [upd, this]
def St.set (s : St) (d : Option Nat) (v : V) : St := match d with | some d => ⟨upd s.t d v, s.b, s.r, s.m⟩ | none => s
theorem St.set_b (s : St) (d : Option Nat) (v : V) : (s.set d v).b = s.b := by cases d <;> rfl
theorem St.set_sh (s : St) (d : Option Nat) (v : V) : (s.set d v).sh = s.sh := by cases d <;> rfl
theorem St.set_live (s : St) (d : Option Nat) (v : V) : (s.set d v).live = s.live := by cases d <;> (funext x; cases x <;> rfl)

theorem Heap.set {g : Gh} {s : St} {w : World} (h : Heap g s w) (d : Option Nat) (v : V) : Heap g (s.set d v) w := by
  cases d with
  | none => exact h
  | some d => exact ⟨fun x hx => h.lt x (by cases x <;> exact hx), fun x hx => h.new x (by cases x <;> exact hx), fun x y hx hy => h.inj x y (by cases x <;> exact hx) (by cases y <;> exact hy), h.box, h.row, h.map⟩

theorem tmps_put {a : Act} {n : Nat} (hs : a.tmps.size = n) (d : Option Nat) (v : Value) (i : Nat) (hi : i < n) :
    (a.put d v).tmps.getD i undef = if d = some i then v else a.tmps.getD i undef := by
  cases d with
  | none => simp [Act.put]
  | some d =>
    by_cases hd : d = i
    · subst hd; simp [Act.put, Array.getD_eq_getD_getElem?, hs, hi]
    · simp [Act.put, Array.getD_eq_getD_getElem?, hd]

/-- Behind a step that leaves v (told as u) in its temporary, the own things told as they were. -/
theorem Rel.put {J : Inv} {E : Env J} {n : Nat} {g g' : Gh} {s : St} {a : Act} {w w' : World} (r : Rel E n g s a w) (d : Option Nat) {u : V} {v : Value}
    (hb : Below E.w0.heap.size E.w0 w') (e : Ext g s.sh w g' s.sh w') (h1 : ∀ b, g'.im b → b < w'.heap.size) (h2 : ∀ b, g'.im b → E.im0 b ∨ E.w0.heap.size ≤ b)
    (ho : ∀ x, s.live x → E.w0.heap.size ≤ g'.at_ x) (hx : Heap g' s w') (hv : RV g' s.sh w' u v) : Rel E n g' (s.set d u) (a.put d v) w' := by
  refine ⟨hb, fun b h => e.im b (r.im0 b h), h1, h2, fun x hx => ho x (by rwa [St.set_live] at hx), hx.set d u, ?_, ?_, fun i hi => ?_⟩
  · cases d <;> simp [Act.put, r.size]
  · cases d <;> exact r.defers
  · rw [St.set_sh, tmps_put r.size d v i hi]
    cases d with
    | none => rw [if_neg (by simp)]; exact (r.tmps i hi).mono e
    | some d =>
      show RV _ _ _ (upd s.t d u i) _
      by_cases hd : d = i
      · subst hd; rw [upd_same]; simpa using hv
      · rw [upd_ne _ _ hd, if_neg (by simpa using hd)]; exact (r.tmps i hi).mono e

theorem Rel.put_same {J : Inv} {E : Env J} {n : Nat} {g : Gh} {s : St} {a : Act} {w : World} (r : Rel E n g s a w) (d : Option Nat) {u : V} {v : Value}
    (hv : RV g s.sh w u v) : Rel E n g (s.set d u) (a.put d v) w :=
  r.put d r.below (.refl _ _ _) r.imlt r.imold r.own r.heap hv

/-- The world has drawn an order. -/
theorem Rel.drew {J : Inv} {E : Env J} {n : Nat} {g : Gh} {s : St} {a : Act} {w : World} (r : Rel E n g s a w) (k : Nat) : Rel E n g s a { w with drawn := k } := by
  have e : Ext g s.sh w g s.sh { w with drawn := k } := .of (fun _ h => h) (fun _ _ => rfl) rfl rfl rfl
  exact ⟨⟨r.below.os, r.below.tape, r.below.output, r.below.size, r.below.block⟩, r.im0, r.imlt, r.imold, r.own,
    r.heap.mono e (Nat.le_refl _) r.heap.new rfl rfl rfl (fun _ _ => rfl), r.size, r.defers, fun i hi => (r.tmps i hi).mono e⟩

/-- New pure blocks, everything that was there as it was. -/
theorem Rel.later {J : Inv} {E : Env J} {n : Nat} {g : Gh} {s : St} {a : Act} {w w' : World} (r : Rel E n g s a w) (im' : Nat → Prop) (hb : Below w.heap.size w w')
    (h0 : ∀ b, g.im b → im' b) (h1 : ∀ b, im' b → b < w'.heap.size) (h2 : ∀ b, im' b → g.im b ∨ w.heap.size ≤ b) : Rel E n { g with im := im' } s a w' := by
  have e : Ext g s.sh w { g with im := im' } s.sh w' := .of h0 (fun b h => hb.block b (r.imlt b h)) rfl rfl rfl
  have hB := r.below.size
  refine ⟨⟨hb.os.trans r.below.os, hb.tape.trans r.below.tape, hb.output.trans r.below.output, Nat.le_trans hB hb.size, fun k hk => (hb.block k (by omega)).trans (r.below.block k hk)⟩,
    fun b h => h0 b (r.im0 b h), h1, fun b h => ?_, r.own, ?_, r.size, r.defers, fun i hi => (r.tmps i hi).mono e⟩
  · rcases h2 b h with h | h
    · exact r.imold b h
    · exact .inr (by omega)
  · refine r.heap.mono e hb.size (fun x hx hi => ?_) rfl rfl rfl (fun x hx => hb.block _ (r.heap.lt x hx))
    rcases h2 _ hi with h | h
    · exact r.heap.new x hx h
    · exact absurd (r.heap.lt x hx) (by omega)

end Go.Proofs.YtepdjimbnbiicaaGreatDoor
