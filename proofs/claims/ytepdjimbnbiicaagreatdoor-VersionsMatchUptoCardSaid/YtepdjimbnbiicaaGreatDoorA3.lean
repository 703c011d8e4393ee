/- The abstract layer, part 3: operations that only compute. -/
import Derived.Test.YtepdjimbnbiicaaGreatDoorA2
import Derived.Laws.Entries
import Derived.Laws.Strings
import Derived.Laws.StructEq
import Derived.Laws.Small
set_option linter.unusedVariables false
set_option linter.unusedSimpArgs false
set_option linter.unnecessarySimpa false
namespace Go.Proofs.YtepdjimbnbiicaaGreatDoor
open Go Go.RowKit

/-- What is known of a type. -/
structure TI where
  desc : TypeDesc
  size : Nat
  zero : Value
  bytes : Nat
  plain : Bool := false

def TiOk (P : Program) (t : TypeId) (i : TI) : Prop :=
  P.underlying t = some i.desc ∧ ∃ info, P.info? t = some info ∧ info.size = i.size ∧ info.zero = some i.zero ∧ info.bytes = i.bytes ∧ (i.plain = true → P.eqGuardType P.depth t = false ∧ P.stoodInHeld t = false)
def TabOk (P : Program) (T : TypeId → Option TI) : Prop := ∀ t i, T t = some i → TiOk P t i

def tabFind : List (Nat × TI) → TypeId → Option TI
  | [], _ => none
  | (k, i) :: l, t => bif Nat.beq k t then some i else tabFind l t
def AllOk (P : Program) : List (Nat × TI) → Prop
  | [] => True
  | (k, i) :: l => TiOk P k i ∧ AllOk P l
theorem tabOk_of {P : Program} : ∀ {l : List (Nat × TI)}, AllOk P l → TabOk P (tabFind l)
  | [], _, t, i, h => by cases h
  | (k, j) :: l, h, t, i, hf => by
    unfold tabFind at hf
    by_cases hk : Nat.beq k t = true
    · rw [hk] at hf
      obtain rfl : j = i := by simpa using hf
      obtain rfl : k = t := by simpa using hk
      exact h.1
    · have : Nat.beq k t = false := by cases hb : Nat.beq k t <;> simp_all
      rw [this] at hf
      exact tabOk_of h.2 t i (by simpa using hf)

def isAggD : TypeDesc → Bool
  | .struct _ | .array _ _ => true
  | _ => false

section
variable {P : Program} {T : TypeId → Option TI} {w : World}

theorem run_underlying' (hT : TabOk P T) {t : TypeId} {i : TI} (h : T t = some i) : (underlying t).run P w = .ok i.desc w := by
  simp [underlying, (hT t i h).1]
theorem run_sizeOf' (hT : TabOk P T) {t : TypeId} {i : TI} (h : T t = some i) : (sizeOf t).run P w = .ok i.size w := by
  obtain ⟨_, info, h1, h2, _⟩ := hT t i h
  simp [sizeOf, typeInfo, h1, h2]
theorem run_zeroValue' (hT : TabOk P T) {t : TypeId} {i : TI} (h : T t = some i) : (zeroValue t).run P w = .ok i.zero w := by
  obtain ⟨_, info, h1, _, h2, _⟩ := hT t i h
  simp [zeroValue, typeInfo, h1, h2]
theorem run_isAgg' (hT : TabOk P T) {t : TypeId} {i : TI} (h : T t = some i) : (isAgg t).run P w = .ok (isAggD i.desc) w := by
  simp only [isAgg, Sem.run_bind, run_underlying' hT h, Result.andThen_ok, isAggD]
  cases i.desc <;> rfl
end

/-! ### What an operation yields -/
def eqCell (t : TypeDesc) (a b : C) : Option Bool :=
  match t, a, b with
  | .int _, .d (.int k x), .d (.int k' y) => if k = k' then some (x == y) else none
  | .bool, .d (.bool x), .d (.bool y) => some (x == y)
  | .string, .d (.str x), .d (.str y) => some (x == y)
  | _, _, _ => none

def andO (a b : Option Bool) : Option Bool :=
  match a, b with
  | some x, some y => some (x && y)
  | _, _ => none

def eqF (T : TypeId → Option TI) (rec : TypeId → List C → List C → Option Bool) : List Field → List C → List C → Option Bool
  | [], _, _ => some true
  | f :: fs, xs, ys =>
    if f.name == "_" then none else
    match T f.type with
    | some i => andO (if isAggD i.desc then rec f.type ((xs.drop f.offset).take i.size) ((ys.drop f.offset).take i.size)
        else match xs[f.offset]?, ys[f.offset]? with
          | some a, some b => eqCell i.desc a b
          | _, _ => none) (eqF T rec fs xs ys)
    | none => none
def eqS (T : TypeId → Option TI) : Nat → TypeId → List C → List C → Option Bool
  | 0, _, _, _ => none
  | d + 1, t, xs, ys =>
    match T t with
    | some i => match i.plain, i.desc with
      | true, .struct fs => eqF T (eqS T d) fs.toList xs ys
      | _, _ => none
    | none => none

theorem eqCell_ok {P : Program} {g : Gh} {h : Sh} {w : World} {t : TypeId} {td : TypeDesc} {a b : C} {u v : Value} {r : Bool} {d : Nat}
    (ht : P.underlying t = some td) (ha : RC g h w a u) (hb : RC g h w b v) (he : eqCell td a b = some r) : (Op.equalIn (d + 1) t u v).run P w = .ok r w := by
  unfold eqCell at he
  split at he
  · cases ha with | d _ _ ha => cases ha with | int => cases hb with | d _ _ hb => cases hb with | int =>
    split at he
    · rename_i hk; subst hk; obtain rfl : _ = r := by simpa using he
      exact run_equalIn_int w d t _ _ _ _ ht
    · cases he
  · cases ha with | d _ _ ha => cases ha with | bool => cases hb with | d _ _ hb => cases hb with | bool =>
    obtain rfl : _ = r := by simpa using he
    exact run_equalIn_bool w d t _ _ ht
  · cases ha with | d _ _ ha => cases ha with | str => cases hb with | d _ _ hb => cases hb with | str =>
    obtain rfl : _ = r := by simpa using he
    rw [run_equalIn_string w d t _ _ ht]; simp
  · cases he

/-- A part of an aggregate. -/
def partC (i : TI) (cs : List C) (off : Nat) : Option V :=
  if isAggD i.desc then (if off + i.size ≤ cs.length then some (.agg ((cs.drop off).take i.size)) else none) else (cs[off]?).map .one

theorem aggs_sub {g : Gh} {h : Sh} {w : World} {cs : List C} {vs : List Value} (hl : vs.length = cs.length)
    (hx : ∀ (i : Nat) (c : C) (v : Value), cs[i]? = some c → vs[i]? = some v → RC g h w c v) (off n : Nat) :
    RV g h w (.agg ((cs.drop off).take n)) (.agg ((vs.drop off).take n).toArray) := by
  refine .agg _ _ (by simp [hl]) (fun i c v h1 h2 => ?_)
  rw [List.getElem?_take] at h1 h2
  split at h1
  · rename_i hi
    rw [if_pos hi, List.getElem?_drop] at h2
    rw [List.getElem?_drop] at h1
    exact hx _ _ _ h1 h2
  · cases h1

theorem extract_toArray (vs : List Value) (off n : Nat) : (vs.toArray.extract off (off + n)) = ((vs.drop off).take n).toArray := by
  simp [List.extract_toArray, List.extract_eq_take_drop]

theorem partC_ok {P : Program} {T : TypeId → Option TI} (hT : TabOk P T) {g : Gh} {h : Sh} {w : World} {cs : List C} {vs : List Value} (hl : vs.length = cs.length)
    (hx : ∀ (i : Nat) (c : C) (v : Value), cs[i]? = some c → vs[i]? = some v → RC g h w c v) {t : TypeId} {i : TI} (ht : T t = some i) {off : Nat} {r : V}
    (hp : partC i cs off = some r) : ∃ z, (part t vs.toArray off).run P w = .ok z w ∧ RV g h w r z := by
  unfold partC at hp
  unfold part
  simp only [Sem.run_bind, run_isAgg' hT ht, Result.andThen_ok]
  split at hp
  · rename_i ha
    split at hp
    · obtain rfl : _ = r := by simpa using hp
      rw [if_pos ha]
      simp only [Sem.run_bind, run_sizeOf' hT ht, Result.andThen_ok, Sem.run_pure]
      exact ⟨_, rfl, by rw [extract_toArray]; exact aggs_sub hl hx off i.size⟩
    · cases hp
  · rename_i ha
    rw [if_neg ha]
    obtain ⟨c, hc, rfl⟩ : ∃ c, cs[off]? = some c ∧ V.one c = r := by simpa using hp
    have hlt := (List.getElem?_eq_some_iff.1 hc).1
    have hv : vs[off]? = some vs[off] := List.getElem?_eq_getElem (by omega)
    have hv' : vs.toArray[off]? = some vs[off] := by simpa using hv
    simp only [hv', Sem.run_pure]
    exact ⟨_, rfl, .one _ _ (hx off c _ hc hv)⟩

theorem eqF_ok {P : Program} {T : TypeId → Option TI} (hT : TabOk P T) {g : Gh} {h : Sh} {w : World} (d : Nat) (rec : TypeId → List C → List C → Option Bool) (hrec : ∀ (t : TypeId) (xs ys : List C) (us vs : List Value) (r : Bool) (k : Nat),
    us.length = xs.length → (∀ (i : Nat) (c : C) (v : Value), xs[i]? = some c → us[i]? = some v → RC g h w c v) →
    vs.length = ys.length → (∀ (i : Nat) (c : C) (v : Value), ys[i]? = some c → vs[i]? = some v → RC g h w c v) → rec t xs ys = some r → d ≤ k →
    (Op.equalIn (k + 1) t (.agg us.toArray) (.agg vs.toArray)).run P w = .ok r w) : ∀ (fs : List Field) (xs ys : List C) (us vs : List Value) (r : Bool) (k : Nat),
    us.length = xs.length → (∀ (i : Nat) (c : C) (v : Value), xs[i]? = some c → us[i]? = some v → RC g h w c v) →
    vs.length = ys.length → (∀ (i : Nat) (c : C) (v : Value), ys[i]? = some c → vs[i]? = some v → RC g h w c v) → eqF T rec fs xs ys = some r → d + 1 ≤ k →
    (Op.eqFields k us.toArray vs.toArray fs).run P w = .ok r w
  | [], xs, ys, us, vs, r, k, h1, h2, h3, h4, he, hk => by
    obtain rfl : true = r := by simpa [eqF] using he
    simp [Op.eqFields]
  | f :: fs, xs, ys, us, vs, r, k, h1, h2, h3, h4, he, hk => by
    unfold eqF at he
    split at he
    · cases he
    · rename_i hn
      split at he
      · rename_i i ht
        unfold andO at he
        split at he
        · rename_i a b ha hb
          obtain rfl : (a && b) = r := by simpa using he
          have ih := eqF_ok (g := g) (h := h) hT d rec hrec fs xs ys us vs b k h1 h2 h3 h4 hb hk
          have hn' : f.name ≠ "_" := by simpa using hn
          obtain ⟨k, rfl⟩ : ∃ m, k = m + 1 := ⟨k - 1, by omega⟩
          have key : ∃ u v, (part f.type us.toArray f.offset).run P w = .ok u w ∧ (part f.type vs.toArray f.offset).run P w = .ok v w ∧ (Op.equalIn (k + 1) f.type u v).run P w = .ok a w := by
            split at ha
            · rename_i hagg
              refine ⟨.agg (us.toArray.extract f.offset (f.offset + i.size)), .agg (vs.toArray.extract f.offset (f.offset + i.size)), by simp only [part, Sem.run_bind, run_isAgg' hT ht, Result.andThen_ok, if_pos hagg, run_sizeOf' hT ht, Sem.run_pure],
                by simp only [part, Sem.run_bind, run_isAgg' hT ht, Result.andThen_ok, if_pos hagg, run_sizeOf' hT ht, Sem.run_pure], ?_⟩
              rw [extract_toArray, extract_toArray]
              have e1 := aggs_sub h1 h2 f.offset i.size
              have e2 := aggs_sub h3 h4 f.offset i.size
              refine hrec f.type _ _ _ _ a k (by simp [h1]) (fun j c v hc hv => ?_) (by simp [h3]) (fun j c v hc hv => ?_) ha (by omega)
              · cases e1 with | agg _ _ _ hx => exact hx j c v hc hv
              · cases e2 with | agg _ _ _ hx => exact hx j c v hc hv
            · rename_i hagg
              split at ha
              · rename_i c1 c2 hc1 hc2
                have l1 := (List.getElem?_eq_some_iff.1 hc1).1
                have l2 := (List.getElem?_eq_some_iff.1 hc2).1
                have hv1 : us[f.offset]? = some us[f.offset] := List.getElem?_eq_getElem (by omega)
                have hv2 : vs[f.offset]? = some vs[f.offset] := List.getElem?_eq_getElem (by omega)
                have hv1' : us.toArray[f.offset]? = some us[f.offset] := by simpa using hv1
                have hv2' : vs.toArray[f.offset]? = some vs[f.offset] := by simpa using hv2
                exact ⟨_, _, by simp only [part, Sem.run_bind, run_isAgg' hT ht, Result.andThen_ok, if_neg hagg, hv1', Sem.run_pure],
                  by simp only [part, Sem.run_bind, run_isAgg' hT ht, Result.andThen_ok, if_neg hagg, hv2', Sem.run_pure],
                  eqCell_ok (hT _ _ ht).1 (h2 _ _ _ hc1 hv1) (h4 _ _ _ hc2 hv2) ha⟩
              · cases ha
          obtain ⟨u, v, p1, p2, p3⟩ := key
          simp only [Op.eqFields, if_pos hn', Sem.run_bind, p1, p2, p3, Result.andThen_ok]
          cases a
          · simp
          · simpa using ih
        · cases he
      · cases he
theorem eqS_ok {P : Program} {T : TypeId → Option TI} (hT : TabOk P T) {g : Gh} {h : Sh} {w : World} : ∀ (d : Nat) (t : TypeId) (xs ys : List C) (us vs : List Value) (r : Bool) (k : Nat),
    us.length = xs.length → (∀ (i : Nat) (c : C) (v : Value), xs[i]? = some c → us[i]? = some v → RC g h w c v) →
    vs.length = ys.length → (∀ (i : Nat) (c : C) (v : Value), ys[i]? = some c → vs[i]? = some v → RC g h w c v) → eqS T d t xs ys = some r → d ≤ k →
    (Op.equalIn (k + 1) t (.agg us.toArray) (.agg vs.toArray)).run P w = .ok r w
  | 0, t, xs, ys, us, vs, r, k, h1, h2, h3, h4, he, hk => by simp [eqS] at he
  | d + 1, t, xs, ys, us, vs, r, k, h1, h2, h3, h4, he, hk => by
    unfold eqS at he
    split at he
    · rename_i i ht
      split at he
      · rename_i fs hp hd
        have hu := (hT t i ht).1
        rw [hd] at hu
        have hpl := ((hT t i ht).2.choose_spec.2.2.2.2 hp)
        have hf : P.fieldsOf t = fs := by simp [Program.fieldsOf, hu]
        rw [run_equalIn_struct (P := P) w k t _ _ (by rw [hf]; exact hu) hpl.2, hf]
        exact eqF_ok (g := g) (h := h) hT d (eqS T d) (eqS_ok hT d) fs.toList xs ys us vs r k h1 h2 h3 h4 he hk
      · cases he
    · cases he

def evBin (T : TypeId → Option TI) (op : BinOp) (t : TypeId) (cst : Bool) : V → V → Option (Bool × V)
  | .one (.d (.int k a)), .one (.d (.int k' b)) => if k = k' then
      match op with
      | .add => some (true, .one (.d (.int k (k.wrap (a + b)))))
      | .sub => some (true, .one (.d (.int k (k.wrap (a - b)))))
      | .mul => some (true, .one (.d (.int k (k.wrap (a * b)))))
      | .quo => some (!(b == 0), .one (.d (.int k (k.wrap (a.tdiv b)))))
      | .rem => some (!(b == 0), .one (.d (.int k (a.tmod b))))
      | .eql => some (true, .one (.d (.bool (a == b))))
      | .neq => some (true, .one (.d (.bool (a != b))))
      | .lss => some (true, .one (.d (.bool (decide (a < b)))))
      | .leq => some (true, .one (.d (.bool (decide (a ≤ b)))))
      | .gtr => some (true, .one (.d (.bool (decide (a > b)))))
      | .geq => some (true, .one (.d (.bool (decide (a ≥ b)))))
      | _ => none
    else none
  | .one (.d (.str a)), .one (.d (.str b)) =>
      match op with
      | .add => some (decide (a.length + b.length ≤ 4611686018427387904), .one (.d (.str (a ++ b))))
      | .eql => some (true, .one (.d (.bool (a == b))))
      | .neq => some (true, .one (.d (.bool (!(a == b)))))
      | .lss => some (true, .one (.d (.bool (Op.bytesLess a b))))
      | .leq => some (true, .one (.d (.bool (Op.bytesLess a b || a == b))))
      | .gtr => some (true, .one (.d (.bool (!(Op.bytesLess a b || a == b)))))
      | .geq => some (true, .one (.d (.bool (!(Op.bytesLess a b)))))
      | _ => none
  | .one (.d (.bool a)), .one (.d (.bool b)) =>
      match T t, op with
      | some { desc := .bool, .. }, .eql => some (true, .one (.d (.bool (a == b))))
      | some { desc := .bool, .. }, .neq => some (true, .one (.d (.bool (!(a == b)))))
      | _, _ => none
  | .one (.d (.err a)), .one (.d (.err true)) =>
      match T t, op, cst with
      | some { desc := .interface _, .. }, .eql, true => some (true, .one (.d (.bool a)))
      | some { desc := .interface _, .. }, .neq, true => some (true, .one (.d (.bool (!a))))
      | _, _, _ => none
  | .agg xs, .agg ys =>
      match op, eqS T 20 t xs ys with
      | .eql, some b => some (true, .one (.d (.bool b)))
      | .neq, some b => some (true, .one (.d (.bool (!b))))
      | _, _ => none
  | _, _ => none

theorem eqGuard_int {P : Program} {w : World} {op : BinOp} {t : TypeId} {x y : Operand} (k k' : IntKind) (a b : Int) : (eqGuard op t x y (.int k a) (.int k' b)).run P w = .ok () w := by
  cases op <;> rfl
theorem eqGuard_str {P : Program} {w : World} {op : BinOp} {t : TypeId} {x y : Operand} (a b : ByteArray) : (eqGuard op t x y (.string a) (.string b)).run P w = .ok () w := by
  cases op <;> rfl
theorem eqGuard_bool {P : Program} {w : World} {op : BinOp} {t : TypeId} {x y : Operand} (a b : Bool) : (eqGuard op t x y (.bool a) (.bool b)).run P w = .ok () w := by
  cases op <;> rfl
theorem eqGuard_iface {P : Program} {w : World} {op : BinOp} {t : TypeId} {x y : Operand} (u : TypeId) (v b : Value) : (eqGuard op t x y (.iface u v) b).run P w = .ok () w := by
  cases op <;> cases b <;> rfl
theorem eqGuard_nil {P : Program} {w : World} {op : BinOp} {t : TypeId} {x y : Operand} (hc : ((x matches .const _) || (y matches .const _)) = true) :
    (eqGuard op t x y .nilIface .nilIface).run P w = .ok () w := by
  cases op <;> first | rfl | (cases x <;> cases y <;> first | rfl | cases hc)

theorem run_equalIn_err {P : Program} {w : World} (d : Nat) {t : TypeId} {ms : Array (String × TypeId)} (ht : P.underlying t = some (.interface ms)) (v : Value) (hv : v = .nilIface ∨ ∃ a b, v = .iface a b) :
    (Op.equalIn (d + 1) t v .nilIface).run P w = .ok (match v with | .nilIface => true | _ => false) w := by
  rcases hv with rfl | ⟨a, b, rfl⟩ <;> simp only [Op.equalIn, Sem.run_bind, run_underlying ht, Result.andThen_ok, Sem.run_pure]
theorem run_equal_err {P : Program} {w : World} {t : TypeId} {ms : Array (String × TypeId)} (ht : P.underlying t = some (.interface ms)) (v : Value) (hv : v = .nilIface ∨ ∃ a b, v = .iface a b) :
    (Op.equal t v .nilIface).run P w = .ok (match v with | .nilIface => true | _ => false) w := run_equalIn_err 9999 ht v hv

theorem evBin_ok {P : Program} {T : TypeId → Option TI} (hT : TabOk P T) {g : Gh} {h : Sh} {w : World} {op : BinOp} {cst : Bool} {t : TypeId} {x y : Operand} {u v : V} {a b : Value} {ok : Bool} {r : V}
    (he : evBin T op t cst u v = some (ok, r)) (hok : ok = true) (hu : RV g h w u a) (hv : RV g h w v b) (hc : cst = true → ((x matches .const _) || (y matches .const _)) = true) :
    ∃ z, ((do eqGuard op t x y a b; Go.binOp op t a b) : Sem Value).run P w = .ok z w ∧ RV g h w r z := by
  subst hok
  unfold evBin at he
  split at he
  · rename_i k a' k' b'
    cases hu with | one _ _ hu => cases hu with | d _ _ hu => cases hu with | int =>
    cases hv with | one _ _ hv => cases hv with | d _ _ hv => cases hv with | int =>
    split at he
    · rename_i hk
      subst hk
      cases op <;> simp only [Option.some.injEq, Prod.mk.injEq, reduceCtorEq, true_and] at he <;>
        first
        | (subst he
           exact ⟨_, by simp only [Sem.run_bind, eqGuard_int, Result.andThen_ok, Go.binOp, ne_eq, not_true_eq_false, if_false]; rfl, .one _ _ (.d _ _ (by constructor))⟩)
        | (obtain ⟨h0, rfl⟩ := he
           have h1 : ¬ b' = 0 := by simpa using h0
           exact ⟨_, by simp only [Sem.run_bind, eqGuard_int, Result.andThen_ok, Go.binOp, ne_eq, not_true_eq_false, if_false, Op.intDiv, if_neg h1]; rfl, .one _ _ (.d _ _ (by constructor))⟩)
    · cases he
  · rename_i a' b'
    cases hu with | one _ _ hu => cases hu with | d _ _ hu => cases hu with | str =>
    cases hv with | one _ _ hv => cases hv with | d _ _ hv => cases hv with | str =>
    cases op <;> simp only [Option.some.injEq, Prod.mk.injEq, reduceCtorEq, true_and] at he
    case add =>
      obtain ⟨h0, rfl⟩ := he
      have h1 : a'.length + b'.length ≤ 4611686018427387904 := by simpa using h0
      refine ⟨.string ⟨(a' ++ b').toArray⟩, ?_, .one _ _ (.d _ _ (.str _))⟩
      have h2 : ¬ ((((ByteArray.mk a'.toArray).size + (ByteArray.mk b'.toArray).size : Nat) : Int) > IntKind.i64.max) := by
        have : IntKind.i64.max = 9223372036854775807 := by decide
        rw [this]
        simp only [ByteArray.size, List.size_toArray]
        omega
      simp only [Sem.run_bind, eqGuard_str, Result.andThen_ok, Go.binOp, Op.stringOp, if_neg h2, Sem.run_pure]
      have h3 : (ByteArray.mk a'.toArray) ++ (ByteArray.mk b'.toArray) = ByteArray.mk (a' ++ b').toArray := by
        apply ByteArray.ext
        simp
      rw [h3]
    all_goals
      subst he
      refine ⟨.bool _, ?_, .one _ _ (.d _ _ (.bool _))⟩
      simp only [Sem.run_bind, eqGuard_str, Result.andThen_ok, Go.binOp, Op.stringOp, ByteArray.toList_mk, Sem.run_pure]
  · rename_i a' b'
    cases hu with | one _ _ hu => cases hu with | d _ _ hu => cases hu with | bool =>
    cases hv with | one _ _ hv => cases hv with | d _ _ hv => cases hv with | bool =>
    split at he
    · rename_i ht
      obtain rfl : _ = r := by simpa using he
      have ht := (hT _ _ ht).1
      refine ⟨.bool _, ?_, .one _ _ (.d _ _ (.bool _))⟩
      simp only [Sem.run_bind, eqGuard_bool, Result.andThen_ok, Go.binOp, run_equal_bool w t _ _ ht, Sem.run_pure]
    · rename_i ht
      obtain rfl : _ = r := by simpa using he
      have ht := (hT _ _ ht).1
      refine ⟨.bool _, ?_, .one _ _ (.d _ _ (.bool _))⟩
      simp only [Sem.run_bind, eqGuard_bool, Result.andThen_ok, Go.binOp, run_equal_bool w t _ _ ht, Sem.run_pure]
    · cases he
  · rename_i a'
    have hvv : ∀ (z : Value), RV g h w (.one (.d (.err a'))) z → (z = .nilIface ∧ a' = true) ∨ (∃ p q, z = .iface p q ∧ a' = false) := fun z hz => by
      cases hz with | one _ _ hz => cases hz with | d _ _ hz => cases hz with
      | errNil => exact .inl ⟨rfl, rfl⟩
      | errSome p q => exact .inr ⟨p, q, rfl, rfl⟩
    have hb : b = .nilIface := by cases hv with | one _ _ hv => cases hv with | d _ _ hv => cases hv with | errNil => rfl
    subst hb
    have ha := hvv a hu
    split at he
    · rename_i ht
      obtain rfl : _ = r := by simpa using he
      have ht := (hT _ _ ht).1
      have hq := run_equal_err (w := w) ht a (ha.elim (fun h => .inl h.1) (fun ⟨p, q, h, _⟩ => .inr ⟨p, q, h⟩))
      refine ⟨.bool a', ?_, .one _ _ (.d _ _ (.bool _))⟩
      rcases ha with ⟨rfl, rfl⟩ | ⟨p, q, rfl, rfl⟩
      · simp only [Sem.run_bind, eqGuard_nil (hc rfl), Result.andThen_ok, Go.binOp, hq, Sem.run_pure]; try rfl
      · simp only [Sem.run_bind, eqGuard_iface, Result.andThen_ok, Go.binOp, hq, Sem.run_pure]; try rfl
    · rename_i ht
      obtain rfl : _ = r := by simpa using he
      have ht := (hT _ _ ht).1
      have hq := run_equal_err (w := w) ht a (ha.elim (fun h => .inl h.1) (fun ⟨p, q, h, _⟩ => .inr ⟨p, q, h⟩))
      refine ⟨.bool (!a'), ?_, .one _ _ (.d _ _ (.bool _))⟩
      rcases ha with ⟨rfl, rfl⟩ | ⟨p, q, rfl, rfl⟩
      · simp only [Sem.run_bind, eqGuard_nil (hc rfl), Result.andThen_ok, Go.binOp, hq, Sem.run_pure]; try rfl
      · simp only [Sem.run_bind, eqGuard_iface, Result.andThen_ok, Go.binOp, hq, Sem.run_pure]; try rfl
    · cases he
  · rename_i xs ys
    cases hu with | agg _ us h1 h2 =>
    cases hv with | agg _ vs h3 h4 =>
    have hg : ∀ b, eqS T 20 t xs ys = some b → P.eqGuardType P.depth t = false := fun b hb => by
      unfold eqS at hb
      split at hb
      · rename_i i ht
        split at hb
        · rename_i hp _; exact ((hT t i ht).2.choose_spec.2.2.2.2 hp).1
        · cases hb
      · cases hb
    split at he
    · rename_i q hq
      obtain rfl : _ = r := by simpa using he
      have := eqS_ok (g := g) (h := h) hT 20 t xs ys us vs q 9999 h1 h2 h3 h4 hq (by omega)
      refine ⟨.bool q, ?_, .one _ _ (.d _ _ (.bool _))⟩
      simp only [Sem.run_bind, run_eqGuard_agg (P := P) w _ t x y _ _ (hg _ hq), Result.andThen_ok, Go.binOp, show (Op.equal t (.agg us.toArray) (.agg vs.toArray)).run P w = .ok q w from this, Sem.run_pure]
    · rename_i q hq
      obtain rfl : _ = r := by simpa using he
      have := eqS_ok (g := g) (h := h) hT 20 t xs ys us vs q 9999 h1 h2 h3 h4 hq (by omega)
      refine ⟨.bool (!q), ?_, .one _ _ (.d _ _ (.bool _))⟩
      simp only [Sem.run_bind, run_eqGuard_agg (P := P) w _ t x y _ _ (hg _ hq), Result.andThen_ok, Go.binOp, show (Op.equal t (.agg us.toArray) (.agg vs.toArray)).run P w = .ok q w from this, Sem.run_pure]
    · cases he
  · cases he

end Go.Proofs.YtepdjimbnbiicaaGreatDoor
