/- The abstract layer, part 4: what each operation that only computes yields, and its step. -/
import Derived.Test.YtepdjimbnbiicaaGreatDoorA3
import Derived.Laws.Slices
set_option linter.unusedVariables false
set_option linter.unusedSimpArgs false
set_option linter.unnecessarySimpa false
namespace Go.Proofs.YtepdjimbnbiicaaGreatDoor
open Go Go.RowKit

def isConst' : Operand → Bool
  | .const _ => true
  | _ => false

def evUn (op : UnOp) : V → Option V
  | .one (.d (.bool b)) => match op with | .not => some (.one (.d (.bool (!b)))) | _ => none
  | .one (.d (.int k a)) => match op with | .neg => some (.one (.d (.int k (k.wrap (0 - a))))) | _ => none
  | _ => none

def evField (T : TypeId → Option TI) (t : TypeId) (f : Nat) : V → Option V
  | .agg cs => match T t with
    | some { desc := .struct fs, .. } => match fs[f]? with
      | some f => match T f.type with
        | some i => partC i cs f.offset
        | none => none
      | none => none
    | _ => none
  | _ => none

def evIndex (T : TypeId → Option TI) (t : TypeId) : V → V → Option (Bool × V)
  | .one (.d (.str s)), .one (.d (.int k i)) => match T t with
    | some { desc := .string, .. } => some (decide (0 ≤ i) && decide (i < (s.length : Int)), .one (.d (.int .u8 ((s.getD i.toNat 0).toNat : Int))))
    | _ => none
  | .agg cs, .one (.d (.int k i)) => match T t with
    | some { desc := .array n e, .. } => match T e with
      | some j => match partC j cs (i.toNat * j.size) with
        | some v => some (decide (0 ≤ i) && decide (i < (n : Int)), v)
        | none => none
      | none => none
    | _ => none
  | _, _ => none

def evIndexAddr (T : TypeId → Option TI) (s : St) (t : TypeId) : V → V → Option (Bool × V)
  | .one (.d (.vec sz xs)), .one (.d (.int k i)) => match T t with
    | some { desc := .slice e, .. } => match T e with
      | some j => if j.size = sz then some (decide (0 ≤ i) && decide (i < (xs.length : Int)), .one (.eptr (xs.getD i.toNat []))) else none
      | none => none
    | _ => none
  | .one (.ptr l off), .one (.d (.int k i)) => match T t with
    | some { desc := .array n e, .. } => match T e with
      | some j => some (decide (0 ≤ i) && decide (i < (n : Int)), .one (.ptr l (off + i.toNat * j.size)))
      | none => none
    | _ => none
  | _, _ => none

def evFieldAddr (T : TypeId → Option TI) (t : TypeId) (f : Nat) : V → Option V
  | .one (.ptr l off) => match T t with
    | some { desc := .struct fs, .. } => match fs[f]? with
      | some f => match T f.type with
        | some i => if i.size = 0 then none else some (.one (.ptr l (off + f.offset)))
        | none => none
      | none => none
    | _ => none
  | .one (.eptr cs) => match T t with
    | some { desc := .struct fs, .. } => match fs[f]? with
      | some f => match T f.type with
        | some i => if i.size = 0 then none else some (.one (.eptr (cs.drop f.offset)))
        | none => none
      | none => none
    | _ => none
  | _ => none

def evLoad (T : TypeId → Option TI) (s : St) (t : TypeId) : V → Option V
  | .one (.ptr l off) => match T t, s.b[l]? with
    | some i, some cs => partC i cs off
    | _, _ => none
  | .one (.eptr cs) => match T t with
    | some i => partC i (cs.map .d) 0
    | none => none
  | _ => none

def evLen (T : TypeId → Option TI) (t : TypeId) : V → Option V
  | .one (.d (.str s)) => match T t with
    | some { desc := .string, .. } => some (.one (.d (.int .i64 (s.length : Int))))
    | _ => none
  | .one (.d (.vec _ xs)) => match T t with
    | some { desc := .slice _, .. } => some (.one (.d (.int .i64 (xs.length : Int))))
    | _ => none
  | .one (.d .nilsl) => match T t with
    | some { desc := .slice _, .. } => some (.one (.d (.int .i64 0)))
    | _ => none
  | .one (.row r ver off n) => match T t with
    | some { desc := .slice _, .. } => none
    | _ => none
  | _ => none

/-- The bounds of a slicing: low, high. -/
def bnd (n : Nat) (s : St) (d : Int) : Option Operand → Option (Bool × Int)
  | none => some (true, d)
  | some x => match opd n s x with
    | (b, .one (.d (.int _ i))) => some (b, i)
    | _ => none

def evSlice (T : TypeId → Option TI) (t : TypeId) (lo : Bool × Int) (hi : Bool × Int) : V → Option (Bool × V)
  | .one (.d (.str s)) => match T t with
    | some { desc := .string, .. } => some (lo.1 && hi.1 && (decide (0 ≤ lo.2) && decide (lo.2 ≤ hi.2) && decide (hi.2 ≤ (s.length : Int))), .one (.d (.str ((s.take hi.2.toNat).drop lo.2.toNat))))
    | _ => none
  | .one (.d (.vec sz xs)) => match T t with
    | some { desc := .slice e, .. } => match T e with
      | some j => if j.size = sz then some (lo.1 && hi.1 && (decide (0 ≤ lo.2) && decide (lo.2 ≤ hi.2) && decide (hi.2 ≤ (xs.length : Int))), .one (.d (.vec sz ((xs.take hi.2.toNat).drop lo.2.toNat)))) else none
      | none => none
    | _ => none
  | _ => none

def lenOfV : V → Option Int
  | .one (.d (.str s)) => some s.length
  | .one (.d (.vec _ xs)) => some xs.length
  | _ => none

def byteD : List D → Option UInt8
  | [.int .u8 n] => some (UInt8.ofNat n.toNat)
  | _ => none

def evConv (T : TypeId → Option TI) (a b : TypeId) : V → Option V
  | .one (.d (.int k n)) => match T a, T b with
    | some { desc := .int _, .. }, some { desc := .int k', .. } => some (.one (.d (.int k' (k'.wrap n))))
    | some { desc := .int _, .. }, some { desc := .string, .. } => some (.one (.d (.str (Utf8.encode n).data.toList)))
    | _, _ => none
  | .one (.d (.str s)) => match T a, T b with
    | some { desc := .string, .. }, some { desc := .string, .. } => some (.one (.d (.str s)))
    | _, _ => none
  | _ => none

/-- The parts of a struct's or an array's literal, laid over its zero value. -/
def fillC (place : Nat → Option (Nat × Nat)) (cells : List C) : List (Nat × V) → Option (List C)
  | [] => some cells
  | (i, v) :: rest => match place i with
    | none => none
    | some (off, size) => match v with
      | .one c => if size = 1 ∧ off < cells.length then fillC place (cells.set off c) rest else none
      | .agg cs => if cs.length = size ∧ off + size ≤ cells.length then fillC place (cells.take off ++ cs ++ cells.drop (off + size)) rest else none
      | _ => none

def cellsOfV : V → Option (List C)
  | .one c => some [c]
  | .agg cs => some cs
  | _ => none

def allOpd (n : Nat) (s : St) : List (Nat × Operand) → Bool × List (Nat × V)
  | [] => (true, [])
  | (i, x) :: r => let a := opd n s x; let b := allOpd n s r; (a.1 && b.1, (i, a.2) :: b.2)

/-- Where the fields of a struct lie. -/
def placesOf (T : TypeId → Option TI) : List Field → Option (List (Nat × Nat))
  | [] => some []
  | f :: r => match T f.type, placesOf T r with
    | some i, some l => some ((f.offset, i.size) :: l)
    | _, _ => none

def evBuild (T : TypeId → Option TI) (t : TypeId) (parts : List (Nat × V)) : Option V :=
  match T t with
  | some i => match cellsOfV (constV i.zero), i.desc with
    | some z, .struct fs => match placesOf T fs.toList with
      | some pl => (fillC (pl[·]?) z parts).map .agg
      | none => none
    | some z, .array _ e => match T e with
      | some j => (fillC (fun i => some (i * j.size, j.size)) z parts).map .agg
      | none => none
    | _, _ => none
  | none => none

def both (n : Nat) (s : St) (x y : Operand) (f : V → V → Option (Bool × V)) : Option (Bool × V) :=
  let a := opd n s x; let b := opd n s y
  match f a.2 b.2 with
  | some (o, v) => some (a.1 && b.1 && o, v)
  | none => none
def one' (n : Nat) (s : St) (x : Operand) (f : V → Option V) : Option (Bool × V) :=
  let a := opd n s x
  match f a.2 with
  | some v => some (a.1, v)
  | none => none

def evPick (n : Nat) (s : St) (c a b : Operand) : Option (Bool × V) :=
  match opd n s c, opd n s a, opd n s b with
  | (o, .one (.d (.bool x))), (p, .one (.d (.bool y))), (q, .one (.d (.bool z))) => some (o && (bif x then p else q), .one (.d (.bool (bif x then y else z))))
  | _, _, _ => none

def evExtract (i : Nat) : V → Option V
  | .tup vs => vs[i]?
  | _ => none

def evNil : V → Option V
  | .one (.ptr l off) => some (.one (.ptr l off))
  | .one (.eptr cs) => some (.one (.eptr cs))
  | _ => none

/-- The operations that only compute. -/
def evP (T : TypeId → Option TI) (n : Nat) (s : St) : Op → Option (Bool × V)
  | .move x | .assign x => some (opd n s x)
  | .pick c a b => evPick n s c a b
  | .binOp op t x y _ => both n s x y (evBin T op t (isConst' x || isConst' y))
  | .unOp op _ x => one' n s x (evUn op)
  | .field t x f => one' n s x (evField T t f)
  | .index t x i => both n s x i (evIndex T t)
  | .indexAddr t x i => both n s x i (evIndexAddr T s t)
  | .fieldAddr t x f => one' n s x (evFieldAddr T t f)
  | .load t x => one' n s x (evLoad T s t)
  | .extract x i => one' n s x (evExtract i)
  | .nilCheck x => one' n s x evNil
  | .convert a b x => one' n s x (evConv T a b)
  | .slice t x lo hi none => match opd n s x with
    | (o, v) => match lenOfV v with
      | some l => match bnd n s 0 lo, bnd n s l hi with
        | some lo, some hi => match evSlice T t lo hi v with
          | some (p, r) => some (o && p, r)
          | none => none
        | _, _ => none
      | none => none
  | .build t parts => match allOpd n s parts.toList with
    | (o, l) => match evBuild T t l with
      | some v => some (o, v)
      | none => none
  | .call { callee := .builtin .len, args := args, argTypes := ts } => match args.toList, ts.toList with
    | [x], [t] => one' n s x (evLen T t)
    | _, _ => none
  | .call { callee := .builtin .min, args := args, argTypes := ts } => match args.toList with
    | [x, y] => both n s x y fun u v => match u, v with
      | .one (.d (.int k a)), .one (.d (.int k' b)) => if k = k' then some (true, .one (.d (.int k (if b < a then b else a)))) else none
      | _, _ => none
    | _ => none
  | .call { callee := .builtin .max, args := args, argTypes := ts } => match args.toList with
    | [x, y] => both n s x y fun u v => match u, v with
      | .one (.d (.int k a)), .one (.d (.int k' b)) => if k = k' then some (true, .one (.d (.int k (if b > a then b else a)))) else none
      | _, _ => none
    | _ => none
  | _ => none

section
variable {J : Inv} {E : Env J} {P : Program} {T : TypeId → Option TI} {n : Nat} {s : St} {g : Gh} {a : Act} {w : World}

theorem evField_ok (hT : TabOk P T) {h : Sh} {t : TypeId} {f : Nat} {u r : V} {v : Value} (he : evField T t f u = some r) (hu : RV g h w u v) :
    ∃ z, (Instr.field t v f).run P w = .ok z w ∧ RV g h w r z := by
  unfold evField at he
  split at he
  · rename_i cs
    cases hu with | agg _ vs hl hx =>
    split at he
    · rename_i ht
      split at he
      · rename_i fd hf
        split at he
        · rename_i i hi
          obtain ⟨z, h1, h2⟩ := partC_ok hT hl hx hi he
          refine ⟨z, ?_, h2⟩
          simp only [Instr.field, Sem.run_bind, run_underlying' hT ht, Result.andThen_ok, hf, asAgg, Sem.run_pure, h1]
        · cases he
      · cases he
    · cases he
  · cases he

theorem getElem?_mk (s : List UInt8) (i : Nat) (h : i < s.length) : (ByteArray.mk s.toArray)[i]? = some (s.getD i 0) := by
  have h' : i < (ByteArray.mk s.toArray).size := by simpa [ByteArray.size] using h
  have h2 : (ByteArray.mk s.toArray)[i]? = some ((ByteArray.mk s.toArray)[i]'h') := getElem?_pos (ByteArray.mk s.toArray) i h'
  rw [h2, List.getD_eq_getElem?_getD, List.getElem?_eq_getElem h]
  rfl

theorem evIndex_ok (hT : TabOk P T) {h : Sh} {t : TypeId} {u u' r : V} {v v' : Value} (he : evIndex T t u u' = some (true, r)) (hu : RV g h w u v) (hu' : RV g h w u' v') :
    ∃ z, (Instr.index t v v').run P w = .ok z w ∧ RV g h w r z := by
  unfold evIndex at he
  split at he
  · rename_i s k i
    cases hu with | one _ _ hu => cases hu with | d _ _ hu => cases hu with | str =>
    cases hu' with | one _ _ hu' => cases hu' with | d _ _ hu' => cases hu' with | int =>
    split at he
    · rename_i ht
      simp only [Option.some.injEq, Prod.mk.injEq, Bool.and_eq_true, decide_eq_true_eq] at he
      obtain ⟨⟨h0, h1⟩, rfl⟩ := he
      refine ⟨_, ?_, .one _ _ (.d _ _ (.int _ _))⟩
      simp only [Instr.index, asIntOf, Sem.run_bind, Sem.run_pure, run_underlying' hT ht, Result.andThen_ok, if_pos h0, getElem?_mk s i.toNat (by omega)]
    · cases he
  · rename_i cs k i
    cases hu with | agg _ vs hl hx =>
    cases hu' with | one _ _ hu' => cases hu' with | d _ _ hu' => cases hu' with | int =>
    split at he
    · rename_i m e ht
      split at he
      · rename_i j hj
        split at he
        · rename_i q hq
          simp only [Option.some.injEq, Prod.mk.injEq, Bool.and_eq_true, decide_eq_true_eq] at he
          obtain ⟨⟨h0, h1⟩, rfl⟩ := he
          obtain ⟨z, h2, h3⟩ := partC_ok hT hl hx hj hq
          refine ⟨z, ?_, h3⟩
          simp only [Instr.index, asIntOf, Sem.run_bind, Sem.run_pure, run_underlying' hT ht, Result.andThen_ok, if_pos (And.intro h0 h1), run_sizeOf' hT hj, h2]
        · cases he
      · cases he
    · cases he
  · cases he

theorem add_none (b o k : Nat) : (⟨b, o, none⟩ : Addr).add k = ⟨b, o + k, none⟩ := by
  unfold Addr.add; split <;> simp_all

theorem evIndexAddr_ok (hT : TabOk P T) {h : Sh} {t : TypeId} {u u' r : V} {v v' : Value} (he : evIndexAddr T s t u u' = some (true, r)) (hu : RV g h w u v) (hu' : RV g h w u' v') :
    ∃ z, (Instr.indexAt t v v').run P w = .ok z w ∧ RV g h w r z := by
  unfold evIndexAddr at he
  split at he
  · rename_i sz xs k i
    cases hu' with | one _ _ hu' => cases hu' with | d _ _ hu' => cases hu' with | int =>
    split at he
    · rename_i ht
      split at he
      · rename_i j hj
        split at he
        · rename_i hsz
          simp only [Option.some.injEq, Prod.mk.injEq, Bool.and_eq_true, decide_eq_true_eq] at he
          obtain ⟨⟨h0, h1⟩, rfl⟩ := he
          cases hu with | one _ _ hu => cases hu with | d _ _ hu => cases hu with
          | empty => simp at h1; omega
          | vec _ _ b o cap q hne hc hb hsz' hcell hrd =>
            have hi : i.toNat < xs.length := by omega
            have hx : xs[i.toNat]? = some (xs.getD i.toNat []) := by rw [List.getD_eq_getElem?_getD, List.getElem?_eq_getElem hi]; rfl
            refine ⟨.pointer (some ⟨b, o + i.toNat * sz, none⟩), ?_, .one _ _ (.eptr _ b (o + i.toNat * sz) (q i.toNat) hb (fun m d hd => hcell _ _ _ _ hx hd) (fun m d hd => hrd _ _ _ _ hx hd))⟩
            simp only [Instr.indexAt, asIntOf, Sem.run_bind, Sem.run_pure, run_underlying' hT ht, Result.andThen_ok, if_pos (And.intro h0 h1), run_sizeOf' hT hj, add_none, hsz]
        · cases he
      · cases he
    · cases he
  · rename_i l off k i
    cases hu' with | one _ _ hu' => cases hu' with | d _ _ hu' => cases hu' with | int =>
    split at he
    · rename_i m e ht
      split at he
      · rename_i j hj
        simp only [Option.some.injEq, Prod.mk.injEq, Bool.and_eq_true, decide_eq_true_eq] at he
        obtain ⟨⟨h0, h1⟩, rfl⟩ := he
        cases hu with | one _ _ hu => cases hu with | ptr _ _ hl =>
        refine ⟨.pointer (some ⟨g.at_ (.b l), off + i.toNat * j.size, none⟩), ?_, .one _ _ (.ptr _ _ hl)⟩
        simp only [Instr.indexAt, asIntOf, Instr.sureAddr, Sem.run_bind, Sem.run_pure, run_underlying' hT ht, Result.andThen_ok, if_pos (And.intro h0 h1), run_sizeOf' hT hj, add_none]
      · cases he
    · cases he
  · cases he

theorem evFieldAddr_ok (hT : TabOk P T) {h : Sh} {t : TypeId} {f : Nat} {u r : V} {v : Value} (he : evFieldAddr T t f u = some r) (hu : RV g h w u v) :
    ∃ z, (Instr.fieldAt t v f).run P w = .ok z w ∧ RV g h w r z := by
  unfold evFieldAddr at he
  split at he
  · rename_i l off
    cases hu with | one _ _ hu => cases hu with | ptr _ _ hl =>
    split at he
    · rename_i fs _ _ _ _ ht
      split at he
      · rename_i fd hf
        split at he
        · rename_i i hi
          split at he
          · cases he
          · rename_i h0
            obtain rfl : _ = r := by simpa using he
            refine ⟨.pointer (some ⟨g.at_ (.b l), off + fd.offset, none⟩), ?_, .one _ _ (.ptr _ _ hl)⟩
            simp only [Instr.fieldAt, Sem.run_bind, run_underlying' hT ht, Result.andThen_ok, hf, Instr.sureAddr, Sem.run_pure, fieldPlace, run_sizeOf' hT hi, if_neg h0, add_none]
        · cases he
      · cases he
    · cases he
  · rename_i cs
    cases hu with | one _ _ hu => cases hu with | eptr _ b o q hb hcell hrd =>
    split at he
    · rename_i fs _ _ _ _ ht
      split at he
      · rename_i fd hf
        split at he
        · rename_i i hi
          split at he
          · cases he
          · rename_i h0
            obtain rfl : _ = r := by simpa using he
            refine ⟨.pointer (some ⟨b, o + fd.offset, none⟩), ?_, .one _ _ (.eptr _ b (o + fd.offset) (fun j => q (fd.offset + j)) hb (fun j d hd => ?_) (fun j d hd => ?_))⟩
            · simp only [Instr.fieldAt, Sem.run_bind, run_underlying' hT ht, Result.andThen_ok, hf, Instr.sureAddr, Sem.run_pure, fieldPlace, run_sizeOf' hT hi, if_neg h0, add_none]
            · rw [List.getElem?_drop] at hd
              rw [Nat.add_assoc]; exact hcell _ _ hd
            · rw [List.getElem?_drop] at hd
              exact hrd _ _ hd
        · cases he
      · cases he
    · cases he
  · cases he

/-- A variable of type t read out of cells. -/
theorem run_loadVar' (hT : TabOk P T) {h : Sh} {t : TypeId} {i : TI} (ht : T t = some i) {cs : List C} {off b o : Nat} {r : V} (hp : partC i cs off = some r)
    (hx : ∀ (j : Nat) (c : C), cs[j]? = some c → ∃ v, w.cell? ⟨b, o + j, none⟩ = some v ∧ RC g h w c v) :
    ∃ z, (loadVar t ⟨b, o + off, none⟩).run P w = .ok z w ∧ RV g h w r z := by
  unfold partC at hp
  unfold loadVar
  simp only [Sem.run_bind, run_isAgg' hT ht, Result.andThen_ok]
  split at hp
  · rename_i ha
    split at hp
    · rename_i hlen
      obtain rfl : _ = r := by simpa using hp
      rw [if_pos ha]
      have hv : ∀ j, j < i.size → ∃ v, w.cell? ⟨b, o + off + j, none⟩ = some v ∧ RC g h w (cs.getD (off + j) .junk) v := fun j hj => by
        have hlt : off + j < cs.length := by omega
        obtain ⟨v, h1, h2⟩ := hx (off + j) _ (List.getElem?_eq_getElem hlt)
        exact ⟨v, by rw [Nat.add_assoc]; exact h1, by rw [List.getD_eq_getElem?_getD, List.getElem?_eq_getElem hlt]; exact h2⟩
      have hvs : ∃ f : Nat → Value, ∀ j, j < i.size → w.cell? ⟨b, o + off + j, none⟩ = some (f j) ∧ RC g h w (cs.getD (off + j) .junk) (f j) := by
        refine ⟨fun j => if hj : j < i.size then (hv j hj).choose else undef, fun j hj => ?_⟩
        simp only [dif_pos hj]
        exact (hv j hj).choose_spec
      obtain ⟨f, hf⟩ := hvs
      refine ⟨.agg ((List.range i.size).map f).toArray, ?_, ?_⟩
      · simp only [Sem.run_bind, run_sizeOf' hT ht, Result.andThen_ok]
        rw [run_loadCells w ⟨b, o + off, none⟩ i.size f (fun j hj => by rw [add_none]; exact (hf j hj).1)]
        simp
      · refine .agg _ _ (by simp; omega) (fun j c v h1 h2 => ?_)
        rw [List.getElem?_take] at h1
        split at h1
        · rename_i hj
          rw [List.getElem?_drop] at h1
          simp only [List.getElem?_map, List.getElem?_range hj, Option.map_some, Option.some.injEq] at h2
          subst h2
          have := (hf j hj).2
          rw [List.getD_eq_getElem?_getD, h1] at this
          exact this
        · cases h1
    · cases hp
  · rename_i ha
    rw [if_neg ha]
    obtain ⟨c, hc, rfl⟩ : ∃ c, cs[off]? = some c ∧ V.one c = r := by simpa using hp
    obtain ⟨v, h1, h2⟩ := hx off c hc
    exact ⟨v, by simp [h1], .one _ _ h2⟩

theorem box_cell {b : List C} (hh : Heap g s w) {l : Nat} {cs : List C} (hl : s.b[l]? = some cs) (j : Nat) (c : C) (hc : cs[j]? = some c) :
    ∃ v, w.cell? ⟨g.at_ (.b l), j, none⟩ = some v ∧ RC g s.sh w c v := by
  obtain ⟨vs, t, h1, h2, h3⟩ := hh.box l cs hl
  have hlt := (List.getElem?_eq_some_iff.1 hc).1
  have hv : vs[j]? = some vs[j] := Array.getElem?_eq_getElem (by omega)
  exact ⟨_, by simp [World.cell?, h1, hv], h3 j c _ hc hv⟩

theorem evLoad_ok (hT : TabOk P T) {t : TypeId} {u r : V} {v : Value} (hh : Heap g s w) (he : evLoad T s t u = some r) (hu : RV g s.sh w u v) :
    ∃ z, (Instr.loadAt t v).run P w = .ok z w ∧ RV g s.sh w r z := by
  unfold evLoad at he
  split at he
  · rename_i l off
    cases hu with | one _ _ hu => cases hu with | ptr _ _ hl =>
    split at he
    · rename_i i cs ht hb
      obtain ⟨z, h1, h2⟩ := run_loadVar' (P := P) hT ht (b := g.at_ (.b l)) (o := 0) he (fun j c hc => by rw [Nat.zero_add]; exact box_cell (b := cs) hh hb j c hc)
      exact ⟨z, by rw [Nat.zero_add] at h1; simpa only [Instr.loadAt, Instr.sureAddr, Sem.run_bind, Sem.run_pure, Result.andThen_ok] using h1, h2⟩
    · cases he
  · rename_i cs
    cases hu with | one _ _ hu => cases hu with | eptr _ b o q hb hcell hrd =>
    split at he
    · rename_i i ht
      obtain ⟨z, h1, h2⟩ := run_loadVar' (g := g) (h := s.sh) (P := P) hT ht (b := b) (o := o) he (fun j c hc => by
        simp only [List.getElem?_map, Option.map_eq_some_iff] at hc
        obtain ⟨d, hd, rfl⟩ := hc
        exact ⟨_, hcell j d hd, .d _ _ (hrd j d hd)⟩)
      exact ⟨z, by simpa only [Instr.loadAt, Instr.sureAddr, Sem.run_bind, Sem.run_pure, Result.andThen_ok, Nat.add_zero] using h1, h2⟩
    · cases he
  · cases he

end
end Go.Proofs.YtepdjimbnbiicaaGreatDoor
