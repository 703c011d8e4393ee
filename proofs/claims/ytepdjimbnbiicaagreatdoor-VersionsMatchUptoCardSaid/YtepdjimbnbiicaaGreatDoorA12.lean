/- The library's contracts as pure calls: arguments that are numbers, truth values and texts; what is handed back lies in new blocks. -/
import Derived.Test.YtepdjimbnbiicaaGreatDoorA11
import Derived.Lib.LaidTab
set_option linter.unusedVariables false
namespace Go.Proofs.YtepdjimbnbiicaaGreatDoor
open Go Go.RowKit

def D.lit : D → Option Value
  | .int k n => some (.int k n)
  | .bool b => some (.bool b)
  | .str s => some (.string ⟨s.toArray⟩)
  | _ => none
def litV : V → Option Value
  | .one (.d x) => x.lit
  | _ => none
theorem litV_eq {g : Gh} {h : Sh} {w : World} {u : V} {v x : Value} (hx : RV g h w u v) (hl : litV u = some x) : v = x := by
  cases hx with
  | one c v hc =>
    cases hc with
    | d d v hd => cases hd <;> simp_all [litV, D.lit]
    | _ => simp [litV] at hl
  | _ => simp [litV] at hl

/-- Arguments that are told whole. -/
theorem lits_eq {g : Gh} {h : Sh} {w : World} {args : List V} {xs vs : List Value} (ha : args.map litV = xs.map some) (hl : vs.length = args.length)
    (hx : ∀ (i : Nat) (u : V) (v : Value), args[i]? = some u → vs[i]? = some v → RV g h w u v) : vs = xs := by
  have hlen : args.length = xs.length := by have := congrArg List.length ha; simpa using this
  apply List.ext_getElem? ; intro i
  by_cases hi : i < vs.length
  · have h1 : vs[i]? = some vs[i] := List.getElem?_eq_getElem hi
    have h2 : args[i]? = some (args[i]'(by omega)) := List.getElem?_eq_getElem _
    have h3 : xs[i]? = some (xs[i]'(by omega)) := List.getElem?_eq_getElem _
    have h4 := congrArg (fun l => l[i]?) ha
    simp only [List.getElem?_map, h2, h3, Option.map_some, Option.some.injEq] at h4
    rw [h1, h3, litV_eq (hx i _ _ h2 h1) h4]
  · rw [List.getElem?_eq_none (by omega), List.getElem?_eq_none (by omega)]

theorem PureCall.lib {P : Program} {J : Inv} {f : FuncId} {args : List V} {r : V} {xs : List Value} {fn : Func} (hf : P.funcs[f]? = some fn) (h0 : (fn.name == "runtime.NumGoroutine") = false) (hb : fn.body.isNone = false)
    (ha : args.map litV = xs.map some)
    (h : ∀ w : World, J.I w → Calls P f xs.toArray w fun e w' => ∃ v, e = .returned v ∧ Below w.heap.size w w' ∧ RV (noGh fun b => w.heap.size ≤ b ∧ b < w'.heap.size) noSh w' r v) : PureCall P J f args r := by
  refine ⟨⟨fn, hf, h0, hb⟩, fun im w vs hJ hi hl hx => ?_⟩
  obtain rfl := lits_eq ha hl hx
  refine Calls.mono (h w hJ) fun e w' ⟨v, he, hB, hr⟩ => ?_
  refine ⟨v, fun b => im b ∨ (w.heap.size ≤ b ∧ b < w'.heap.size), he, hB, fun b h => .inl h, fun b h => ?_, fun b h => ?_, ?_⟩
  · rcases h with h | h
    · exact Nat.lt_of_lt_of_le (hi b h) hB.size
    · exact h.2
  · rcases h with h | h
    · exact .inl h
    · exact .inr h.1
  · exact RV.mono (g := noGh fun b => w.heap.size ≤ b ∧ b < w'.heap.size) (g' := noGh fun b => im b ∨ (w.heap.size ≤ b ∧ b < w'.heap.size)) (Ext.of (fun b h => Or.inr h) (fun _ _ => rfl) rfl rfl rfl) hr

/-- One value that is told whole. -/
theorem RV.of_lit {g : Gh} {h : Sh} {w : World} {d : D} {v : Value} (hd : d.lit = some v) : RV g h w (.one (.d d)) v := by
  refine .one _ _ (.d _ _ ?_)
  cases d <;> simp [D.lit] at hd <;> subst hd
  · exact .int _ _
  · exact .bool _
  · exact .str _
theorem RV.tup2 {g : Gh} {h : Sh} {w : World} {a b : V} {x y : Value} (h1 : RV g h w a x) (h2 : RV g h w b y) : RV g h w (.tup [a, b]) (.tuple #[x, y]) := by
  refine .tup [a, b] [x, y] rfl (fun i u v hu hv => ?_)
  match i with
  | 0 => simp at hu hv; subst hu; subst hv; exact h1
  | 1 => simp at hu hv; subst hu; subst hv; exact h2
  | i + 2 => simp at hu
theorem RV.tup3 {g : Gh} {h : Sh} {w : World} {a b c : V} {x y z : Value} (h1 : RV g h w a x) (h2 : RV g h w b y) (h3 : RV g h w c z) : RV g h w (.tup [a, b, c]) (.tuple #[x, y, z]) := by
  refine .tup [a, b, c] [x, y, z] rfl (fun i u v hu hv => ?_)
  match i with
  | 0 => simp at hu hv; subst hu; subst hv; exact h1
  | 1 => simp at hu hv; subst hu; subst hv; exact h2
  | 2 => simp at hu hv; subst hu; subst hv; exact h3
  | i + 3 => simp at hu
theorem Below.drewN' (w : World) (n : Nat) : Below w.heap.size w (w.drewN n) := ⟨rfl, rfl, rfl, Nat.le_refl _, fun _ _ => rfl⟩
theorem Below.alloc' (w : World) (o : Obj) : Below w.heap.size w (w.alloc o) := (Below.refl _ w).alloc (Nat.le_refl _) o

/-- A new row of texts. -/
theorem RV.texts {w : World} {ss : List ByteArray} (ty : TypeId) (hne : ss ≠ []) (n : Nat) (hn : n = ss.length) :
    RV (noGh fun b => w.heap.size ≤ b ∧ b < (w.alloc (.cells (ss.map Value.string).toArray ty (0, 0))).heap.size) noSh (w.alloc (.cells (ss.map Value.string).toArray ty (0, 0)))
      (.one (.d (.vec 1 (ss.map fun s => [.str s.data.toList])))) (.slice (some ⟨w.heap.size, 0, none⟩) n n) := by
  refine .one _ _ (.d _ _ ?_)
  have hl : (ss.map fun s => [D.str s.data.toList]).length = n := by simp [hn]
  have hcell : ∀ i, (w.alloc (.cells (ss.map Value.string).toArray ty (0, 0))).cell? ⟨w.heap.size, i, none⟩ = (ss[i]?).map Value.string := by
    intro i
    simp only [World.cell?, World.alloc, Array.getElem?_push_size]
    simp
  have key := RD.vec (im := (noGh fun b => w.heap.size ≤ b ∧ b < (w.alloc (.cells (ss.map Value.string).toArray ty (0, 0))).heap.size).im) (w := w.alloc (.cells (ss.map Value.string).toArray ty (0, 0))) 1 (ss.map fun s => [D.str s.data.toList]) w.heap.size 0 n
    (fun i _ => .string (ss.getD i ByteArray.empty)) (by simpa using hne) (by rw [hl]; exact Nat.le_refl _) ⟨Nat.le_refl _, by show _ < (w.heap.push _).size; simp⟩ (by simp)
    (fun i j x d h1 h2 => by
      simp only [List.getElem?_map, Option.map_eq_some_iff] at h1
      obtain ⟨s, h1, rfl⟩ := h1
      match j with
      | 0 => simp [hcell, h1, List.getD]
      | j + 1 => simp at h2)
    (fun i j x d h1 h2 => by
      simp only [List.getElem?_map, Option.map_eq_some_iff] at h1
      obtain ⟨s, h1, rfl⟩ := h1
      match j with
      | 0 => simp at h2; subst h2; simp [h1, List.getD]; exact .str s.data.toList
      | j + 1 => simp at h2)
  rw [hl] at key
  exact key

/-- A package's variable, told by its number, stays. -/
theorem cell_below {w w' : World} (h : Below w.heap.size w w') {b o : Nat} {v : Value} (hc : w.cell? ⟨b, o, none⟩ = some v) : w'.cell? ⟨b, o, none⟩ = some v := by
  have hb : b < w.heap.size := by
    apply Decidable.byContradiction; intro hn
    simp only [World.cell?] at hc
    rw [Array.getElem?_eq_none (by omega)] at hc
    simp at hc
  rw [h.cell (p := ⟨b, o, none⟩) hb]; exact hc
theorem var_below {P : Program} {w w' : World} (h : Below w.heap.size w w') {s : String} {cs : Array Value} (hc : w.var? P s = some cs) : w'.var? P s = some cs := by
  simp only [World.var?, Option.bind_eq_some_iff] at hc ⊢
  obtain ⟨g, hg, hx⟩ := hc
  refine ⟨g, hg, ?_⟩
  have hb : g < w.heap.size := by
    apply Decidable.byContradiction; intro hn
    rw [Array.getElem?_eq_none (by omega)] at hx
    simp at hx
  rw [h.block g hb]; exact hx
end Go.Proofs.YtepdjimbnbiicaaGreatDoor
