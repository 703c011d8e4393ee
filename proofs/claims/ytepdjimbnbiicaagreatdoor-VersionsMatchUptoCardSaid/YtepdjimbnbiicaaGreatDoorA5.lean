/- The abstract layer, part 5: the operations that only compute, joined; their steps. -/
import Derived.Test.YtepdjimbnbiicaaGreatDoorA4
set_option linter.unusedVariables false
set_option linter.unusedSimpArgs false
set_option linter.unnecessarySimpa false
namespace Go.Proofs.YtepdjimbnbiicaaGreatDoor
open Go Go.RowKit

theorem both_some {n : Nat} {s : St} {x y : Operand} {f : V → V → Option (Bool × V)} {v : V} (h : both n s x y f = some (true, v)) :
    ∃ u u', opd n s x = (true, u) ∧ opd n s y = (true, u') ∧ f u u' = some (true, v) := by
  unfold both at h
  generalize opd n s x = p at *
  generalize opd n s y = q at *
  obtain ⟨b, u⟩ := p
  obtain ⟨c, u'⟩ := q
  simp only at h
  split at h
  · rename_i o z hz
    simp only [Option.some.injEq, Prod.mk.injEq, Bool.and_eq_true] at h
    obtain ⟨⟨⟨rfl, rfl⟩, rfl⟩, rfl⟩ := h
    exact ⟨u, u', rfl, rfl, hz⟩
  · cases h
theorem one'_some {n : Nat} {s : St} {x : Operand} {f : V → Option V} {v : V} (h : one' n s x f = some (true, v)) :
    ∃ u, opd n s x = (true, u) ∧ f u = some v := by
  unfold one' at h
  generalize opd n s x = p at *
  obtain ⟨b, u⟩ := p
  simp only at h
  split at h
  · rename_i z hz
    simp only [Option.some.injEq, Prod.mk.injEq] at h
    obtain ⟨rfl, rfl⟩ := h
    exact ⟨u, rfl, hz⟩
  · cases h

section
variable {J : Inv} {E : Env J} {P : Program} {T : TypeId → Option TI} {n : Nat} {s : St} {g : Gh} {a : Act} {w : World}

theorem evUn_ok {h : Sh} {op : UnOp} {u r : V} {v : Value} (he : evUn op u = some r) (hu : RV g h w u v) : ∃ z, (Op.unary op v).run P w = .ok z w ∧ RV g h w r z := by
  unfold evUn at he
  split at he
  · cases hu with | one _ _ hu => cases hu with | d _ _ hu => cases hu with | bool =>
    split at he
    · obtain rfl : _ = r := by simpa using he
      exact ⟨_, rfl, .one _ _ (.d _ _ (.bool _))⟩
    · cases he
  · cases hu with | one _ _ hu => cases hu with | d _ _ hu => cases hu with | int =>
    split at he
    · cases he
      exact ⟨_, rfl, .one _ _ (.d _ _ (.int _ _))⟩
    · cases he
  · cases he

theorem size_mk (s : List UInt8) : (ByteArray.mk s.toArray).size = s.length := by simp [ByteArray.size]

theorem evLen_ok (hT : TabOk P T) {h : Sh} {t ty : TypeId} {u r : V} {v : Value} (he : evLen T t u = some r) (hu : RV g h w u v) :
    ∃ z, (Builtin.len_ #[t] ty #[v]).run P w = .ok z w ∧ RV g h w r z := by
  unfold evLen at he
  split at he
  · cases hu with | one _ _ hu => cases hu with | d _ _ hu => cases hu with | str =>
    split at he
    · rename_i ht
      obtain rfl : _ = r := by simpa using he
      refine ⟨_, ?_, .one _ _ (.d _ _ (.int _ _))⟩
      simp [Builtin.len_, run_underlying' hT ht, goInt, size_mk]
    · cases he
  · cases hu with | one _ _ hu => cases hu with | d _ _ hu =>
    split at he
    · rename_i ht
      obtain rfl : _ = r := by simpa using he
      cases hu with
      | empty => exact ⟨_, by simp [Builtin.len_, run_underlying' hT ht, goInt] <;> rfl, .one _ _ (.d _ _ (.int _ _))⟩
      | vec => exact ⟨_, by simp [Builtin.len_, run_underlying' hT ht, goInt] <;> rfl, .one _ _ (.d _ _ (.int _ _))⟩
    · cases he
  · cases hu with | one _ _ hu => cases hu with | d _ _ hu => cases hu with | nilsl =>
    split at he
    · rename_i ht
      obtain rfl : _ = r := by simpa using he
      exact ⟨_, by simp [Builtin.len_, run_underlying' hT ht, goInt] <;> rfl, .one _ _ (.d _ _ (.int _ _))⟩
    · cases he
  · split at he <;> cases he
  · cases he

/-- The bounds of a slicing. -/
theorem sliceBounds_ok {m : Nat} {isS : Bool} {cap : Nat} {lo hi : Option Value} {l h : Int}
    (hl : lo = none ∧ l = 0 ∨ ∃ k, lo = some (.int k l)) (hh : hi = none ∧ h = m ∨ ∃ k, hi = some (.int k h)) (h0 : 0 ≤ l) (h1 : l ≤ h) (h2 : h ≤ (m : Int)) (hc : m ≤ cap) :
    (Instr.sliceBounds isS m cap lo hi none).run P w = .ok (l.toNat, h.toNat, cap) w := by
  have hb : ∀ (v : Value) (k : IntKind) (i : Int) (y : Nat) (c : BoundsCode), v = .int k i → 0 ≤ i → i ≤ (y : Int) → (Instr.sliceBound v y c).run P w = .ok i.toNat w := by
    rintro _ k i y c rfl e1 e2
    simp [Instr.sliceBound, asIntOf, e1, e2]
  have e2 : (h.toNat : Int) = h := by omega
  unfold Instr.sliceBounds
  rcases hh with ⟨rfl, rfl⟩ | ⟨k, rfl⟩ <;> rcases hl with ⟨rfl, rfl⟩ | ⟨k', rfl⟩
  · simp
  · simp [hb _ k' l m _ rfl h0 h1]
  · simp [hb _ k h cap _ rfl (by omega) (by omega)]
  · simp [hb _ k h cap _ rfl (by omega) (by omega), hb _ k' l h.toNat _ rfl h0 (by omega)]

theorem bnd_ok (r : Rel E n g s a w) {d : Int} {x : Option Operand} {b : Bool} {i : Int} (h : bnd n s d x = some (b, i)) (hb : b = true) :
    x.map a.eval = none ∧ i = d ∨ ∃ k, x.map a.eval = some (.int k i) := by
  cases x with
  | none => obtain ⟨_, rfl⟩ : true = b ∧ d = i := by simpa [bnd] using h
            exact .inl ⟨rfl, rfl⟩
  | some x =>
    unfold bnd at h
    simp only at h
    split at h
    · rename_i b' k i' ho
      obtain ⟨rfl, rfl⟩ : b' = b ∧ i' = i := by simpa using h
      have := opd_ok r ho hb
      cases this with | one _ _ q => cases q with | d _ _ q =>
      right
      refine ⟨k, ?_⟩
      generalize hz : a.eval x = z at q
      cases q with | int => simp [hz]
    · cases h

theorem drop_take_toArray (l : List UInt8) (i j : Nat) : (ByteArray.mk l.toArray).extract i j = ByteArray.mk ((l.take j).drop i).toArray := by
  apply ByteArray.ext
  simp [ByteArray.data_extract, List.extract_eq_take_drop, List.drop_take]

theorem evSlice_ok (hT : TabOk P T) {h : Sh} {t : TypeId} {lo hi : Bool × Int} {u r : V} {v : Value} {lo' hi' : Option Value} {len : Int} (he : evSlice T t lo hi u = some (true, r)) (hu : RV g h w u v)
    (hlen : lenOfV u = some len) (hlo : lo.1 = true → lo' = none ∧ lo.2 = 0 ∨ ∃ k, lo' = some (.int k lo.2)) (hhi : hi.1 = true → hi' = none ∧ hi.2 = len ∨ ∃ k, hi' = some (.int k hi.2)) :
    ∃ z, (Instr.sliceAt t v lo' hi' none).run P w = .ok z w ∧ RV g h w r z := by
  obtain ⟨b1, l⟩ := lo
  obtain ⟨b2, q⟩ := hi
  unfold evSlice at he
  split at he
  · rename_i s'
    cases hu with | one _ _ hu => cases hu with | d _ _ hu => cases hu with | str =>
    obtain rfl : (s'.length : Int) = len := by simpa [lenOfV] using hlen
    split at he
    · rename_i ht
      simp only [Option.some.injEq, Prod.mk.injEq, Bool.and_eq_true, decide_eq_true_eq] at he
      obtain ⟨⟨⟨rfl, rfl⟩, ⟨h0, h1⟩, h2⟩, rfl⟩ := he
      refine ⟨_, ?_, .one _ _ (.d _ _ (.str _))⟩
      have hb := sliceBounds_ok (P := P) (w := w) (isS := false) (m := s'.length) (cap := s'.length) (hlo rfl) (hhi rfl) h0 h1 h2 (Nat.le_refl _)
      simp only [Instr.sliceAt, Instr.slice, Sem.run_bind, run_underlying' hT ht, Result.andThen_ok, Option.isSome, Bool.false_eq_true, if_false, size_mk, hb, Sem.run_pure, drop_take_toArray]
    · cases he
  · rename_i sz xs
    obtain rfl : (xs.length : Int) = len := by simpa [lenOfV] using hlen
    split at he
    · rename_i e _ _ _ _ ht
      split at he
      · rename_i j hj
        split at he
        · rename_i hsz
          simp only [Option.some.injEq, Prod.mk.injEq, Bool.and_eq_true, decide_eq_true_eq] at he
          obtain ⟨⟨⟨rfl, rfl⟩, ⟨h0, h1⟩, h2⟩, rfl⟩ := he
          cases hu with | one _ _ hu => cases hu with | d _ _ hu => cases hu with
          | empty _ A cap =>
            have hb := sliceBounds_ok (P := P) (w := w) (isS := true) (m := 0) (cap := cap) (hlo rfl) (by simpa using hhi rfl) h0 h1 (by simpa using h2) (Nat.zero_le _)
            simp only [List.length_nil] at h2
            have e1 : q.toNat = 0 := by omega
            have e2 : l.toNat = 0 := by omega
            refine ⟨.slice (if cap = 0 then A else A.map (·.add (0 * j.size))) 0 cap, ?_, ?_⟩
            · simp only [Instr.sliceAt, Instr.slice, Sem.run_bind, run_underlying' hT ht, Result.andThen_ok, run_sizeOf' hT hj, hb, Sem.run_pure, e1, e2, Nat.sub_zero]
            · simp only [e1, e2, List.take_nil, List.drop_nil]
              exact .one _ _ (.d _ _ (.empty _ _ _))
          | vec _ _ b o cap u hne hc hb hsz' hcell hrd =>
            have hbb := sliceBounds_ok (P := P) (w := w) (isS := true) (m := xs.length) (cap := cap) (hlo rfl) (hhi rfl) h0 h1 h2 hc
            refine ⟨.slice (if cap = l.toNat then some ⟨b, o, none⟩ else some ⟨b, o + l.toNat * j.size, none⟩) (q.toNat - l.toNat) (cap - l.toNat), ?_, ?_⟩
            · simp only [Instr.sliceAt, Instr.slice, Sem.run_bind, run_underlying' hT ht, Result.andThen_ok, run_sizeOf' hT hj, hbb, Sem.run_pure, Option.map_some, add_none]
            · have hlen' : ((xs.take q.toNat).drop l.toNat).length = q.toNat - l.toNat := by simp; omega
              by_cases hz : (xs.take q.toNat).drop l.toNat = []
              · rw [hz]
                have : q.toNat - l.toNat = 0 := by rw [← hlen', hz]; rfl
                rw [this]
                exact .one _ _ (.d _ _ (.empty _ _ _))
              · have hpos : 0 < q.toNat - l.toNat := by rw [← hlen']; exact List.length_pos_iff.2 hz
                rw [if_neg (by omega), ← hlen']
                refine .one _ _ (.d _ _ (.vec sz _ b _ _ (fun i j => u (l.toNat + i) j) hz (by rw [hlen']; omega) hb (fun x hx => hsz' x (List.mem_of_mem_take (List.mem_of_mem_drop hx))) (fun i k x d hi hk => ?_) (fun i k x d hi hk => ?_)))
                · rw [List.getElem?_drop, List.getElem?_take] at hi
                  split at hi
                  · have := hcell _ _ _ _ hi hk
                    rw [hsz]
                    rw [show o + l.toNat * sz + i * sz + k = o + (l.toNat + i) * sz + k by rw [Nat.add_mul]; omega]
                    exact this
                  · cases hi
                · rw [List.getElem?_drop, List.getElem?_take] at hi
                  split at hi
                  · exact hrd _ _ _ _ hi hk
                  · cases hi
        · cases he
      · cases he
    · cases he
  · cases he

theorem evConv_ok (hT : TabOk P T) {h : Sh} {p q : TypeId} {u r : V} {v : Value} (he : evConv T p q u = some r) (hu : RV g h w u v) :
    ∃ z, (Go.convert p q v).run P w = .ok z w ∧ RV g h w r z := by
  unfold evConv at he
  split at he
  · cases hu with | one _ _ hu => cases hu with | d _ _ hu => cases hu with | int =>
    split at he
    · rename_i h1 h2
      obtain rfl : _ = r := by simpa using he
      refine ⟨_, ?_, .one _ _ (.d _ _ (.int _ _))⟩
      simp only [Go.convert, Sem.run_bind, run_underlying' hT h1, run_underlying' hT h2, Result.andThen_ok, Conv.intToInt, Sem.run_pure]
    · rename_i h1 h2
      obtain rfl : _ = r := by simpa using he
      refine ⟨_, ?_, .one _ _ (.d _ _ (.str _))⟩
      simp only [Go.convert, Sem.run_bind, run_underlying' hT h1, run_underlying' hT h2, Result.andThen_ok, Conv.intToString, Sem.run_pure]
    · cases he
  · cases hu with | one _ _ hu => cases hu with | d _ _ hu => cases hu with | str =>
    split at he
    · rename_i h1 h2
      obtain rfl : _ = r := by simpa using he
      refine ⟨_, ?_, .one _ _ (.d _ _ (.str _))⟩
      simp only [Go.convert, Sem.run_bind, run_underlying' hT h1, run_underlying' hT h2, Result.andThen_ok, Sem.run_pure]
    · cases he
  · cases he

/-! ### Literals of structs and arrays -/
theorem oneCell_cells {v : Value} (h : v.oneCell' = true) : v.cells = #[v] := by cases v <;> first | rfl | cases h

theorem fold_set_one (cells : Array Value) (off : Nat) (v : Value) : (#[v] : Array Value).zipIdx.foldl (fun cs (c, j) => cs.setIfInBounds (off + j) c) cells = cells.setIfInBounds off v := by
  simp

theorem fold_set (off : Nat) : ∀ (vs : List Value) (k : Nat) (pre mid post : List Value), pre.length = off + k → mid.length = vs.length →
    (vs.zipIdx k).foldl (fun (cs : Array Value) (x : Value × Nat) => cs.setIfInBounds (off + x.2) x.1) (pre ++ mid ++ post).toArray = (pre ++ vs ++ post).toArray
  | [], k, pre, mid, post, hp, hm => by
    obtain rfl : mid = [] := by simpa using hm
    simp
  | v :: vs, k, pre, mid, post, hp, hm => by
    obtain ⟨m, mid, rfl⟩ : ∃ m mid', mid = m :: mid' := by cases mid with | nil => simp at hm | cons m mid => exact ⟨m, mid, rfl⟩
    have h1 : ((pre ++ (m :: mid) ++ post).toArray).setIfInBounds (off + k) v = (pre ++ [v] ++ mid ++ post).toArray := by
      simp only [List.setIfInBounds_toArray]
      congr 1
      rw [← hp]
      simp
    simp only [List.zipIdx_cons, List.foldl_cons, h1]
    have := fold_set off vs (k + 1) (pre ++ [v]) mid post (by simp; omega) (by simpa using hm)
    simpa using this

theorem fillC_ok {h : Sh} (place : Nat → Option (Nat × Nat)) : ∀ (parts : List (Nat × V)) (vals : List (Nat × Value)) (cs out : List C) (vs : List Value),
    parts.length = vals.length → (∀ (i : Nat) (p : Nat × V) (q : Nat × Value), parts[i]? = some p → vals[i]? = some q → p.1 = q.1 ∧ RV g h w p.2 q.2) →
    vs.length = cs.length → (∀ (i : Nat) (c : C) (v : Value), cs[i]? = some c → vs[i]? = some v → RC g h w c v) →
    fillC place cs parts = some out → ∃ us : List Value, Instr.fill place vs.toArray vals = some us.toArray ∧ us.length = out.length ∧
      (∀ (i : Nat) (c : C) (v : Value), out[i]? = some c → us[i]? = some v → RC g h w c v)
  | [], [], cs, out, vs, _, _, hl, hx, he => by
    obtain rfl : cs = out := by simpa [fillC] using he
    exact ⟨vs, rfl, hl, hx⟩
  | (i, v) :: parts, (j, u) :: vals, cs, out, vs, hlen, hp, hl, hx, he => by
    obtain ⟨hij, hv⟩ := hp 0 _ _ rfl rfl
    obtain rfl : i = j := hij
    have hp' : ∀ (i : Nat) (p : Nat × V) (q : Nat × Value), parts[i]? = some p → vals[i]? = some q → p.1 = q.1 ∧ RV g h w p.2 q.2 := fun k p q h1 h2 => hp (k + 1) p q (by simpa using h1) (by simpa using h2)
    unfold fillC at he
    unfold Instr.fill
    split at he
    · cases he
    · rename_i off size hpl
      simp only [hpl]
      split at he
      · rename_i c
        split at he
        · rename_i hc
          obtain ⟨rfl, hoff⟩ := hc
          cases hv with | one _ _ hv =>
          have h1 := oneCell_cells hv.one
          rw [h1, if_neg (by simp; omega)]
          have h2 : (#[u] : Array Value).zipIdx.foldl (fun cs (c, j) => cs.setIfInBounds (off + j) c) vs.toArray = (vs.set off u).toArray := by
            rw [fold_set_one]; simp
          rw [h2]
          refine fillC_ok place parts vals _ out _ (by simpa using hlen) hp' (by simp [hl]) (fun k c' v' hc hv' => ?_) he
          rw [List.getElem?_set] at hc hv'
          split at hc
          · rename_i hk
            subst hk
            simp [hoff, hl] at hc hv'
            subst hc; subst hv'
            exact hv
          · rename_i hk
            rw [if_neg hk] at hv'
            exact hx k c' v' hc hv'
        · cases he
      · rename_i ds
        split at he
        · rename_i hc
          obtain ⟨rfl, hoff⟩ := hc
          cases hv with | agg _ us hul hux =>
          have h1 : (Value.agg us.toArray).cells = us.toArray := rfl
          rw [h1, if_neg (by simp [hul]; omega)]
          have h2 : us.toArray.zipIdx.foldl (fun cs (c, j) => cs.setIfInBounds (off + j) c) vs.toArray = (vs.take off ++ us ++ vs.drop (off + us.length)).toArray := by
            have h3 := fold_set off us 0 (vs.take off) ((vs.drop off).take us.length) (vs.drop (off + us.length)) (by simp; omega) (by simp; omega)
            have h4 : vs.take off ++ (vs.drop off).take us.length ++ vs.drop (off + us.length) = vs := by
              rw [List.append_assoc, ← List.drop_drop, List.take_append_drop, List.take_append_drop]
            rw [h4] at h3
            rw [← h3]
            simp [← Array.foldl_toList]
          rw [h2]
          refine fillC_ok place parts vals _ out _ (by simpa using hlen) hp' (by simp [hl, hul]) (fun k c' v' hc hv' => ?_) he
          simp only [List.append_assoc] at hc hv'
          by_cases k1 : k < off
          · rw [List.getElem?_append_left (by simp; omega), List.getElem?_take, if_pos k1] at hc hv'
            exact hx k c' v' hc hv'
          · rw [List.getElem?_append_right (by simp; omega)] at hc hv'
            simp only [List.length_take] at hc hv'
            rw [show min off cs.length = off by omega] at hc
            rw [show min off vs.length = off by omega] at hv'
            by_cases k2 : k - off < ds.length
            · rw [List.getElem?_append_left (by omega)] at hc hv'
              exact hux _ _ _ hc hv'
            · rw [List.getElem?_append_right (by omega)] at hc hv'
              rw [List.getElem?_drop] at hc hv'
              rw [hul] at hv'
              exact hx _ _ _ hc hv'
        · cases he
      · cases he

end
end Go.Proofs.YtepdjimbnbiicaaGreatDoor
