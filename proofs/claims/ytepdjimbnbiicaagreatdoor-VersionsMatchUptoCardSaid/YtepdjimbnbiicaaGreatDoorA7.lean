/- The abstract layer, part 7: boxes, new slices, calls; a function's contract out of its body. -/
import Derived.Test.YtepdjimbnbiicaaGreatDoorA6
import Derived.Laws.IdiomCopy
set_option linter.unusedVariables false
set_option linter.unusedSimpArgs false
set_option linter.unnecessarySimpa false
namespace Go.Proofs.YtepdjimbnbiicaaGreatDoor
open Go Go.RowKit

section
variable {J : Inv} {E : Env J} {P : Program} {T : TypeId → Option TI} {n : Nat} {s : St} {g : Gh} {a : Act} {w : World}

/-! ### Pure values and the ghost -/
mutual
theorem RC.pure {g : Gh} {h : Sh} {w : World} (g' : Gh) (h' : Sh) (hi : g'.im = g.im) : ∀ (c : C) (v : Value), pureC c = true → RC g h w c v → RC g' h' w c v
  | .d x, v, _, hx => by cases hx with | d _ _ hx => exact .d _ _ (by rw [hi]; exact hx)
  | .clo f caps, v, hp, hx => by
    cases hx with | clo _ _ vs hl hx =>
    exact .clo f caps vs hl (RC.pures g' h' hi caps vs (by simpa [pureC] using hp) hx)
  | .ptr _ _, _, hp, _ => by simp [pureC] at hp
  | .eptr _, _, hp, _ => by simp [pureC] at hp
  | .row _ _ _ _, _, hp, _ => by simp [pureC] at hp
  | .rptr _ _ _, _, hp, _ => by simp [pureC] at hp
  | .map _, _, hp, _ => by simp [pureC] at hp
  | .junk, _, hp, _ => by simp [pureC] at hp
theorem RC.pures {g : Gh} {h : Sh} {w : World} (g' : Gh) (h' : Sh) (hi : g'.im = g.im) : ∀ (cs : List C) (vs : List Value), pureCs cs = true → (∀ (i : Nat) (c : C) (v : Value), cs[i]? = some c → vs[i]? = some v → RC g h w c v) →
    ∀ (i : Nat) (c : C) (v : Value), cs[i]? = some c → vs[i]? = some v → RC g' h' w c v
  | [], vs, _, _, i, c, v, h1, _ => by simp at h1
  | c0 :: cs, vs, hp, hx, i, c, v, h1, h2 => by
    simp only [pureCs, Bool.and_eq_true] at hp
    cases i with
    | zero =>
      obtain rfl : c0 = c := by simpa using h1
      exact RC.pure g' h' hi c0 v hp.1 (hx 0 c0 v rfl h2)
    | succ i =>
      refine RC.pures g' h' hi cs (vs.drop 1) hp.2 (fun j c v h3 h4 => hx (j + 1) c v (by simpa using h3) (by rw [List.getElem?_drop, Nat.add_comm] at h4; exact h4)) i c v (by simpa using h1) ?_
      rw [List.getElem?_drop, Nat.add_comm]; exact h2
end

theorem RV.pure {g : Gh} {h : Sh} {w : World} (g' : Gh) (h' : Sh) (hi : g'.im = g.im) {u : V} {v : Value} (hp : pureV u = true) (hx : RV g h w u v) : RV g' h' w u v := by
  cases hx with
  | one c v hx => exact .one _ _ (hx.pure g' h' hi _ _ (by simpa [pureV] using hp))
  | agg cs vs hl hx => exact .agg cs vs hl (RC.pures g' h' hi cs vs (by simpa [pureV] using hp) hx)
  | tup => simp [pureV] at hp
  | whenT => simp [pureV] at hp
  | whenF => simp [pureV] at hp
  | junk => simp [pureV] at hp

theorem Ext.fromNo (im : Nat → Prop) (w : World) (g : Gh) (h : Sh) (hi : g.im = im) : Ext (noGh im) noSh w g h w :=
  ⟨fun b hb => by rw [hi]; exact hb, fun _ _ => rfl, Nat.zero_le _, Nat.zero_le _, Nat.zero_le _, fun l hl => absurd hl (Nat.not_lt_zero _), fun l hl => absurd hl (Nat.not_lt_zero _),
    fun r _ _ _ _ hr => absurd hr (Nat.not_lt_zero _)⟩

/-! ### A new box -/
def Gh.box (g : Gh) (l b : Nat) : Gh := { g with at_ := fun x => if x = .b l then b else g.at_ x }

theorem Rel.newBox (r : Rel E n g s a w) (d : Option Nat) {cs : List C} {vs : List Value} {t : TypeId} (hl : vs.length = cs.length)
    (hx : ∀ (i : Nat) (c : C) (v : Value), cs[i]? = some c → vs[i]? = some v → RC g s.sh w c v) :
    Rel E n (g.box s.b.length w.heap.size) ((⟨s.t, s.b ++ [cs], s.r, s.m⟩ : St).set d (.one (.ptr s.b.length 0))) (a.put d (.pointer (some ⟨w.heap.size, 0, none⟩))) (w.alloc (.cells vs.toArray t)) := by
  obtain ⟨s1, hs1⟩ : ∃ s1 : St, s1 = ⟨s.t, s.b ++ [cs], s.r, s.m⟩ := ⟨_, rfl⟩
  have hsz : (w.alloc (.cells vs.toArray t)).heap.size = w.heap.size + 1 := by simp
  have hold : ∀ k, k < w.heap.size → (w.alloc (.cells vs.toArray t)).heap[k]? = w.heap[k]? := fun k hk => Below.heap_alloc w _ k hk
  have hnew : (w.alloc (.cells vs.toArray t)).heap[w.heap.size]? = some (.cells vs.toArray t (0, 0)) := by show (w.heap.push _)[w.heap.size]? = _; simp
  have e : Ext g s.sh w (g.box s.b.length w.heap.size) s1.sh (w.alloc (.cells vs.toArray t)) := by
    subst hs1
    refine ⟨fun _ h => h, fun b hb => hold b (r.imlt b hb), by simp [St.sh], Nat.le_refl _, Nat.le_refl _, fun l hl => ?_, fun _ _ => by simp [Gh.box], fun q al ver sz len hq h => ⟨al, ver, sz, len, h, Nat.le_refl _, fun _ => ⟨rfl, rfl, Nat.le_refl _, by simp [Gh.box], rfl, rfl⟩⟩⟩
    have : l ≠ s.b.length := by have : l < s.b.length := hl; omega
    simp [Gh.box, this]
  have hat : ∀ x, s.live x → (g.box s.b.length w.heap.size).at_ x = g.at_ x := fun x hx => by
    have : x ≠ .b s.b.length := by rintro rfl; exact absurd (show s.b.length < s.b.length from hx) (Nat.lt_irrefl _)
    simp [Gh.box, this]
  have hlive : ∀ x, s1.live x → s.live x ∨ x = .b s.b.length := fun x hx => by
    subst hs1
    cases x with
    | b l => have h2 : l < s.b.length + 1 := by have := show l < (s.b ++ [cs]).length from hx; simpa using this
             rcases Nat.lt_or_ge l s.b.length with h | h
             · exact .inl h
             · right; congr 1; omega
    | r l => exact .inl hx
    | m l => exact .inl hx
  have hnewat : (g.box s.b.length w.heap.size).at_ (.b s.b.length) = w.heap.size := by simp [Gh.box]
  have hheap : Heap (g.box s.b.length w.heap.size) s1 (w.alloc (.cells vs.toArray t)) := by
    refine ⟨fun x hx => ?_, fun x hx => ?_, fun x y hx hy he => ?_, fun l cs' hl' => ?_, fun l o ho => ?_, fun l es hes => ?_⟩
    · rcases hlive x hx with h | rfl
      · rw [hat x h, hsz]; exact Nat.lt_succ_of_lt (r.heap.lt x h)
      · rw [hnewat, hsz]; exact Nat.lt_succ_self _
    · rcases hlive x hx with h | rfl
      · rw [hat x h]; exact r.heap.new x h
      · rw [hnewat]; exact fun hi => absurd (r.imlt _ hi) (Nat.lt_irrefl _)
    · rcases hlive x hx with h | rfl <;> rcases hlive y hy with h' | rfl
      · rw [hat x h, hat y h'] at he; exact r.heap.inj x y h h' he
      · rw [hat x h, hnewat] at he; exact absurd (r.heap.lt x h) (by omega)
      · rw [hat y h', hnewat] at he; exact absurd (r.heap.lt y h') (by omega)
      · rfl
    · subst hs1
      rcases Nat.lt_or_ge l s.b.length with h | h
      · have hl2 : s.b[l]? = some cs' := by rwa [List.getElem?_append_left h] at hl'
        obtain ⟨vs', t', h1, h2, h3⟩ := r.heap.box l cs' hl2
        rw [hat (.b l) h]
        exact ⟨vs', t', by rw [hold _ (r.heap.lt (.b l) h)]; exact h1, h2, fun j c v hc hv => (h3 j c v hc hv).mono e⟩
      · have hl2 : l = s.b.length ∧ cs = cs' := by
          rw [List.getElem?_append_right h] at hl'
          have h4 : l - s.b.length < 1 := by have := (List.getElem?_eq_some_iff.1 hl').1; simpa using this
          have h5 : l - s.b.length = 0 := by omega
          rw [h5] at hl'
          exact ⟨by omega, by simpa using hl'⟩
        obtain ⟨rfl, rfl⟩ := hl2
        rw [hnewat]
        exact ⟨vs.toArray, t, hnew, by simpa using hl, fun j c v hc hv => (hx j c v hc (by simpa using hv)).mono e⟩
    · have ho' : s.r[l]? = some (some o) := by subst hs1; exact ho
      have := r.heap.row l o ho'
      by_cases hal : o.al = true
      · rw [if_pos hal] at this ⊢
        obtain ⟨vs', t', h1, h2, h3, h4, h5, h6⟩ := this
        rw [hat (.r l) ⟨o, ho', hal⟩]
        exact ⟨vs', t', by rw [hold _ (r.heap.lt (.r l) ⟨o, ho', hal⟩)]; exact h1, h2, h3, h4, h5, fun i j x d v p q u => (h6 i j x d v p q u).mono e.im e.same⟩
      · rw [if_neg hal] at this ⊢; exact this
    · have hes' : s.m[l]? = some es := by subst hs1; exact hes
      obtain ⟨arr, clock, h1, h2, h3⟩ := r.heap.map l es hes'
      have hlv : s.live (.m l) := (List.getElem?_eq_some_iff.1 hes').1
      rw [hat (.m l) hlv]
      exact ⟨arr, clock, by rw [hold _ (r.heap.lt (.m l) hlv)]; exact h1, h2, fun i x y hx hy => ⟨(h3 i x y hx hy).1.mono e, (h3 i x y hx hy).2.mono e⟩⟩
  have hbelow : Below E.w0.heap.size E.w0 (w.alloc (.cells vs.toArray t)) := r.below.alloc r.below.size _
  have rel1 : Rel E n (g.box s.b.length w.heap.size) s1 a (w.alloc (.cells vs.toArray t)) := by
    refine ⟨hbelow, r.im0, fun b hb => by rw [hsz]; exact Nat.lt_succ_of_lt (r.imlt b hb), r.imold, fun x hx => ?_, hheap, r.size, r.defers, fun i hi => ?_⟩
    · rcases hlive x hx with h | rfl
      · rw [hat x h]; exact r.own x h
      · rw [hnewat]; exact r.below.size
    · have := (r.tmps i hi).mono e
      subst hs1; exact this
  have := rel1.put_same d (u := .one (.ptr s.b.length 0)) (v := .pointer (some ⟨w.heap.size, 0, none⟩)) (by
    have h := RC.ptr (g := g.box s.b.length w.heap.size) (h := s1.sh) (w := w.alloc (.cells vs.toArray t)) s.b.length 0 (by subst hs1; simp [St.sh])
    rw [hnewat] at h
    exact .one _ _ h)
  subst hs1
  exact this

/-- 'new(T)', 'var x T' in memory. -/
theorem Step.alloc {ops : Array Oper} {o : Oper} {K : St → Prop} {t : TypeId} {i : TI} {cs : List C} (hT : TabOk P T) (ho : o.op = .alloc t) (hg : o.guard = none) (hi : T t = some i) (hz : zeroC i = some cs)
    (k : K ((⟨s.t, s.b ++ [cs], s.r, s.m⟩ : St).set o.dst (.one (.ptr s.b.length 0)))) : Step E P n ops o K s := by
  intro g a w r next Q hn
  have hw : Region.wanted o (yielded ops a.tmps) = true := by simp [Region.wanted, hg]
  rw [if_pos hw]
  obtain ⟨vs, h1, h2, h3, _⟩ := zeroC_ok (h := s.sh) hz g w
  have hrun : (execOp a.eval o).run P w = .ok (.value (.pointer (some ⟨w.heap.size, 0, none⟩))) (w.alloc (.cells vs.toArray t)) := by
    simp [execOp, ho, Instr.alloc, run_zeroValue' hT hi, newVar, newRow, h1]
  unfold Oper.wp
  rw [hrun]
  exact hn _ _ _ _ k (r.newBox o.dst h2 h3)

theorem Step.box {ops : Array Oper} {o : Oper} {K : St → Prop} {t : TypeId} {x : Operand} {v : V} {cs : List C} (ho : o.op = .box t x) (hg : o.guard = none) (hx : opd n s x = (true, v)) (hc : cellsOfV v = some cs)
    (k : K ((⟨s.t, s.b ++ [cs], s.r, s.m⟩ : St).set o.dst (.one (.ptr s.b.length 0)))) : Step E P n ops o K s := by
  intro g a w r next Q hn
  have hw : Region.wanted o (yielded ops a.tmps) = true := by simp [Region.wanted, hg]
  rw [if_pos hw]
  obtain ⟨vs, h1, h2, h3, _⟩ := cellsOf_ok hc (opd_ok r hx rfl)
  have hrun : (execOp a.eval o).run P w = .ok (.value (.pointer (some ⟨w.heap.size, 0, none⟩))) (w.alloc (.cells vs.toArray t)) := by
    simp [execOp, ho, Instr.box, newVar, newRow, h1]
  unfold Oper.wp
  rw [hrun]
  exact hn _ _ _ _ k (r.newBox o.dst h2 h3)

/-! ### A store -/
theorem storeCells_run {b t : Nat} : ∀ (vs : List Value) (i : Nat) (w : World) (cur : Array Value), w.heap[b]? = some (.cells cur t (0, 0)) → i + vs.length ≤ cur.size → (∀ v ∈ vs, v.oneCell' = true) → ∀ (o : Nat), o ≤ i →
    (storeCells ⟨b, o, none⟩ vs (i - o)).run P w = .ok () { w with heap := w.heap.setIfInBounds b (.cells (cur.toList.take i ++ vs ++ cur.toList.drop (i + vs.length)).toArray t (0, 0)) }
  | [], i, w, cur, hb, hl, h1, o, ho => by
    have hlt := (Array.getElem?_eq_some_iff.1 hb)
    simp only [storeCells, Sem.run_pure, List.append_nil, List.length_nil, Nat.add_zero, List.take_append_drop]
    obtain ⟨h2, h3⟩ := hlt
    congr 1
    have : w.heap.setIfInBounds b (.cells cur t (0, 0)) = w.heap := by
      rw [← h3]
      simp [Array.setIfInBounds, h2]
    simp only [Array.toArray_toList]
    rw [this]
  | v :: vs, i, w, cur, hb, hl, h1, o, ho => by
    simp only [List.length_cons] at hl
    have hi : i < cur.size := by omega
    have hc : w.cell? ⟨b, i, none⟩ = some cur[i] := by simp [World.cell?, hb, hi]
    have hf : w.frozen? ⟨b, i, none⟩ = false := by simp [World.frozen?, hb]
    have hv := h1 v (List.mem_cons_self ..)
    have hlt := (Array.getElem?_eq_some_iff.1 hb).1
    have hset : w.setCell ⟨b, i, none⟩ v = { w with heap := w.heap.setIfInBounds b (.cells (cur.setIfInBounds i v) t (0, 0)) } := by
      simp only [World.setCell]
      congr 1
      apply Array.ext_getElem?
      intro k
      rw [Array.getElem?_modify, Array.getElem?_setIfInBounds]
      by_cases hk : b = k
      · subst hk
        rw [if_pos rfl, if_pos rfl, if_pos hlt, hb]
        rfl
      · simp [hk]
    have ih := storeCells_run (b := b) (t := t) vs (i + 1) { w with heap := w.heap.setIfInBounds b (.cells (cur.setIfInBounds i v) t (0, 0)) } (cur.setIfInBounds i v)
      (by simp [Array.getElem?_setIfInBounds, hlt]) (by simp; omega) (fun u hu => h1 u (List.mem_cons_of_mem _ hu)) o (by omega)
    simp only [storeCells, Sem.run_bind, add_none, run_store P _ _ _ _ hv]
    rw [show o + (i - o) = i by omega, hc]
    simp only [hf, Bool.false_eq_true, if_false, Result.andThen_ok, hset]
    rw [show i - o + 1 = i + 1 - o by omega, ih]
    congr 2
    simp only [Array.setIfInBounds_setIfInBounds]
    congr 3
    simp only [Array.toList_setIfInBounds]
    have e1 : (cur.toList.set i v).take (i + 1) = cur.toList.take i ++ [v] := by
      rw [List.take_add_one, List.take_set_of_le (Nat.le_refl _)]
      simp [hi]
    have e2 : (cur.toList.set i v).drop (i + 1 + vs.length) = cur.toList.drop (i + (vs.length + 1)) := by
      rw [List.drop_set_of_lt (by omega)]
      congr 1
      omega
    rw [e1, e2]
    simp

/-- Box l's cells, those from off on replaced. -/
def putCells (cs : List C) (off : Nat) (ds : List C) : List C := cs.take off ++ ds ++ cs.drop (off + ds.length)

theorem Rel.store (r : Rel E n g s a w) {l off : Nat} {cs ds : List C} {vs us : List Value} {t : TypeId} (hl : s.b[l]? = some cs) (hlen : us.length = ds.length) (hoff : off + ds.length ≤ cs.length)
    (hb : w.heap[g.at_ (.b l)]? = some (.cells vs.toArray t (0, 0))) (hvl : vs.length = cs.length)
    (hx : ∀ (i : Nat) (c : C) (v : Value), ds[i]? = some c → us[i]? = some v → RC g s.sh w c v) (d : Option Nat) (u : V) (v : Value) (hv : RV g s.sh w u v) :
    Rel E n g ((⟨s.t, s.b.set l (putCells cs off ds), s.r, s.m⟩ : St).set d u) (a.put d v) { w with heap := w.heap.setIfInBounds (g.at_ (.b l)) (.cells (vs.take off ++ us ++ vs.drop (off + us.length)).toArray t (0, 0)) } := by
  obtain ⟨s1, hs1⟩ : ∃ s1 : St, s1 = ⟨s.t, s.b.set l (putCells cs off ds), s.r, s.m⟩ := ⟨_, rfl⟩
  obtain ⟨w1, hw1⟩ : ∃ w1 : World, w1 = { w with heap := w.heap.setIfInBounds (g.at_ (.b l)) (.cells (vs.take off ++ us ++ vs.drop (off + us.length)).toArray t (0, 0)) } := ⟨_, rfl⟩
  rw [← hs1, ← hw1]
  have hll : l < s.b.length := (List.getElem?_eq_some_iff.1 hl).1
  have hlive : s.live (.b l) := hll
  have hlt := r.heap.lt _ hlive
  have hold : ∀ k, k ≠ g.at_ (.b l) → w1.heap[k]? = w.heap[k]? := fun k hk => by
    rw [hw1]; simp only; rw [Array.getElem?_setIfInBounds, if_neg (Ne.symm hk)]
  have hnew : w1.heap[g.at_ (.b l)]? = some (.cells (vs.take off ++ us ++ vs.drop (off + us.length)).toArray t (0, 0)) := by
    rw [hw1]; simp [Array.getElem?_setIfInBounds, hlt]
  have hsz : w1.heap.size = w.heap.size := by rw [hw1]; simp
  have hsh : s1.sh = s.sh := by rw [hs1]; simp [St.sh]
  have hlv : s1.live = s.live := by rw [hs1]; funext x; cases x <;> simp [St.live]
  have e : Ext g s.sh w g s.sh w1 := .of (fun _ h => h) (fun b hbi => hold b (fun he => r.heap.new _ hlive (he ▸ hbi))) rfl rfl rfl
  have hother : ∀ x, s.live x → x ≠ .b l → w1.heap[g.at_ x]? = w.heap[g.at_ x]? := fun x hx' hne => hold _ (fun he => hne (r.heap.inj _ _ hx' hlive he))
  have hheap : Heap g s1 w1 := by
    refine ⟨fun x hx' => by rw [hsz]; exact r.heap.lt x (hlv ▸ hx'), fun x hx' => r.heap.new x (hlv ▸ hx'), fun x y hx' hy => r.heap.inj x y (hlv ▸ hx') (hlv ▸ hy), fun l' cs' hl' => ?_, fun l' o ho => ?_, fun l' es hes => ?_⟩
    · rw [hsh]
      by_cases hll' : l = l'
      · subst hll'
        have hcs : putCells cs off ds = cs' := by rw [hs1] at hl'; simpa [hll] using hl'
        subst hcs
        refine ⟨_, t, hnew, by simp [putCells, hvl, hlen], fun j c v hc hv' => ?_⟩
        simp only [List.getElem?_toArray] at hv'
        obtain ⟨vs0, t0, q1, q2, q3⟩ := r.heap.box l cs hl
        have hvs : vs0 = vs.toArray := by rw [hb] at q1; injection q1 with q1; injection q1 with q1; exact q1.symm
        subst hvs
        unfold putCells at hc
        simp only [List.append_assoc] at hc hv'
        by_cases k1 : j < off
        · rw [List.getElem?_append_left (by simp; omega), List.getElem?_take, if_pos k1] at hc hv'
          exact (q3 j c v hc (by simpa using hv')).mono e
        · rw [List.getElem?_append_right (by simp; omega)] at hc hv'
          simp only [List.length_take] at hc hv'
          rw [show min off cs.length = off by omega] at hc
          rw [show min off vs.length = off by omega] at hv'
          by_cases k2 : j - off < ds.length
          · rw [List.getElem?_append_left (by omega)] at hc hv'
            exact (hx _ c v hc hv').mono e
          · rw [List.getElem?_append_right (by omega)] at hc hv'
            rw [List.getElem?_drop] at hc hv'
            rw [hlen] at hv'
            exact (q3 _ c v hc (by simpa using hv')).mono e
      · have hl2 : s.b[l']? = some cs' := by rw [hs1] at hl'; simpa [List.getElem?_set, hll'] using hl'
        obtain ⟨vs', t', h1, h2, h3⟩ := r.heap.box l' cs' hl2
        have hlv' : s.live (.b l') := (List.getElem?_eq_some_iff.1 hl2).1
        exact ⟨vs', t', by rw [hother _ hlv' (fun he => hll' (by injection he with he; exact he.symm))]; exact h1, h2, fun j c v hc hv => (h3 j c v hc hv).mono e⟩
    · have ho' : s.r[l']? = some (some o) := by rw [hs1] at ho; exact ho
      have := r.heap.row l' o ho'
      by_cases hal : o.al = true
      · rw [if_pos hal] at this ⊢
        obtain ⟨vs', t', h1, h2, h3, h4, h5, h6⟩ := this
        exact ⟨vs', t', by rw [hother _ (show s.live (.r l') from ⟨o, ho', hal⟩) (by simp)]; exact h1, h2, h3, h4, h5, fun i j x d v p q u => (h6 i j x d v p q u).mono e.im e.same⟩
      · rw [if_neg hal] at this ⊢; exact this
    · have hes' : s.m[l']? = some es := by rw [hs1] at hes; exact hes
      obtain ⟨arr, clock, h1, h2, h3⟩ := r.heap.map l' es hes'
      have hlv' : s.live (.m l') := (List.getElem?_eq_some_iff.1 hes').1
      rw [hsh]
      exact ⟨arr, clock, by rw [hother _ hlv' (by simp)]; exact h1, h2, fun i x y hx hy => ⟨(h3 i x y hx hy).1.mono e, (h3 i x y hx hy).2.mono e⟩⟩
  have hbelow : Below E.w0.heap.size E.w0 w1 := by
    have hB := r.own _ hlive
    refine r.below.trans ⟨by rw [hw1], by rw [hw1], by rw [hw1], by rw [hsz]; exact Nat.le_refl _, fun k hk => hold k (by omega)⟩
  have rel1 : Rel E n g s1 a w1 := by
    refine ⟨hbelow, r.im0, fun b hbi => by rw [hsz]; exact r.imlt b hbi, r.imold, fun x hx' => r.own x (hlv ▸ hx'), hheap, r.size, r.defers, fun i hi => ?_⟩
    have := (r.tmps i hi).mono e
    rw [hsh]
    rw [hs1]; exact this
  exact rel1.put_same d (by rw [hsh]; exact hv.mono e)

theorem Step.store {ops : Array Oper} {o : Oper} {K : St → Prop} {t : TypeId} {i : TI} {x y : Operand} {l off : Nat} {v : V} {cs ds : List C} (hT : TabOk P T) (ho : o.op = .store t x y) (hg : o.guard = none) (hd : o.dst = none)
    (hi : T t = some i) (hx : opd n s x = (true, .one (.ptr l off))) (hy : opd n s y = (true, v)) (hv : cellsOfV v = some ds) (hb : s.b[l]? = some cs) (hs : ds.length = i.size) (hoff : off + ds.length ≤ cs.length)
    (k : K ⟨s.t, s.b.set l (putCells cs off ds), s.r, s.m⟩) : Step E P n ops o K s := by
  intro g a w r next Q hn
  have hw : Region.wanted o (yielded ops a.tmps) = true := by simp [Region.wanted, hg]
  rw [if_pos hw]
  obtain ⟨us, h1, h2, h3, h4⟩ := cellsOf_ok hv (opd_ok r hy rfl)
  have hp := opd_ok r hx rfl
  generalize hz : a.eval x = z at hp
  cases hp with | one _ _ hp => cases hp with | ptr _ _ hl =>
  obtain ⟨vs, ty, q1, q2, q3⟩ := r.heap.box l cs hb
  obtain ⟨vs, rfl⟩ : ∃ l : List Value, vs = l.toArray := ⟨vs.toList, by simp⟩
  have hrun : (execOp a.eval o).run P w = .ok .skip { w with heap := w.heap.setIfInBounds (g.at_ (.b l)) (.cells (vs.take off ++ us ++ vs.drop (off + us.length)).toArray ty (0, 0)) } := by
    have hst := storeCells_run (P := P) us off w vs.toArray q1 (by simp at q2 ⊢; omega) h4 off (Nat.le_refl _)
    simp only [Nat.sub_self] at hst
    have hsz : us.toArray.size = i.size := by simp [h2, hs]
    simp only [execOp, ho, Instr.storeAt, hz, Instr.sureAddr, storeVar, Sem.run_bind, Sem.run_pure, Result.andThen_ok, run_sizeOf' hT hi, h1, hsz, ne_eq, not_true_eq_false, if_false, hst]
  have hput : a.put o.dst undef = a := by rw [hd]; rfl
  have hrel := r.store (l := l) (off := off) (cs := cs) (ds := ds) (vs := vs) (us := us) hb h2 hoff q1 (by simpa using q2) h3 none .junk undef (.junk _)
  unfold Oper.wp
  rw [hrun]
  show next (a.put o.dst undef) _
  rw [hput]
  exact hn _ _ _ _ k hrel

/-! ### A new slice that is never written -/
def allDs : List C → Option (List D)
  | [] => some []
  | .d x :: l => match allDs l with | some r => some (x :: r) | none => none
  | _ => none

theorem allDs_eq : ∀ {cs : List C} {ds : List D}, allDs cs = some ds → cs = ds.map .d
  | [], ds, h => by obtain rfl : [] = ds := by simpa [allDs] using h
                    rfl
  | .d x :: l, ds, h => by
    unfold allDs at h
    split at h
    · rename_i r hr
      obtain rfl : x :: r = ds := by simpa using h
      rw [allDs_eq hr]; rfl
    · cases h
  | .ptr _ _ :: l, ds, h => by simp [allDs] at h
  | .eptr _ :: l, ds, h => by simp [allDs] at h
  | .row _ _ _ _ :: l, ds, h => by simp [allDs] at h
  | .rptr _ _ _ :: l, ds, h => by simp [allDs] at h
  | .map _ :: l, ds, h => by simp [allDs] at h
  | .clo _ _ :: l, ds, h => by simp [allDs] at h
  | .junk :: l, ds, h => by simp [allDs] at h

end
end Go.Proofs.YtepdjimbnbiicaaGreatDoor
