/- Part 3 of a proof: A32, A33, A34, A35, A36, V10, V11, V12, V13, V14, V15, V16, V21, W30, A37, V22, V23, W33, V24, W34, W35, V25, W36, V26, V27. -/
import Derived.Laws.BytesArg
import Derived.MapKept
import Derived.Test.YtjibdoagpegniaaGreatDoorMCCondsRead2
/- More on own rows: slicing, clearing, a piece of a row frozen, bytes as a text. -/
set_option linter.unusedVariables false
set_option linter.unusedSimpArgs false
namespace Go.Proofs.YtjibdoagpegniaaGreatDoor
open Go Go.RowKit
section
variable {J : Inv} {k0 : Lens} {E : Env J k0} {P : Program} {T : TypeId → Option TI} {n : Nat} {t : Nat → V} {b : List (List C)} {r : List (Option RowO)} {m : List (List (DV × DV))} {ops : Array Oper} {l : List Oper}
  {K : St → Prop} {i : Nat} {ty : TypeId} {pos : String} {after : Array Edge}
/-- Bytes as a row's elements. -/
def byteRow (bs : List UInt8) : List (List D) := bs.map fun c => [.int .u8 (c.toNat : Int)]
theorem strOf_bytes (bs : List UInt8) : strOfNums (bs.map fun c => (c.toNat : Int)) = ⟨bs.toArray⟩ := by
  unfold strOfNums
  congr 2
  rw [List.map_map]
  conv => rhs; rw [← List.map_id bs]
  apply List.map_congr_left
  intro c _
  simp
theorem S.convRow (hT : TabOk P T) {ta tb e : TypeId} {ia ib ie : TI} {x : Operand} {ri ver sz kk : Nat} {al : Bool} {te : TypeId} (bs : List UInt8) (hta : T ta = some ia) (hda : ia.desc = .slice e) (hte : T e = some ie) (hde : ie.desc = .int .u8) (htb : T tb = some ib) (hdb : ib.desc = .string)
    (hx : opd n ⟨t, b, r, m⟩ x = (true, .one (.row ri ver 0 kk))) (ho : r[ri]? = some (some ⟨al, ver, 1, te, byteRow bs⟩)) (hk : kk = bs.length)
    (h : WL E P n ops l K ⟨upd t i (.one (.d (.str bs))), b, r, m⟩) : WL E P n ops (⟨some i, .convert ta tb x, ty, pos, after, none⟩ :: l) K ⟨t, b, r, m⟩ := by
  subst hk
  intro g a w rel next Q hn
  have hw : Region.wanted (⟨some i, .convert ta tb x, ty, pos, after, none⟩ : Oper) (yielded ops a.tmps) = true := by simp [Region.wanted]
  rw [if_pos hw]
  have hp := opd_ok rel hx rfl
  generalize hz : a.eval x = z at hp
  cases hp with | one _ _ hp =>
  have hat : rowAt ⟨t, b, r, m⟩ ri ver = some ⟨al, ver, 1, te, byteRow bs⟩ := by unfold rowAt; rw [ho]; simp
  obtain ⟨q1, q2, q3⟩ := row_val (s := ⟨t, b, r, m⟩) rel.heap hat hp
  have h1 := (hT ta ia hta).1
  have h2 := (hT tb ib htb).1
  have h3 := (hT e ie hte).1
  rw [hda] at h1; rw [hdb] at h2; rw [hde] at h3
  have fin : (convert ta tb z).run P w = .ok (.string ⟨bs.toArray⟩) w → Oper.wp P (⟨some i, .convert ta tb x, ty, pos, after, none⟩ : Oper) a w next Q := fun hr => by
    have hrun : (execOp a.eval (⟨some i, .convert ta tb x, ty, pos, after, none⟩ : Oper)).run P w = .ok (.value (.string ⟨bs.toArray⟩)) w := by
      simp only [execOp, Sem.run_bind, hz, hr, Result.andThen_ok, Sem.run_pure]
    unfold Oper.wp
    rw [hrun]
    exact hn _ g _ _ h (rel.put_same (some i) (.one _ _ (.d _ _ (.str _))))
  rcases q3 with ⟨hal, rfl⟩ | ⟨_, hk0, rfl⟩
  · refine fin ?_
    have hal : al = true := hal
    subst hal
    have hr := run_convert_bytes_arg (P := P) w ta e h1 h3 (g.at_ (.r ri)) (g.off ri + 0 * 1) bs.length (g.cap ri - 0) (bs.map fun c => (c.toNat : Int)) (by simp) (fun p hp => ?_) tb h2
    · rw [strOf_bytes] at hr; exact hr
    · have hrow : (byteRow bs).getD p [] = [.int .u8 ((bs.getD p 0).toNat : Int)] := by
        unfold byteRow
        rw [List.getD_eq_getElem?_getD, List.getElem?_map, List.getElem?_eq_getElem hp, List.getD_eq_getElem?_getD, List.getElem?_eq_getElem hp]; rfl
      obtain ⟨v, c1, c2⟩ := row_cell rel.heap hat rfl (show p < (byteRow bs).length by simpa [byteRow] using hp) 0 (.int .u8 ((bs.getD p 0).toNat : Int)) (by show ((byteRow bs).getD p [])[0]? = _; rw [hrow]; rfl)
      cases c2 with | int =>
      have hpd : (bs.map fun c => (c.toNat : Int)).getD p 0 = ((bs.getD p 0).toNat : Int) := by
        rw [List.getD_eq_getElem?_getD, List.getElem?_map, List.getElem?_eq_getElem hp, List.getD_eq_getElem?_getD, List.getElem?_eq_getElem hp]; rfl
      rw [hpd]
      simpa using c1
  · refine fin ?_
    have h0 : bs = [] := List.length_eq_zero_iff.1 hk0
    subst h0
    exact run_convert_bytes_nil (P := P) w ta e h1 h3 0 0 tb h2
end
end Go.Proofs.YtjibdoagpegniaaGreatDoor

/- Maps: made, looked up, stored into, struck out, counted. -/
set_option linter.unusedVariables false
set_option linter.unusedSimpArgs false
namespace Go.Proofs.YtjibdoagpegniaaGreatDoor
open Go Go.RowKit
section
variable {α β : Type} (same : α → α → Bool)
def hasL (l : List (α × β)) (k : α) : Bool := l.any fun x => same k x.1
def getL (z : β) : List (α × β) → α → β
  | [], _ => z
  | x :: l, k => bif same k x.1 then x.2 else getL z l k
def setL : List (α × β) → α → β → List (α × β)
  | [], k, v => [(k, v)]
  | x :: l, k, v => bif same k x.1 then (k, v) :: l else x :: setL l k v
def delL : List (α × β) → α → List (α × β)
  | [], _ => []
  | x :: l, k => bif same k x.1 then l else x :: delL l k
end
/-- Keys of one kind. -/
structure KeyOk {α : Type} (kind : TypeDesc) (enc : α → D) (val : α → Value) (same : α → α → Bool) : Prop where
  v : ∀ a, valD (enc a) = some (val a)
  now : ∀ a b, Instr.sameNow kind (val a) (val b) = some (same a b)
  bits : ∀ a b, same a b = true → Instr.sameBits 10000 (val b) (val a) = true
  chk : ∀ (P : Program) (w : World) (e : Bool) (t : TypeId) (a : α), P.underlying t = some kind → (Instr.checkKey e 10000 t (val a)).run P w = .ok () w
theorem keyStr : KeyOk .string D.str (fun s : List UInt8 => Value.string ⟨s.toArray⟩) (fun a b => a == b) where
  v _ := rfl
  now a b := by
    show some ((ByteArray.mk a.toArray) == (ByteArray.mk b.toArray)) = _
    congr 1
    rw [Bool.eq_iff_iff, MapKept.bytes_beq, beq_iff_eq]
    simp
  bits a b h := by
    obtain rfl := beq_iff_eq.1 h
    show (ByteArray.mk a.toArray == ByteArray.mk a.toArray) = true
    rw [MapKept.bytes_beq]
  chk P w e t a h := by
    show (Instr.checkKey e (9999 + 1) t _).run P w = _
    unfold Instr.checkKey
    simp only [Sem.run_bind, run_underlying h, Result.andThen_ok, Sem.run_pure]
section
variable {α β : Type} {kind : TypeDesc} {enc : α → D} {val : α → Value} {same : α → α → Bool}
/-- Where a key stands. -/
theorem findNow_ok (ke : KeyOk kind enc val same) (k : α) : ∀ (l : List (α × β)) (es : List MapEntry) (i0 : Nat), es.length = l.length → (∀ (i : Nat) (x : α × β) (e : MapEntry), l[i]? = some x → es[i]? = some e → e.key = val x.1) →
    (hasL same l k = false ∧ Instr.findNow kind (val k) es i0 = some none ∧ (∀ v, setL same l k v = l ++ [(k, v)]) ∧ delL same l k = l ∧ ∀ z, getL same z l k = z) ∨
    (hasL same l k = true ∧ ∃ p x e, l[p]? = some x ∧ es[p]? = some e ∧ Instr.findNow kind (val k) es i0 = some (some (i0 + p, e.val)) ∧ same k x.1 = true ∧ (∀ v, setL same l k v = l.set p (k, v)) ∧ delL same l k = l.eraseIdx p ∧ ∀ z, getL same z l k = x.2)
  | [], es, i0, hl, _ => by
    obtain rfl : es = [] := List.length_eq_zero_iff.1 hl
    exact .inl ⟨rfl, rfl, fun _ => rfl, rfl, fun _ => rfl⟩
  | x :: l, [], i0, hl, _ => by cases hl
  | x :: l, e :: es, i0, hl, hk => by
    have h0 : e.key = val x.1 := hk 0 x e rfl rfl
    have hn : Instr.sameNow kind (val k) e.key = some (same k x.1) := by rw [h0]; exact ke.now k x.1
    cases hs : same k x.1 with
    | true =>
      right
      refine ⟨by simp [hasL, hs], 0, x, e, rfl, rfl, ?_, hs, fun v => by simp [setL, hs], by simp [delL, hs], fun z => by simp [getL, hs]⟩
      rw [hs] at hn
      simp only [Instr.findNow, hn, Nat.add_zero]
    | false =>
      rw [hs] at hn
      have ih := findNow_ok ke k l es (i0 + 1) (by simpa using hl) (fun i y f h1 h2 => hk (i + 1) y f (by simpa using h1) (by simpa using h2))
      rcases ih with ⟨h1, h2, h3, h4, h5⟩ | ⟨h1, p, y, f, h2, h3, h4, h5, h6, h7, h8⟩
      · left
        refine ⟨by unfold hasL at h1 ⊢; simp [hs, h1], by simp only [Instr.findNow, hn]; exact h2, fun v => by simp [setL, hs, h3 v], by simp [delL, hs, h4], fun z => by simp [getL, hs, h5 z]⟩
      · right
        refine ⟨by unfold hasL at h1 ⊢; simp [hs, h1], p + 1, y, f, by simpa using h2, by simpa using h3, ?_, h5, fun v => by simp [setL, hs, h6 v], by simp [delL, hs, h7], fun z => by simp [getL, hs, h8 z]⟩
        simp only [Instr.findNow, hn, h4]
        congr 3
        omega
variable {J : Inv} {k0 : Lens} {E : Env J k0} {P : Program} {T : TypeId → Option TI} {n : Nat} {t : Nat → V} {b : List (List C)} {r : List (Option RowO)} {m : List (List (DV × DV))} {ops : Array Oper} {l : List Oper}
  {K : St → Prop} {i : Nat} {ty : TypeId} {pos : String} {after : Array Edge}
def Gh.mapAt (g : Gh) (l b : Nat) : Gh := { g with at_ := fun x => if x = .m l then b else g.at_ x }
theorem Rel.newMap {s : St} {g : Gh} {a : Act} {w : World} (r : Rel E n g s a w) (d : Option Nat) :
    Rel E n (g.mapAt s.m.length w.heap.size) ((⟨s.t, s.b, s.r, s.m ++ [[]]⟩ : St).set d (.one (.map s.m.length))) (a.put d (.map (some w.heap.size))) (w.alloc (.map #[] 0)) := by
  obtain ⟨s1, hs1⟩ : ∃ s1 : St, s1 = ⟨s.t, s.b, s.r, s.m ++ [[]]⟩ := ⟨_, rfl⟩
  have hsz : (w.alloc (.map #[] 0)).heap.size = w.heap.size + 1 := by simp
  have hold : ∀ k, k < w.heap.size → (w.alloc (.map #[] 0)).heap[k]? = w.heap[k]? := fun k hk => Below.heap_alloc w _ k hk
  have hnew : (w.alloc (.map #[] 0)).heap[w.heap.size]? = some (.map #[] 0) := by show (w.heap.push _)[w.heap.size]? = _; simp
  have e : Ext g s.sh w (g.mapAt s.m.length w.heap.size) s1.sh (w.alloc (.map #[] 0)) := by
    subst hs1
    refine ⟨fun _ h => h, fun b hb => hold b (r.imlt b hb), Nat.le_refl _, by simp [St.sh], Nat.le_refl _, fun _ _ => by simp [Gh.mapAt], fun l hl => ?_, fun q al ver sz len hq h => ⟨al, ver, sz, len, h, Nat.le_refl _, fun _ => ⟨rfl, rfl, Nat.le_refl _, by simp [Gh.mapAt], rfl, rfl⟩⟩⟩
    have : l ≠ s.m.length := by have : l < s.m.length := hl; omega
    simp [Gh.mapAt, this]
  have hat : ∀ x, s.live x → (g.mapAt s.m.length w.heap.size).at_ x = g.at_ x := fun x hx => by
    have : x ≠ .m s.m.length := by rintro rfl; exact absurd (show s.m.length < s.m.length from hx) (Nat.lt_irrefl _)
    simp [Gh.mapAt, this]
  have hlive : ∀ x, s1.live x → s.live x ∨ x = .m s.m.length := fun x hx => by
    subst hs1
    cases x with
    | m l => have h2 : l < s.m.length + 1 := by have := show l < (s.m ++ [[]]).length from hx; simpa using this
             rcases Nat.lt_or_ge l s.m.length with h | h
             · exact .inl h
             · right; congr 1; omega
    | r l => exact .inl hx
    | b l => exact .inl hx
  have hnewat : (g.mapAt s.m.length w.heap.size).at_ (.m s.m.length) = w.heap.size := by simp [Gh.mapAt]
  have hheap : Heap (g.mapAt s.m.length w.heap.size) s1 (w.alloc (.map #[] 0)) := by
    refine ⟨fun x hx => ?_, fun x hx => ?_, fun x y hx hy he => ?_, fun l cs' hl' => ?_, fun l o ho => ?_, fun l es hes => ?_⟩
    · rcases hlive x hx with h | rfl
      · rw [hat x h, hsz]; exact Nat.lt_succ_of_lt (r.heap.lt x h)
      · rw [hnewat, hsz]; exact Nat.lt_succ_self _
    · rcases hlive x hx with h | rfl
      · rw [hat x h]; exact r.heap.new x h
      · rw [hnewat]; exact fun hi => absurd (r.imlt _ hi) (Nat.lt_irrefl _)
    · rcases hlive x hx with h | rfl <;> rcases hlive y hy with h' | rfl
      · rw [hat x h, hat y h'] at he; exact r.heap.inj x y h h' he
      · rw [hat x h, hnewat] at he; exact absurd (r.heap.lt x h) (by omega)
      · rw [hat y h', hnewat] at he; exact absurd (r.heap.lt y h') (by omega)
      · rfl
    · have hl2 : s.b[l]? = some cs' := by subst hs1; exact hl'
      obtain ⟨vs', t', h1, h2, h3⟩ := r.heap.box l cs' hl2
      have hlv : s.live (.b l) := (List.getElem?_eq_some_iff.1 hl2).1
      rw [hat (.b l) hlv]
      exact ⟨vs', t', by rw [hold _ (r.heap.lt (.b l) hlv)]; exact h1, h2, fun j c v hc hv => (h3 j c v hc hv).mono e⟩
    · have ho' : s.r[l]? = some (some o) := by subst hs1; exact ho
      have := r.heap.row l o ho'
      by_cases hal : o.al = true
      · rw [if_pos hal] at this ⊢
        obtain ⟨vs', t', h1, h2, h3, h4, h5, h6⟩ := this
        rw [hat (.r l) ⟨o, ho', hal⟩]
        exact ⟨vs', t', by rw [hold _ (r.heap.lt (.r l) ⟨o, ho', hal⟩)]; exact h1, h2, h3, h4, h5, fun i j x d v p q u => (h6 i j x d v p q u).mono e.im e.same⟩
      · rw [if_neg hal] at this ⊢; exact this
    · subst hs1
      rcases Nat.lt_or_ge l s.m.length with h | h
      · have hl2 : s.m[l]? = some es := by
          have hes : (s.m ++ [[]])[l]? = some es := hes
          rwa [List.getElem?_append_left h] at hes
        obtain ⟨arr, clock, h1, h2, h3⟩ := r.heap.map l es hl2
        rw [hat (.m l) h]
        exact ⟨arr, clock, by rw [hold _ (r.heap.lt (.m l) h)]; exact h1, h2, fun i x y hx hy => ⟨(h3 i x y hx hy).1.mono e, (h3 i x y hx hy).2.mono e⟩⟩
      · have hl2 : l = s.m.length ∧ [] = es := by
          have hes : (s.m ++ [[]])[l]? = some es := hes
          rw [List.getElem?_append_right h] at hes
          have h4 : l - s.m.length < 1 := by have := (List.getElem?_eq_some_iff.1 hes).1; simpa using this
          have h5 : l - s.m.length = 0 := by omega
          rw [h5] at hes
          exact ⟨by omega, by simpa using hes⟩
        obtain ⟨rfl, rfl⟩ := hl2
        rw [hnewat]
        exact ⟨#[], 0, hnew, ⟨rfl, fun i e h => by simp at h, fun i j e f h => by simp at h⟩, fun i x e h => by simp at h⟩
  have hbelow : BelowX E.lent E.w0 (w.alloc (.map #[] 0)) := r.below.then ((Below.refl _ _).alloc (Nat.le_refl _) _)
  have rel1 : Rel E n (g.mapAt s.m.length w.heap.size) s1 a (w.alloc (.map #[] 0)) := by
    refine ⟨hbelow, r.ext.trans e, fun b hb => by rw [hsz]; exact Nat.lt_succ_of_lt (r.imlt b hb), r.imold, fun x hx => ?_, hheap, r.size, r.defers, fun i hi => ?_⟩
    · rcases hlive x hx with h | rfl
      · rw [hat x h]; exact r.own x h
      · rw [hnewat]; exact .inr r.below.size
    · have := (r.tmps i hi).mono e
      subst hs1; exact this
  have := rel1.put_same d (u := .one (.map s.m.length)) (v := .map (some w.heap.size)) (by
    have h := RC.map (g := g.mapAt s.m.length w.heap.size) (h := s1.sh) (w := w.alloc (.map #[] 0)) s.m.length (by subst hs1; simp [St.sh])
    rw [hnewat] at h
    exact .one _ _ h)
  subst hs1
  exact this
theorem S.makeMap {te : TypeId} {m' : List (List (DV × DV))} (hm' : appL m [[]] = m')
    (k : WL E P n ops l K ⟨upd t i (.one (.map m.length)), b, r, m'⟩) : WL E P n ops (⟨some i, .makeMap te none, ty, pos, after, none⟩ :: l) K ⟨t, b, r, m⟩ := by
  subst hm'
  rw [appL_eq] at k
  intro g a w rel next Q hn
  have hw : Region.wanted (⟨some i, .makeMap te none, ty, pos, after, none⟩ : Oper) (yielded ops a.tmps) = true := by simp [Region.wanted]
  rw [if_pos hw]
  have hrun : (execOp a.eval (⟨some i, .makeMap te none, ty, pos, after, none⟩ : Oper)).run P w = .ok (.value (.map (some w.heap.size))) (w.alloc (.map #[] 0)) := by
    simp [execOp, Instr.makeMap]
  unfold Oper.wp
  rw [hrun]
  exact hn _ _ _ _ k (rel.newMap (some i))
/-- A map's entries told anew. -/
theorem Rel.setMap {s : St} {g : Gh} {a : Act} {w : World} (r : Rel E n g s a w) {mi : Nat} {es : List (DV × DV)} (hm : s.m[mi]? = some es) {es' : List (DV × DV)} {arr' : Array MapEntry} {clock' : Nat} (hfit : MapFit arr' clock' es'.length)
    (hx : ∀ (i : Nat) (x : DV × DV) (e : MapEntry), es'[i]? = some x → arr'[i]? = some e → RV g s.sh w x.1.v e.key ∧ RV g s.sh w x.2.v e.val) :
    Rel E n g ⟨s.t, s.b, s.r, s.m.set mi es'⟩ a { w with heap := w.heap.setIfInBounds (g.at_ (.m mi)) (.map arr' clock') } := by
  obtain ⟨s1, hs1⟩ : ∃ s1 : St, s1 = ⟨s.t, s.b, s.r, s.m.set mi es'⟩ := ⟨_, rfl⟩
  obtain ⟨w1, hw1⟩ : ∃ w1 : World, w1 = { w with heap := w.heap.setIfInBounds (g.at_ (.m mi)) (.map arr' clock') } := ⟨_, rfl⟩
  rw [← hs1, ← hw1]
  have hmi : mi < s.m.length := (List.getElem?_eq_some_iff.1 hm).1
  have hlive : s.live (.m mi) := hmi
  have hlt := r.heap.lt _ hlive
  have hsh : s1.sh = s.sh := by rw [hs1]; simp [St.sh]
  have hlv : s1.live = s.live := by
    rw [hs1]; funext x
    cases x with
    | b l => rfl
    | r l => rfl
    | m l => show (l < (s.m.set mi es').length) = _; rw [List.length_set]; rfl
  have hsz : w1.heap.size = w.heap.size := by rw [hw1]; simp
  have hold : ∀ q, q ≠ g.at_ (.m mi) → w1.heap[q]? = w.heap[q]? := fun q hq => by rw [hw1]; simp only; rw [Array.getElem?_setIfInBounds, if_neg (Ne.symm hq)]
  have hnew : w1.heap[g.at_ (.m mi)]? = some (.map arr' clock') := by rw [hw1]; simp [Array.getElem?_setIfInBounds, hlt]
  have e : Ext g s.sh w g s.sh w1 := .of (fun _ h => h) (fun q hq => hold q (fun he => r.heap.new _ hlive (he ▸ hq))) rfl rfl rfl
  have hother : ∀ x, s.live x → x ≠ .m mi → w1.heap[g.at_ x]? = w.heap[g.at_ x]? := fun x hx' hne => hold _ (fun he => hne (r.heap.inj _ _ hx' hlive he))
  have hheap : Heap g s1 w1 := by
    refine ⟨fun x hx' => by rw [hsz]; exact r.heap.lt x (hlv ▸ hx'), fun x hx' => r.heap.new x (hlv ▸ hx'), fun x y hx' hy => r.heap.inj x y (hlv ▸ hx') (hlv ▸ hy), fun l' cs' hl' => ?_, fun l' o' ho' => ?_, fun l' es0 hes => ?_⟩
    · have hl2 : s.b[l']? = some cs' := by rw [hs1] at hl'; exact hl'
      obtain ⟨vs', t', h1, h2, h3⟩ := r.heap.box l' cs' hl2
      rw [hsh]
      exact ⟨vs', t', by rw [hother _ (show s.live (.b l') from (List.getElem?_eq_some_iff.1 hl2).1) (by simp)]; exact h1, h2, fun j c v hc hv => (h3 j c v hc hv).mono e⟩
    · have ho2 : s.r[l']? = some (some o') := by rw [hs1] at ho'; exact ho'
      have := r.heap.row l' o' ho2
      by_cases hal' : o'.al = true
      · rw [if_pos hal'] at this ⊢
        obtain ⟨vs', t', h1, h2, h3, h4, h5, h6⟩ := this
        exact ⟨vs', t', by rw [hother _ (show s.live (.r l') from ⟨o', ho2, hal'⟩) (by simp)]; exact h1, h2, h3, h4, h5, fun i j x d v p q u => (h6 i j x d v p q u).mono e.im e.same⟩
      · rw [if_neg hal'] at this ⊢; exact this
    · have hes' : (s.m.set mi es')[l']? = some es0 := by rw [hs1] at hes; exact hes
      rw [hsh]
      by_cases hq : mi = l'
      · subst hq
        obtain rfl : es' = es0 := by simpa [List.getElem?_set, hmi] using hes'
        exact ⟨arr', clock', hnew, hfit, fun i x y hx' hy => ⟨(hx i x y hx' hy).1.mono e, (hx i x y hx' hy).2.mono e⟩⟩
      · have hm2 : s.m[l']? = some es0 := by simpa [List.getElem?_set, hq] using hes'
        obtain ⟨arr, clock, h1, h2, h3⟩ := r.heap.map l' es0 hm2
        exact ⟨arr, clock, by rw [hother _ (show s.live (.m l') from (List.getElem?_eq_some_iff.1 hm2).1) (fun h => hq (by injection h with h; exact h.symm))]; exact h1, h2, fun i x y hx hy => ⟨(h3 i x y hx hy).1.mono e, (h3 i x y hx hy).2.mono e⟩⟩
  have hbelow : BelowX E.lent E.w0 w1 := by
    refine r.below.trans (l2 := fun q => q = g.at_ (.m mi)) ⟨by rw [hw1], by rw [hw1], by rw [hw1], by rw [hsz]; exact Nat.le_refl _, fun q hq hn => hold q hn⟩ (fun q hq hlt' => ?_)
    rcases r.own _ hlive with h | h
    · rw [hq]; exact h
    · omega
  refine ⟨hbelow, by rw [hsh]; exact r.ext.trans e, fun q hq => by rw [hsz]; exact r.imlt q hq, r.imold, fun x hx' => r.own x (hlv ▸ hx'), hheap, r.size, r.defers, fun q hq => ?_⟩
  have := (r.tmps q hq).mono e
  rw [hsh]
  rw [hs1]; exact this
/-- What is known of a map's entries: keys of one kind, what they hold told by fD. -/
def mapOf (enc : α → D) (fD : β → DV) (l : List (α × β)) : List (DV × DV) := l.map fun x => (.one (enc x.1), fD x.2)
theorem mapOf_get {enc : α → D} {fD : β → DV} {l : List (α × β)} {i : Nat} {x : DV × DV} (h : (mapOf enc fD l)[i]? = some x) : ∃ y, l[i]? = some y ∧ x = (.one (enc y.1), fD y.2) := by
  unfold mapOf at h
  rw [List.getElem?_map] at h
  obtain ⟨y, h1, h2⟩ := Option.map_eq_some_iff.1 h
  exact ⟨y, h1, h2.symm⟩
theorem KeyOk.eq (ke : KeyOk kind enc val same) {g : Gh} {h : Sh} {w : World} {a : α} {u : Value} (hx : RV g h w (DV.one (enc a)).v u) : u = val a := by
  cases hx with | one _ _ hx => cases hx with | d _ _ hx => exact valD_of (ke.v a) hx
/-- A map in memory, found by its keys. -/
theorem map_find (ke : KeyOk kind enc val same) {s : St} {g : Gh} {a : Act} {w : World} (rel : Rel E n g s a w) {mi : Nat} {fD : β → DV} {l : List (α × β)} (hm : s.m[mi]? = some (mapOf enc fD l)) (k : α) :
    ∃ arr clock, w.heap[g.at_ (.m mi)]? = some (.map arr clock) ∧ MapFit arr clock l.length ∧ (∀ (i : Nat) (x : α × β) (e : MapEntry), l[i]? = some x → arr[i]? = some e → e.key = val x.1 ∧ RV g s.sh w (fD x.2).v e.val) ∧
      ((hasL same l k = false ∧ Instr.findNow kind (val k) arr.toList 0 = some none ∧ (∀ v, setL same l k v = l ++ [(k, v)]) ∧ delL same l k = l ∧ ∀ z, getL same z l k = z) ∨
      (hasL same l k = true ∧ ∃ p x e, l[p]? = some x ∧ arr[p]? = some e ∧ Instr.findNow kind (val k) arr.toList 0 = some (some (p, e.val)) ∧ same k x.1 = true ∧ (∀ v, setL same l k v = l.set p (k, v)) ∧ delL same l k = l.eraseIdx p ∧ ∀ z, getL same z l k = x.2)) := by
  obtain ⟨arr, clock, h1, h2, h3⟩ := rel.heap.map mi _ hm
  have hlen : (mapOf enc fD l).length = l.length := by simp [mapOf]
  rw [hlen] at h2
  have hk : ∀ (i : Nat) (x : α × β) (e : MapEntry), l[i]? = some x → arr[i]? = some e → e.key = val x.1 ∧ RV g s.sh w (fD x.2).v e.val := fun i x e hx he => by
    have := h3 i (.one (enc x.1), fD x.2) e (by simp [mapOf, hx]) he
    exact ⟨ke.eq this.1, this.2⟩
  have hf := findNow_ok ke k l arr.toList 0 (by simpa using h2.len) (fun i x e hx he => (hk i x e hx (by simpa using he)).1)
  refine ⟨arr, clock, h1, h2, hk, ?_⟩
  rcases hf with h | ⟨q1, p, x, e, q2, q3, q4, q5⟩
  · exact .inl h
  · exact .inr ⟨q1, p, x, e, q2, by simpa using q3, by rw [q4, Nat.zero_add], q5⟩
theorem run_findKey_now {w : World} {kt : TypeId} {k : Value} {es : List MapEntry} {q : Option (Nat × Value)} (hu : P.underlying kt = some kind) (h : Instr.findNow kind k es 0 = some q) : (Instr.findKey kt k es).run P w = .ok q w := by
  unfold Instr.findKey
  simp only [Sem.run_bind, run_underlying hu, Result.andThen_ok, h, Sem.run_pure]
def mapV (ok : Bool) (v : V) (has : Bool) : V := bif ok then .tup [v, .one (.d (.bool has))] else v
/-- What a map holds at a key; where it holds nothing, the zero value. -/
theorem S.lookup (hT : TabOk P T) (ke : KeyOk kind enc val same) {tm kt et : TypeId} {ti ki ei : TI} {x y : Operand} {co : Bool} {mi : Nat} {a0 : α} {fD : β → DV} (z : β) (l0 : List (α × β)) (hti : T tm = some ti) (hd : ti.desc = .map kt et) (hki : T kt = some ki) (hkd : ki.desc = kind)
    (hei : T et = some ei) (hx : opd n ⟨t, b, r, m⟩ x = (true, .one (.map mi))) (hy : opd n ⟨t, b, r, m⟩ y = (true, .one (.d (enc a0)))) (hm : m[mi]? = some (mapOf enc fD l0)) (hz : constV ei.zero = (fD z).v) (hzo : constOk ei.zero = true)
    {v : V} (hv : mapV co (fD (getL same z l0 a0)).v (hasL same l0 a0) = v) (k : WL E P n ops l K ⟨upd t i v, b, r, m⟩) : WL E P n ops (⟨some i, .lookup tm x y co, ty, pos, after, none⟩ :: l) K ⟨t, b, r, m⟩ := by
  subst hv
  intro g a w rel next Q hn
  have hw : Region.wanted (⟨some i, .lookup tm x y co, ty, pos, after, none⟩ : Oper) (yielded ops a.tmps) = true := by simp [Region.wanted]
  rw [if_pos hw]
  have hp := opd_ok rel hx rfl
  have hq := opd_ok rel hy rfl
  generalize hxx : a.eval x = xv at hp
  generalize hyy : a.eval y = yv at hq
  cases hp with | one _ _ hp => cases hp with | map _ hmi =>
  have hyv : yv = val a0 := ke.eq (a := a0) hq
  subst hyv
  have h1 := (hT tm ti hti).1
  have h2 := (hT kt ki hki).1
  rw [hd] at h1; rw [hkd] at h2
  obtain ⟨arr, clock, q1, q2, q3, q4⟩ := map_find (s := ⟨t, b, r, m⟩) ke rel hm a0
  have hzv : RV g (⟨t, b, r, m⟩ : St).sh w (fD z).v ei.zero := by rw [← hz]; exact constV_ok _ _ _ _ hzo
  have fin : ∀ (u : Value) (is : Bool), (Instr.lookup tm (.map (some (g.at_ (.m mi)))) (val a0) co).run P w = .ok (if co then .tuple #[u, .bool is] else u) w → RV g (⟨t, b, r, m⟩ : St).sh w (fD (getL same z l0 a0)).v u → is = hasL same l0 a0 →
      Oper.wp P (⟨some i, .lookup tm x y co, ty, pos, after, none⟩ : Oper) a w next Q := fun u is hr hu his => by
    have hrun : (execOp a.eval (⟨some i, .lookup tm x y co, ty, pos, after, none⟩ : Oper)).run P w = .ok (.value (if co then .tuple #[u, .bool is] else u)) w := by
      simp only [execOp, Sem.run_bind, hxx, hyy, hr, Result.andThen_ok, Sem.run_pure]
    unfold Oper.wp
    rw [hrun]
    refine hn _ g _ _ k (rel.put_same (some i) ?_)
    subst his
    cases co with
    | false => exact hu
    | true =>
      show RV _ _ _ (.tup [_, _]) (.tuple #[u, .bool (hasL same l0 a0)])
      refine .tup _ [u, .bool (hasL same l0 a0)] rfl (fun j c v hc hv => ?_)
      match j with
      | 0 => simp at hc hv; subst hc; subst hv; exact hu
      | 1 => simp at hc hv; subst hc; subst hv; exact .one _ _ (.d _ _ (.bool _))
      | j + 2 => simp at hc
  rcases q4 with ⟨p1, p2, _, _, p5⟩ | ⟨p1, p, x', e, p2, p3, p4, p5, _, _, p8⟩
  · refine fin ei.zero false ?_ (by rw [p5]; exact hzv) p1.symm
    simp only [Instr.lookup, Sem.run_bind, run_underlying h1, Result.andThen_ok, MapKept.run_getObj_map q1, Sem.run_pure, ke.chk P w _ kt a0 h2, run_findKey_now h2 p2, run_zeroValue' hT hei]
  · refine fin e.val true ?_ (by rw [p8]; exact (q3 p x' e p2 p3).2) p1.symm
    simp only [Instr.lookup, Sem.run_bind, run_underlying h1, Result.andThen_ok, MapKept.run_getObj_map q1, Sem.run_pure, ke.chk P w _ kt a0 h2, run_findKey_now h2 p4]
end
end Go.Proofs.YtjibdoagpegniaaGreatDoor

/- An own row's element loaded; calls that look at boxes in regions that draw their order; a region of which a first part alone draws. -/
set_option linter.unusedVariables false
set_option linter.unusedSimpArgs false
namespace Go.Proofs.YtjibdoagpegniaaGreatDoor
open Go Go.RowKit
section
variable {J : Inv} {k0 : Lens} {E : Env J k0} {P : Program} {T : TypeId → Option TI} {n : Nat} {t : Nat → V} {b : List (List C)} {r : List (Option RowO)} {m : List (List (DV × DV))} {ops : Array Oper} {l : List Oper}
  {K : St → Prop} {i : Nat} {ty : TypeId} {pos : String} {after : Array Edge} {md : Region.Mode}
def endL : Nat → Nat → Array Bool → Array Bool
  | 0, _, listed => listed
  | f + 1, k, listed => endL f (k + 1) (listed.setIfInBounds k true)
/-- What is not listed at the end of the first part waits for operation k. -/
def tailD (md : Region.Mode) (ops : Array Oper) (L1 : Array Bool) (k : Nat) : Bool := (List.range ops.size).all fun j => L1.getD j true || depB md ops ops.size j k
/-- The rest goes in one order. -/
def seqC (md : Region.Mode) (ops : Array Oper) : Nat → Nat → Array Bool → Bool
  | 0, _, listed => (Region.ready md ops listed).isEmpty
  | f + 1, k, listed => (match Region.ready md ops listed with | [j] => Nat.beq j k | _ => false) && seqC md ops f (k + 1) (listed.setIfInBounds k true)
theorem wpAny_of_seq {K : St → Prop} {Q : Exit → Act → World → Prop} (hQ : ∀ s g a w, K s → Rel E n g s a w → Q .normal a w) :
    ∀ (l : List Oper) (k : Nat) (listed : Array Bool) (s : St) (g : Gh) (a : Act) (w : World), (∀ j, l[j]? = ops[k + j]?) → seqC md ops l.length k listed = true → Rel E n g s a w → WL E P n ops l K s → wpAny P md ops Q l.length listed a w
  | [], k, listed, s, g, a, w, hl, hB, rel, h => ⟨by simpa [seqC] using hB, hQ _ _ _ _ h rel⟩
  | o :: l, k, listed, s, g, a, w, hl, hB, rel, h => by
    have h0 : ops[k]? = some o := by simpa using (hl 0).symm
    simp only [List.length_cons, seqC, Bool.and_eq_true] at hB
    obtain ⟨hr, hB'⟩ := hB
    split at hr
    · rename_i j hj
      have hjk : j = k := Nat.eq_of_beq_eq_true hr
      subst hjk
      refine ⟨fun h0 => (by rw [hj] at h0; cases h0), fun i hi => ?_⟩
      rw [hj, List.mem_singleton] at hi
      subst hi
      unfold wpOp
      rw [h0]
      have h3 := h g a w rel (wpAny P md ops Q l.length (listed.setIfInBounds i true)) Q (fun s' g' a' w' hk rel' =>
        wpAny_of_seq hQ l (i + 1) _ s' g' a' w' (fun j => by have := hl (j + 1); simpa [Nat.add_assoc, Nat.add_comm 1 j] using this) hB' rel' hk)
      simp only
      split
      · rename_i hw; rw [if_pos hw] at h3; exact .inl h3
      · rename_i hw; rw [if_neg hw] at h3; exact h3
    · cases hr
def cutF : Nat → List Oper → Option (List Oper × List Oper)
  | 0, l => some ([], l)
  | _ + 1, [] => none
  | k + 1, x :: l => match cutF k l with | some (p, q) => some (x :: p, q) | none => none
theorem cutF_eq : ∀ {k : Nat} {l p q : List Oper}, cutF k l = some (p, q) → l = p ++ q
  | 0, l, p, q, h => by simp only [cutF, Option.some.injEq, Prod.mk.injEq] at h; obtain ⟨rfl, rfl⟩ := h; rfl
  | k + 1, [], p, q, h => by cases h
  | k + 1, x :: l, p, q, h => by
    unfold cutF at h
    split at h
    · rename_i p' q' hc
      simp only [Option.some.injEq, Prod.mk.injEq] at h
      obtain ⟨rfl, rfl⟩ := h
      rw [cutF_eq hc]; rfl
    · cases h
end
end Go.Proofs.YtjibdoagpegniaaGreatDoor

/- Two arrays of two bools compared. -/
set_option linter.unusedVariables false
set_option linter.unusedSimpArgs false
namespace Go.Proofs.YtjibdoagpegniaaGreatDoor
open Go Go.RowKit
end Go.Proofs.YtjibdoagpegniaaGreatDoor

/- Regions that draw their order, with operations of any kind: what only computes goes first; of the rest every order is walked. -/
set_option linter.unusedVariables false
set_option linter.unusedSimpArgs false
namespace Go.Proofs.YtjibdoagpegniaaGreatDoor
open Go Go.RowKit
section
variable {J : Inv} {k0 : Lens} {E : Env J k0} {P : Program} {T : TypeId → Option TI} {n : Nat} {t : Nat → V} {b : List (List C)} {r : List (Option RowO)} {m : List (List (DV × DV))} {ops : Array Oper} {md : Region.Mode}
/-- An operation, whatever stands in the temporaries that it doesn't look at. -/
def HTr {J : Inv} {k0 : Lens} (E : Env J k0) (P : Program) (n : Nat) (ops : Array Oper) (o : Oper) (s : St) (Post : HPost) : Prop :=
  ∀ t', (∀ i ∈ o.looksAt ops, t' i = s.t i) → Step E P n ops o (fun s1 => ∃ v b r m, s1 = ⟨updO t' o.dst v, b, r, m⟩ ∧ Post v b r m) ⟨t', s.b, s.r, s.m⟩
def qS {J : Inv} {k0 : Lens} (E : Env J k0) (P : Program) (n : Nat) (ops : Array Oper) (i : Nat) (K : St → Prop) (s : St) : Prop :=
  match ops[i]? with
  | none => K s
  | some o => ∃ Post, HTr E P n ops o s Post ∧ ∀ v b r m, Post v b r m → K ⟨updO s.t o.dst v, b, r, m⟩
def AnyS {J : Inv} {k0 : Lens} (E : Env J k0) (P : Program) (n : Nat) (md : Region.Mode) (ops : Array Oper) (L1 : Array Bool) (K : St → Prop) : Nat → Array Bool → St → Prop
  | 0, listed, s => listed = L1 ∧ K s
  | fuel + 1, listed, s => Region.ready md ops listed ≠ [] ∧ ∀ i ∈ Region.ready md ops listed, qS E P n ops i (AnyS E P n md ops L1 K fuel (listed.setIfInBounds i true)) s
theorem wpAny_of_AnyS {f2 : Nat} {L1 : Array Bool} {K : St → Prop} {Q : Exit → Act → World → Prop} (hQ : ∀ s g a w, K s → Rel E n g s a w → wpAny P md ops Q f2 L1 a w) :
    ∀ (fuel : Nat) (listed : Array Bool) (s : St) (g : Gh) (a : Act) (w : World), Rel E n g s a w → AnyS E P n md ops L1 K fuel listed s → wpAny P md ops Q (f2 + fuel) listed a w
  | 0, listed, s, g, a, w, rel, h => by obtain ⟨rfl, h⟩ := h; exact hQ _ _ _ _ h rel
  | fuel + 1, listed, s, g, a, w, rel, h => by
    refine ⟨fun h0 => absurd h0 h.1, fun i hi => ?_⟩
    have hq := h.2 i hi
    unfold qS at hq
    unfold wpOp
    split
    · rename_i ho; simp only [ho] at hq; exact wpAny_of_AnyS hQ fuel _ s g a w rel hq
    · rename_i o ho
      simp only [ho] at hq
      obtain ⟨Post, h1, h2⟩ := hq
      have h3 := h1 s.t (fun _ _ => rfl) g a w rel (wpAny P md ops Q (f2 + fuel) (listed.setIfInBounds i true)) Q (fun s' g' a' w' ⟨v, b, r, m, he, hp⟩ rel' => wpAny_of_AnyS hQ fuel _ s' g' a' w' rel' (he ▸ h2 v b r m hp))
      split
      · rename_i hw; rw [if_pos hw] at h3; exact .inl h3
      · rename_i hw; rw [if_neg hw] at h3; exact h3
/-- An operation that only computes, of temporaries alone. -/
def Eag {J : Inv} {k0 : Lens} (E : Env J k0) (P : Program) (n : Nat) (ops : Array Oper) (o : Oper) (t : Nat → V) (v : V) : Prop :=
  ∀ t' b r m, (∀ i ∈ o.looksAt ops, t' i = t i) → ∀ g a w, Rel E n g ⟨t', b, r, m⟩ a w →
    if Region.wanted o (yielded ops a.tmps) then ∃ z, (execOp a.eval o).run P w = .ok (.value z) w ∧ RV g (⟨t', b, r, m⟩ : St).sh w v z else RV g (⟨t', b, r, m⟩ : St).sh w v undef
theorem Eag.agree {o : Oper} {t t2 : Nat → V} {v : V} (h : Eag E P n ops o t v) (ht : ∀ i ∈ o.looksAt ops, t2 i = t i) : Eag E P n ops o t2 v := fun t' b r m h' => h t' b r m (fun i hi => (h' i hi).trans (ht i hi))
theorem updO_put {s : St} {d : Option Nat} {v : V} : (⟨updO s.t d v, s.b, s.r, s.m⟩ : St) = s.set d v := by cases d <;> rfl
theorem Eag.htr {o : Oper} {s : St} {v : V} (h : Eag E P n ops o s.t v) : HTr E P n ops o s (fun v' b r m => v' = v ∧ b = s.b ∧ r = s.r ∧ m = s.m) := by
  intro t' ht g a w rel next Q hn
  have hz := h t' s.b s.r s.m ht g a w rel
  by_cases hw : Region.wanted o (yielded ops a.tmps) = true
  · rw [if_pos hw] at hz ⊢
    obtain ⟨z, h1, h2⟩ := hz
    unfold Oper.wp
    rw [h1]
    exact hn _ g _ _ ⟨v, s.b, s.r, s.m, rfl, rfl, rfl, rfl, rfl⟩ (by have := rel.put_same o.dst h2; rw [← updO_put] at this; exact this)
  · rw [if_neg hw] at hz ⊢
    exact hn _ g _ _ ⟨v, s.b, s.r, s.m, rfl, rfl, rfl, rfl, rfl⟩ (by have := rel.put_same o.dst hz; rw [← updO_put] at this; exact this)
theorem anyS_first {K : St → Prop} {L1 : Array Bool} {i : Nat} {oi : Oper} {v : V} (hi : ops[i]? = some oi) (hdep : ∀ j oj, ops[j]? = some oj → L1.getD j true = false → DepOn md ops j i) :
    ∀ (fuel : Nat) (listed : Array Bool) (s : St), Closed md ops listed → (∀ j oj, ops[j]? = some oj → j ≠ i → listed.getD j true = false → DepOn md ops j i ∨ oi.apart ops oj = true) →
      i ∈ Region.ready md ops listed → Eag E P n ops oi s.t v → AnyS E P n md ops L1 K fuel (listed.setIfInBounds i true) ⟨updO s.t oi.dst v, s.b, s.r, s.m⟩ → AnyS E P n md ops L1 K (fuel + 1) listed s := by
  intro fuel
  induction fuel with
  | zero =>
    intro listed s hcl hfree hr he H
    refine ⟨fun h => (by rw [h] at hr; cases hr), fun j hj => ?_⟩
    by_cases hji : j = i
    · subst hji; unfold qS; simp only [hi]; exact ⟨_, he.htr, fun v' b r m ⟨e1, e2, e3, e4⟩ => by subst e1; subst e2; subst e3; subst e4; exact H⟩
    · exfalso
      obtain ⟨hjun, oj, hoj, hall⟩ := mem_ready.1 hj
      have hiun := (mem_ready.1 hr).1
      have h1 : L1.getD j true = false := by rw [← H.1, getD_set_ne true (Ne.symm hji)]; exact hjun
      have h2 := dep_ready hcl (hdep j oj hoj h1) hj
      rcases Nat.lt_or_ge i listed.size with h' | h'
      · simp [h'] at hiun h2; rw [hiun] at h2; cases h2
      · simp [Array.getD_eq_getD_getElem?, Array.getElem?_eq_none h'] at h2
  | succ fuel ih =>
    intro listed s hcl hfree hr he H
    refine ⟨fun h => (by rw [h] at hr; cases hr), fun j hj => ?_⟩
    by_cases hji : j = i
    · subst hji; unfold qS; simp only [hi]; exact ⟨_, he.htr, fun v' b r m ⟨e1, e2, e3, e4⟩ => by subst e1; subst e2; subst e3; subst e4; exact H⟩
    · have h1 := H.2 j (ready_mono hj hji)
      obtain ⟨hjun, oj, hoj, hall⟩ := mem_ready.1 hj
      have hiun := (mem_ready.1 hr).1
      have hnd : ¬ DepOn md ops j i := fun hd => by
        have h2 := dep_ready hcl hd hj
        rcases Nat.lt_or_ge i listed.size with h' | h'
        · simp [h'] at hiun h2; rw [hiun] at h2; cases h2
        · simp [Array.getD_eq_getD_getElem?, Array.getElem?_eq_none h'] at h2
      have hap := (hfree j oj hoj hji hjun).resolve_left hnd
      obtain ⟨a1, a2, a3⟩ := Oper.apart_spec hap
      unfold qS at h1 ⊢
      simp only [hoj] at h1 ⊢
      obtain ⟨Post, hq, hK⟩ := h1
      have ag : ∀ k ∈ oj.looksAt ops, updO s.t oi.dst v k = s.t k := fun k hk => updO_ne fun d hd he => a1 d hd (he ▸ hk)
      refine ⟨Post, fun t' ht => hq t' (fun k hk => (ht k hk).trans (ag k hk).symm), fun v' b r m hp => ?_⟩
      refine ih (listed.setIfInBounds j true) ⟨updO s.t oj.dst v', b, r, m⟩ (closed_set hcl hj) (fun k ok hk hki hun => hfree k ok hk hki ?_) (ready_mono hr (Ne.symm hji)) (he.agree fun k hk => updO_ne fun d hd he => a3 d hd (he ▸ hk)) ?_
      · by_cases hjk : j = k
        · subst hjk; exact hjun
        · rwa [getD_set_ne true hjk] at hun
      · have := hK v' b r m hp
        rw [Array.setIfInBounds_comm _ _ hji]
        simp only
        rw [← updO_comm _ _ _ a2]
        exact this
def AnyZ {J : Inv} {k0 : Lens} (E : Env J k0) (P : Program) (n : Nat) (ops : Array Oper) (L1 : Array Bool) (K : St → Prop) (fuel : Nat) (listed : Array Bool) (s : St) : Prop := Closed .any ops listed → AnyS E P n .any ops L1 K fuel listed s
def freeS (ops : Array Oper) (L1 listed : Array Bool) (i : Nat) : Bool :=
  (Region.ready .any ops listed).contains i && (tailD .any ops L1 i && match ops[i]? with
  | some oi => (List.range ops.size).all fun j => match ops[j]? with
    | some oj => Nat.beq j i || listed.getD j true || depB .any ops ops.size j i || oi.apart ops oj
    | none => true
  | none => false)
theorem AnyZ.nil {L1 : Array Bool} {K : St → Prop} {listed : Array Bool} {s : St} (hl : listed = L1) (h : K s) : AnyZ E P n ops L1 K 0 listed s := fun _ => ⟨hl, h⟩
theorem AnyZ.eager {L1 : Array Bool} {K : St → Prop} {fuel : Nat} {listed : Array Bool} {s : St} (i : Nat) {oi : Oper} {v : V} (hi : ops[i]? = some oi) (hB : freeS ops L1 listed i = true) (he : Eag E P n ops oi s.t v)
    (h : AnyZ E P n ops L1 K fuel (listed.setIfInBounds i true) ⟨updO s.t oi.dst v, s.b, s.r, s.m⟩) : AnyZ E P n ops L1 K (fuel + 1) listed s := by
  intro hc
  unfold freeS at hB
  simp only [Bool.and_eq_true, hi] at hB
  obtain ⟨hr, ht, hf⟩ := hB
  have hr' : i ∈ Region.ready .any ops listed := by simpa using hr
  refine anyS_first hi (fun j oj hj hun => ?_) fuel listed s hc (fun j oj hj hji hun => ?_) hr' he (h (closed_set hc hr'))
  · unfold tailD at ht
    have := (List.all_eq_true.1 ht) j (List.mem_range.2 (Array.getElem?_eq_some_iff.1 hj).1)
    rw [hun, Bool.false_or] at this
    exact depB_dep _ _ _ this
  · have := (List.all_eq_true.1 hf) j (List.mem_range.2 (Array.getElem?_eq_some_iff.1 hj).1)
    simp only [hj, hun, Bool.or_false, Bool.or_eq_true] at this
    rcases this with (h1 | h1) | h1
    · exact absurd (Nat.eq_of_beq_eq_true h1) hji
    · exact .inl (depB_dep _ _ _ h1)
    · exact .inr h1
theorem qS_of {L1 : Array Bool} {K : St → Prop} {fuel : Nat} {listed : Array Bool} {s : St} {i : Nat} {o : Oper} (hc : Closed .any ops listed) (hr : i ∈ Region.ready .any ops listed) (ho : ops[i]? = some o) {Post : HPost} (h1 : HTr E P n ops o s Post)
    (h2 : ∀ v b r m, Post v b r m → AnyZ E P n ops L1 K fuel (listed.setIfInBounds i true) ⟨updO s.t o.dst v, b, r, m⟩) : qS E P n ops i (AnyS E P n .any ops L1 K fuel (listed.setIfInBounds i true)) s := by
  unfold qS
  rw [ho]
  exact ⟨Post, h1, fun v b r m hp => h2 v b r m hp (closed_set hc hr)⟩
/-- What an operation leads to. -/
def OpZ {J : Inv} {k0 : Lens} (E : Env J k0) (P : Program) (n : Nat) (ops : Array Oper) (o : Oper) (K : St → Prop) (s : St) : Prop := ∃ Post, HTr E P n ops o s Post ∧ ∀ v b r m, Post v b r m → K ⟨updO s.t o.dst v, b, r, m⟩
theorem AnyZ.one {L1 : Array Bool} {K : St → Prop} {fuel : Nat} {listed : Array Bool} {s : St} (i : Nat) {o : Oper} (hr : Region.ready .any ops listed = [i]) (ho : ops[i]? = some o)
    (h : OpZ E P n ops o (AnyZ E P n ops L1 K fuel (listed.setIfInBounds i true)) s) : AnyZ E P n ops L1 K (fuel + 1) listed s := by
  intro hc
  refine ⟨by rw [hr]; simp, fun j hj => ?_⟩
  have hj' := hj
  rw [hr, List.mem_singleton] at hj
  subst hj
  obtain ⟨Post, h1, h2⟩ := h
  exact qS_of hc hj' ho h1 h2
theorem AnyZ.two {L1 : Array Bool} {K : St → Prop} {fuel : Nat} {listed : Array Bool} {s : St} (i j : Nat) {o q : Oper} (hr : Region.ready .any ops listed = [i, j]) (ho : ops[i]? = some o) (hq : ops[j]? = some q)
    (h : OpZ E P n ops o (AnyZ E P n ops L1 K fuel (listed.setIfInBounds i true)) s) (h' : OpZ E P n ops q (AnyZ E P n ops L1 K fuel (listed.setIfInBounds j true)) s) : AnyZ E P n ops L1 K (fuel + 1) listed s := by
  intro hc
  refine ⟨by rw [hr]; simp, fun x hx => ?_⟩
  have hx' := hx
  rw [hr, List.mem_cons, List.mem_singleton] at hx
  rcases hx with rfl | rfl
  · obtain ⟨Post, h1, h2⟩ := h; exact qS_of hc hx' ho h1 h2
  · obtain ⟨Post, h1, h2⟩ := h'; exact qS_of hc hx' hq h1 h2
/-- An operation by a rule of the regions that draw. -/
theorem OpZ.d {o : Oper} {K : St → Prop} {s : St} (h : WD E P n ops [o] K s) : OpZ E P n ops o K s := by
  obtain ⟨v, b', h1, h2⟩ := h
  refine ⟨fun v1 b1 r1 m1 => v1 = v ∧ b1 = b' ∧ r1 = s.r ∧ m1 = s.m, fun t' ht g a w rel next Q hn => ?_, fun v1 b1 r1 m1 ⟨e1, e2, e3, e4⟩ => by subst e1; subst e2; subst e3; subst e4; exact h2⟩
  have h3 := (h1 t' ht).2.2 g a w rel next Q (fun z g' w' hl hv => hn _ g' _ _ ⟨v, b', s.r, s.m, rfl, rfl, rfl, rfl, rfl⟩ (Tr.rel (o := o) rel hl hv))
  exact h3
/-- A call that may turn what is the caller's. -/
theorem OpZ.hcall {i : Nat} {fo : Operand} {args : Array Operand} {ats : Array TypeId} {ty : TypeId} {pos : String} {after : Array Edge} {K : St → Prop} {u : V} {f : FuncId} {caps : List C} {us ws : List V} {rv : V} {b' : List (List C)} {r' : List (Option RowO)} {m' : List (List (DV × DV))}
    (hu : opd n ⟨t, b, r, m⟩ fo = (true, u)) (hc : calleeV u = some (f, caps)) (ha : allOpdL n ⟨t, b, r, m⟩ args.toList = (true, us)) (hw : forceVs (appL us (caps.map V.one)) = some ws) (pc : HCall P J f ws b r m (isH rv b' r' m'))
    (k : K ⟨upd t i rv, b', r', m'⟩) : OpZ E P n ops ⟨some i, .call ⟨.value fo, args, ats⟩, ty, pos, after, none⟩ K ⟨t, b, r, m⟩ := by
  obtain rfl := forceVs_eq hw
  rw [appL_eq] at pc
  obtain ⟨o, ho⟩ : ∃ o : Oper, o = ⟨some i, .call ⟨.value fo, args, ats⟩, ty, pos, after, none⟩ := ⟨_, rfl⟩
  rw [← ho]
  have hop : o.op = .call ⟨.value fo, args, ats⟩ := by rw [ho]
  have hm : o.op.operands.toList = fo :: args.toList := by rw [hop]; simp [Op.operands, Call.operands]
  refine ⟨isH rv b' r' m', fun t' ht => ?_, fun v1 b1 r1 m1 ⟨e1, e2, e3, e4⟩ => by subst e1; subst e2; subst e3; subst e4; rw [ho]; exact k⟩
  refine Step.hcall (Q := isH rv b' r' m') pc hop (by rw [ho]) ?_ hc ?_ (fun rv1 b1 r1 m1 ⟨e1, e2, e3, e4⟩ => ⟨rv, b', r', m', ?_, rfl, rfl, rfl, rfl⟩)
  · rw [looks_opd (b := b) (by rw [hm]; simp) ht]; exact hu
  · rw [← ha]; exact allOpdL_congr _ (fun p hp => looks_opd (b := b) (by rw [hm]; exact List.mem_cons_of_mem _ hp) ht)
  · subst e1; subst e2; subst e3; subst e4; rw [ho]; rfl
/-- What only computes, of temporaries alone. -/
theorem Eag.pure (hT : TabOk P T) (hZ : ZeroOk T) {i : Nat} {op : Op} {ty : TypeId} {pos : String} {after : Array Edge} {ok : Bool} {v0 v : V} (hcl : Nat.beq (cls op) 0 = true) (he : ∀ b r m, evP T n ⟨t, b, r, m⟩ op = some (ok, v0)) (hok : ok = true) (hf : forceV v0 = some v) :
    Eag E P n ops ⟨some i, op, ty, pos, after, none⟩ t v := by
  obtain rfl := forceV_eq hf
  subst hok
  intro t' b r m ht g a w rel
  rw [if_pos (by simp [Region.wanted])]
  refine evP_ok hT hZ rel ?_
  rw [← he b r m]
  exact evP_congr op rfl (.inr rfl) (fun x hx => looks_opd (o := ⟨some i, op, ty, pos, after, none⟩) (b := b) hx ht)
/-- **A region that draws its order; the operations from number k on wait for all ahead of them.** -/
theorem W.regionS {id : Nat} {l l1 l2 : List Oper} {K : Ex → St → Prop} {s : St} (k : Nat) (hm : P.follows .mixedOrders = true) (hc : cutF k l = some (l1, l2))
    (hB : seqC .any l.toArray l2.length l1.length (endL l1.length 0 (Array.replicate l.toArray.size false)) = true)
    (h : AnyZ E P n l.toArray (endL l1.length 0 (Array.replicate l.toArray.size false)) (WL E P n l.toArray l2 (K .normal)) l1.length (Array.replicate l.toArray.size false) s) : W E P n (.region id l.toArray true) K s := by
  have hl := cutF_eq hc
  intro g a w rel
  refine wp_region_any hm ?_
  have rel' := rel.drew (w.drawn + 1)
  have hcl : Closed .any l.toArray (Array.replicate l.toArray.size false) := fun j o e ho hl _ _ => by
    simp [Array.getD_eq_getD_getElem?, Array.getElem?_replicate] at hl
    split at hl <;> simp_all
  have hsz : l.toArray.size = l2.length + l1.length := by rw [hl]; simp; omega
  have key := wpAny_of_AnyS (f2 := l2.length) (Q := fun e a' w' => ∃ x s' g', e = Ex.exit' x ∧ K x s' ∧ Rel E n g' s' a' w') (fun s g a w hk rel => ?_) l1.length _ s g a _ rel' (h hcl)
  · rw [← hsz] at key; exact key
  refine wpAny_of_seq (fun s g a w hk rel => ⟨.normal, s, g, rfl, hk, rel⟩) l2 l1.length _ s g a w (fun j => ?_) hB rel hk
  simp only [List.getElem?_toArray]
  rw [hl, List.getElem?_append_right (by omega)]
  congr 1
  omega
end
end Go.Proofs.YtjibdoagpegniaaGreatDoor

/- Plain words: what the program reads as a range, the reference reads. -/
set_option linter.unusedVariables false
set_option linter.unusedSimpArgs false
namespace Go.Proofs.YtjibdoagpegniaaGreatDoor
open Go
theorem first_of {c : UInt8} {s : List UInt8} (h : c ∈ s) : ∃ x y, s = x ++ c :: y ∧ c ∉ x := by
  induction s with
  | nil => cases h
  | cons a s ih =>
    by_cases ha : a = c
    · subst ha; exact ⟨[], s, rfl, by simp⟩
    · have h' : c ∈ s := by rcases List.mem_cons.1 h with h | h; exact absurd h.symm ha; exact h
      obtain ⟨x, y, rfl, hx⟩ := ih h'
      exact ⟨a :: x, y, rfl, by simp [hx, Ne.symm ha]⟩
theorem contains_iff {c : UInt8} {s : List UInt8} : Lib.contains s [c] = decide (c ∈ s) := by
  unfold Lib.contains
  by_cases h : c ∈ s
  · obtain ⟨x, y, rfl, hx⟩ := first_of h
    rw [index_at hx]; simp
  · rw [index_none h]; simp [h]
theorem rowB_iff {s : List UInt8} : rowB s = decide ((32 : UInt8) ∉ s) := by rw [rowB, contains_iff]; simp
theorem parse_check {s : List UInt8} {v : Ver} (h : parseB s = (v, 0)) : v.check = 0 := by
  unfold parseB parseW at h
  split at h
  · simp at h
  · split at h
    · unfold threeB at h
      split at h
      · simp at h
      · split at h
        · simp at h
        · split at h
          · simp at h
          · split at h
            · rename_i hc
              simp only [Prod.mk.injEq] at h
              rw [h.2] at hc
              simp at hc
            · rename_i hc
              simp only [Prod.mk.injEq, and_true] at h
              rw [← h]
              simpa [Ver.check] using hc
    · simp at h
theorem check_codes (a b c : Int) (e : List UInt8) : checkB a b c e = 0 ∨ checkB a b c e = 2 ∨ checkB a b c e = 3 := by
  unfold checkB
  split
  · simp
  · split <;> simp
theorem nextOk_codes (x y z : Int) : (nextOk x y z).2 ≠ 8 := by
  unfold nextOk
  split <;> simp
theorem next_codes (v : Ver) (p : Int) : (nextB v p).2 ≠ 8 := by
  unfold nextB
  split
  · have := check_codes v.a v.b v.c v.e
    simp only [Ver.check]; omega
  · split
    · exact nextOk_codes _ _ _
    · split
      · exact nextOk_codes _ _ _
      · split
        · exact nextOk_codes _ _ _
        · split
          · simp
          · exact nextOk_codes _ _ _
theorem behind_codes (v : Ver) (g : Int) : (behindB v g).2 ≠ 8 := by
  unfold behindB
  split
  · have := check_codes v.a v.b v.c (v.e ++ [46, 48])
    simp only; omega
  · split
    · exact next_codes _ _
    · split <;> exact next_codes _ _
theorem check_a {v : Ver} (h : v.check = 0) : 0 ≤ v.a := by
  unfold Ver.check checkB at h
  split at h
  · cases h
  · rename_i h1
    simp [outsideN, outsideB] at h1
    omega
theorem behind_eq {v : Ver} (h : v.check = 0) (g : Int) : behindR' v g = behindB v g := by
  have ha := check_a h
  have e : decide (v.a > 0) = !(v.a == 0) := by
    by_cases h0 : v.a = 0
    · simp [h0]
    · have : v.a > 0 := by omega
      simp [h0, this]
  simp only [behindR', behindB, e]
theorem shortV_eq (k : Int) (w : List UInt8) (h42 : k ≠ 42) (h62 : k ≠ 62) (h60 : k ≠ 60) (h98 : k ≠ 98) : (shortV k w).2 = (spanB ⟨k, w, []⟩).2 ∧ ((shortV k w).2 = 0 → (shortV k w).1 = (spanB ⟨k, w, []⟩).1) ∧ ((shortV k w).2 = 8 ↔ (parseB w).2 = 8) := by
  rw [shortV_def]
  unfold spanB
  simp only [beq_iff_eq, h42, h62, h60, h98, if_false]
  by_cases hp : (parseB w).2 = 0
  · have hc := parse_check (s := w) (v := (parseB w).1) (by rw [← hp])
    simp only [hp, bne_self_eq_false, Bool.false_eq_true, if_false, behind_eq hc]
    refine ⟨?_, ?_, ?_⟩ <;> simp [behind_codes]
  · simp [hp]
theorem idx3 {c : UInt8} (h : Lib.indexByte [61, 94, 126] c ≥ 0) : c = 61 ∨ c = 94 ∨ c = 126 := by
  simp only [Lib.indexByte] at h
  by_cases h1 : (61 : UInt8) = c
  · exact .inl h1.symm
  · by_cases h2 : (94 : UInt8) = c
    · exact .inr (.inl h2.symm)
    · by_cases h3 : (126 : UInt8) = c
      · exact .inr (.inr h3.symm)
      · simp [h1, h2, h3] at h
theorem idx4 {c : UInt8} (h : c ≠ 60) : decide (Lib.indexByte [60, 61, 94, 126] c ≥ 0) = decide (Lib.indexByte [61, 94, 126] c ≥ 0) := by
  simp only [Lib.indexByte]
  by_cases h1 : (61 : UInt8) = c
  · subst h1; decide
  · by_cases h2 : (94 : UInt8) = c
    · subst h2; decide
    · by_cases h3 : (126 : UInt8) = c
      · subst h3; decide
      · simp [h1, h2, h3, Ne.symm h]
theorem byte_back (c : UInt8) : (bI c).toNat.toUInt8 = c := by simp [bI]
theorem pre2 {x : List UInt8} (h : Lib.hasPrefix x [62, 61] = true) : ∃ r, x = 62 :: 61 :: r := by
  unfold Lib.hasPrefix at h
  match x, h with
  | [], h => simp at h
  | [a], h => simp [List.isPrefixOf] at h
  | a :: b :: r, h =>
    simp [List.isPrefixOf] at h
    exact ⟨r, by rw [h.1, h.2]⟩
theorem pre1 {x : List UInt8} (h : Lib.hasPrefix x [60] = true) : ∃ r, x = 60 :: r := by
  unfold Lib.hasPrefix at h
  match x, h with
  | [], h => simp at h
  | a :: r, h =>
    simp [List.isPrefixOf] at h
    exact ⟨r, by rw [h]⟩
theorem trim2 (r : List UInt8) : Lib.trimPrefix (62 :: 61 :: r) [62, 61] = r := by simp [Lib.trimPrefix, Lib.hasPrefix, List.isPrefixOf]
theorem trim1 (r : List UInt8) : Lib.trimPrefix (60 :: r) [60] = r := by simp [Lib.trimPrefix, Lib.hasPrefix, List.isPrefixOf]
theorem has2 (r : List UInt8) : Lib.hasPrefix (62 :: 61 :: r) [62, 61] = true := by simp [Lib.hasPrefix, List.isPrefixOf]
theorem has1 (r : List UInt8) : Lib.hasPrefix (60 :: r) [60] = true := by simp [Lib.hasPrefix, List.isPrefixOf]
/-- What is told of a token by the program and by the reference. -/
def Same (t : List UInt8) : Prop := badB t = (tokE t == 8) ∧ (badB t = false → (spanB (itemB t).1).2 = tokE t ∧ (tokE t = 0 → (spanB (itemB t).1).1 = tokS t))
theorem same_from {r : List UInt8} (h : (32 : UInt8) ∉ r) : Same (62 :: 61 :: r) := by
  have hw : wordsR (62 :: 61 :: r) = [62 :: 61 :: r] := split_none (by simp [h])
  have hi : itemB (62 :: 61 :: r) = (⟨62, r, []⟩, true) := by
    unfold itemB
    rw [if_neg (by simp), if_pos (has2 r), trim2, cut_none h, if_neg (by simp), rowB_iff]
    simp [h]
  have ht : tokR (62 :: 61 :: r) = (⟨true, false, (parseB r).1, Ver.z⟩, (parseB r).2) := by
    rw [tok_1 (by rw [hw]; simp [has2])]
    rw [hw]; simp [trim2]
  unfold Same badB tokE tokS
  rw [hi, ht]
  refine ⟨by simp [wrongB], fun _ => ?_⟩
  unfold spanB
  by_cases hp : (parseB r).2 = 0 <;> simp [hp]
theorem same_to {r : List UInt8} (h : (32 : UInt8) ∉ r) : Same (60 :: r) := by
  have hw : wordsR (60 :: r) = [60 :: r] := split_none (by simp [h])
  have hi : itemB (60 :: r) = (⟨60, r, []⟩, true) := by
    unfold itemB
    rw [if_neg (by simp), if_neg (by simp [Lib.hasPrefix, List.isPrefixOf]), if_pos (by simp [byte_back]; decide), rowB_iff]
    simp [h, bI]
  have ht : tokR (60 :: r) = (⟨false, true, Ver.z, (parseB r).1⟩, (parseB r).2) := by
    rw [tok_2 (by rw [hw]; simp [Lib.hasPrefix, List.isPrefixOf]) (by rw [hw]; simp [has1])]
    rw [hw]; simp [trim1]
  unfold Same badB tokE tokS
  rw [hi, ht]
  refine ⟨by simp [wrongB], fun _ => ?_⟩
  unfold spanB
  by_cases hp : (parseB r).2 = 0 <;> simp [hp]
theorem same_short {t : List UInt8} (h : (32 : UInt8) ∉ t) (h1 : Lib.hasPrefix t [62, 61] = false) (h2 : Lib.hasPrefix t [60] = false) : Same t := by
  have hw : wordsR t = [t] := split_none h
  have ht : tokR t = shortB t := by
    rw [tok_3 (by rw [hw]; simp [h1]) (by rw [hw]; simp [h2]) (by rw [hw]; simp)]
    rw [hw]; simp
  by_cases hs : t = [42]
  · subst hs
    have hi : itemB [42] = (⟨42, [], []⟩, true) := rfl
    have hq : shortB [42] = (Sp.z, 0) := rfl
    unfold Same badB tokE tokS
    rw [hi, ht, hq]
    exact ⟨by simp, fun _ => ⟨rfl, fun _ => rfl⟩⟩
  · have key : ∀ (k : Int) (w : List UInt8), itemB t = (⟨k, w, []⟩, true) → shortB t = shortV k w → k ≠ 42 → k ≠ 62 → k ≠ 60 → k ≠ 98 → Same t := fun k w hi hq k1 k2 k3 k4 => by
      obtain ⟨q1, q2, q3⟩ := shortV_eq k w k1 k2 k3 k4
      unfold Same badB tokE tokS
      rw [hi, ht, hq]
      refine ⟨?_, fun _ => ⟨q1.symm, fun h0 => (q2 h0).symm⟩⟩
      have e : ((shortV k w).2 == 8) = ((parseB w).2 == 8) := by
        rw [Bool.eq_iff_iff]; simpa using q3
      have b1 : (k == 42) = false := by simpa using k1
      have b4 : (k == 98) = false := by simpa using k4
      simp only [wrongB, e, b1, b4]; simp
    by_cases hc : (!(t == []) && decide (Lib.indexByte [61, 94, 126] (bI (t.getD 0 0)).toNat.toUInt8 ≥ 0)) = true
    · obtain ⟨a, r, rfl⟩ : ∃ a r, t = a :: r := by
        cases t with
        | nil => simp at hc
        | cons a r => exact ⟨a, r, rfl⟩
      have hc' := hc
      simp only [byte_back] at hc'
      simp at hc'
      have h60 : a ≠ 60 := fun e => by subst e; simp [has1] at h2
      refine key (bI a) r ?_ ?_ ?_ ?_ ?_ ?_
      · unfold itemB
        rw [if_neg (by simpa using hs), if_neg (by simp [h1]), if_pos, rowB_iff]
        · simp at h; simp [h]
        · simp only [byte_back]
          have := idx4 h60
          simp at this ⊢
          rw [this]; exact hc'
      · unfold shortB
        rw [if_neg (by simpa using hs), if_pos hc]; simp
      all_goals
        rcases idx3 hc' with rfl | rfl | rfl <;> decide
    · refine key 94 t ?_ ?_ (by decide) (by decide) (by decide) (by decide)
      · unfold itemB
        rw [if_neg (by simpa using hs), if_neg (by simp [h1]), if_neg, rowB_iff]
        · simp [h]
        · intro hx
          apply hc
          cases t with
          | nil => simp at hx
          | cons a r =>
            have h60 : a ≠ 60 := fun e => by subst e; simp [has1] at h2
            have := idx4 h60
            simp only [byte_back] at hx ⊢
            simp at hx this ⊢
            rw [← this]; exact hx
      · unfold shortB
        rw [if_neg (by simpa using hs), if_neg hc]
theorem same_two {x y : List UInt8} (hx : (32 : UInt8) ∉ x) : Same (x ++ 32 :: y) := by
  have hw : wordsR (x ++ 32 :: y) = x :: Lib.split y [32] := split_cons hx
  have hlen : ((wordsR (x ++ 32 :: y)).length : Int) ≠ 1 := by
    rw [hw]; have := split_pos y [32]; simp only [List.length_cons]; omega
  have e1 : ∀ b, ((((wordsR (x ++ 32 :: y)).length : Int) == 1) && b) = false := fun b => by
    rw [show (((wordsR (x ++ 32 :: y)).length : Int) == 1) = false by simpa using hlen]; rfl
  have e0 : (((wordsR (x ++ 32 :: y)).length : Int) == 1) = false := by simpa using hlen
  have f0 : (wordsR (x ++ 32 :: y)).getD 0 [] = x := by rw [hw]; rfl
  have bad8 : ∀ (it : It), itemB (x ++ 32 :: y) = (it, false) → tokR (x ++ 32 :: y) = (Sp.z, 8) → Same (x ++ 32 :: y) := fun it hi ht => by
    unfold Same badB tokE
    rw [hi, ht]; simp
  by_cases hp : Lib.hasPrefix x [62, 61] = true
  · obtain ⟨r, rfl⟩ := pre2 hp
    have hr : (32 : UInt8) ∉ r := by simp at hx; exact hx
    have hcut : Lib.cut (r ++ 32 :: y) [32] = (r, y, true) := cut_at hr
    have hi : itemB (62 :: 61 :: r ++ 32 :: y) = (⟨98, r, Lib.trimPrefix y [60]⟩, (Lib.hasPrefix y [60] && rowB r) && rowB (Lib.trimPrefix y [60])) := by
      show itemB (62 :: 61 :: (r ++ 32 :: y)) = _
      unfold itemB
      rw [if_neg (by simp), if_pos (has2 _), trim2, hcut]
      rfl
    by_cases hy : (32 : UInt8) ∈ y
    · obtain ⟨y1, y2, rfl, hy1⟩ := first_of hy
      have hl3 : ((wordsR (62 :: 61 :: r ++ 32 :: (y1 ++ 32 :: y2))).length : Int) ≠ 2 := by
        rw [hw, split_cons hy1]; have := split_pos y2 [32]; simp only [List.length_cons]; omega
      have ht : tokR (62 :: 61 :: r ++ 32 :: (y1 ++ 32 :: y2)) = (Sp.z, 8) := by
        refine tok_5 (e1 _) (e1 _) e0 ?_
        rw [show (((wordsR (62 :: 61 :: r ++ 32 :: (y1 ++ 32 :: y2))).length : Int) == 2) = false by simpa using hl3]; rfl
      refine bad8 ⟨98, r, Lib.trimPrefix (y1 ++ 32 :: y2) [60]⟩ ?_ ht
      rw [hi]
      congr 1
      by_cases hq : Lib.hasPrefix (y1 ++ 32 :: y2) [60] = true
      · obtain ⟨q, hq'⟩ := pre1 hq
        have : (32 : UInt8) ∈ q := by
          have h3 : (32 : UInt8) ∈ y1 ++ 32 :: y2 := hy
          rw [hq'] at h3; simpa using h3
        rw [hq', trim1, rowB_iff (s := q)]; simp [this]
      · simp [hq]
    · have hws : wordsR (62 :: 61 :: r ++ 32 :: y) = [62 :: 61 :: r, y] := by rw [hw, split_none hy]
      by_cases hq : Lib.hasPrefix y [60] = true
      · obtain ⟨q, rfl⟩ := pre1 hq
        have hq32 : (32 : UInt8) ∉ q := by simp at hy; exact hy
        have ht := tok_4 (t := 62 :: 61 :: r ++ 32 :: (60 :: q)) (e1 _) (e1 _) e0 (by rw [hws]; simp [has2, has1])
        rw [hws] at ht
        simp only [List.getD_cons_zero, List.length_cons, List.length_nil, Nat.zero_add, Nat.add_sub_cancel, List.getD_cons_succ, trim2, trim1] at ht
        rw [trim1, has1] at hi
        have hi' : itemB (62 :: 61 :: r ++ 32 :: (60 :: q)) = (⟨98, r, q⟩, true) := by rw [hi, rowB_iff, rowB_iff]; simp [hr, hq32]
        unfold Same badB tokE tokS
        rw [hi', ht]
        by_cases hF : (parseB r).2 = 8
        · simp [wrongB, hF]
        · by_cases hT : (parseB q).2 = 8
          · simp [wrongB, hF, hT]
          · refine ⟨?_, fun _ => ?_⟩
            · have : firstB (parseB r).2 (parseB q).2 ≠ 8 := by unfold firstB; split <;> assumption
              have f1 : ((parseB r).2 == 8) = false := by simpa using hF
              have f2 : ((parseB q).2 == 8) = false := by simpa using hT
              have f3 : (firstB (parseB r).2 (parseB q).2 == 8) = false := by simpa using this
              simp [wrongB, f1, f2, f3]
            · unfold spanB
              by_cases hF0 : (parseB r).2 = 0
              · simp [hF0, hT, firstB]
              · simp [hF0, hF, hT, firstB]
      · have ht : tokR (62 :: 61 :: r ++ 32 :: y) = (Sp.z, 8) := tok_5 (e1 _) (e1 _) e0 (by rw [hws]; simp [hq])
        exact bad8 ⟨98, r, Lib.trimPrefix y [60]⟩ (by rw [hi]; simp [hq]) ht
  · have hp : Lib.hasPrefix x [62, 61] = false := by simpa using hp
    have ht : tokR (x ++ 32 :: y) = (Sp.z, 8) := tok_5 (e1 _) (e1 _) e0 (by rw [f0, hp]; simp)
    have hpt : Lib.hasPrefix (x ++ 32 :: y) [62, 61] = false := by
      match x, hp with
      | [], _ => simp [Lib.hasPrefix, List.isPrefixOf]
      | [a], _ => simp [Lib.hasPrefix, List.isPrefixOf]
      | a :: b :: x, hp => simpa [Lib.hasPrefix, List.isPrefixOf] using hp
    have hne : (x ++ 32 :: y == [42]) = false := by
      have : x ++ 32 :: y ≠ [42] := fun e => by
        have h3 : (32 : UInt8) ∈ x ++ 32 :: y := by simp
        rw [e] at h3; simp at h3
      simpa using this
    by_cases hc : (!(x ++ 32 :: y == []) && decide (Lib.indexByte [60, 61, 94, 126] (bI ((x ++ 32 :: y).getD 0 0)).toNat.toUInt8 ≥ 0)) = true
    · refine bad8 ⟨bI ((x ++ 32 :: y).getD 0 0), (x ++ 32 :: y).drop 1, []⟩ ?_ ht
      unfold itemB
      rw [if_neg (by simp [hne]), if_neg (by simp [hpt]), if_pos hc]
      congr 1
      match x, hc with
      | [], hc => simp [byte_back, Lib.indexByte] at hc
      | a :: x, _ => rw [rowB_iff]; simp
    · refine bad8 ⟨94, x ++ 32 :: y, []⟩ ?_ ht
      unfold itemB
      rw [if_neg (by simp [hne]), if_neg (by simp [hpt]), if_neg hc, rowB_iff]
      simp
theorem same_all (t : List UInt8) : Same t := by
  by_cases h : (32 : UInt8) ∈ t
  · obtain ⟨x, y, rfl, hx⟩ := first_of h
    exact same_two hx
  · by_cases h1 : Lib.hasPrefix t [62, 61] = true
    · obtain ⟨r, rfl⟩ := pre2 h1
      exact same_from (by simp at h; exact h)
    · by_cases h2 : Lib.hasPrefix t [60] = true
      · obtain ⟨r, rfl⟩ := pre1 h2
        exact same_to (by simp at h; exact h)
      · exact same_short h (by simpa using h1) (by simpa using h2)
theorem firstNe_zero : ∀ {l : List Int}, firstNe l = 0 → ∀ x ∈ l, x = 0
  | [], _, x, hx => by cases hx
  | a :: l, h, x, hx => by
    by_cases ha : a = 0
    · subst ha
      have h' : firstNe l = 0 := by simpa [firstNe] using h
      rcases List.mem_cons.1 hx with rfl | hx
      · rfl
      · exact firstNe_zero h' x hx
    · unfold firstNe at h
      rw [List.find?_cons, show (a != 0) = true by simpa using ha] at h
      exact absurd h ha
/-- **What the program reads as a range, the reference reads.** -/
theorem range_eq (s : List UInt8) : rangeB s = rangeR s := by
  unfold rangeB rangeR
  split
  · rfl
  · split
    · rfl
    · have hbad : (partsR s).any badB = (partsR s).any (fun t => tokE t == 8) := by
        congr 1; funext t; exact (same_all t).1
      rw [hbad]
      split
      · rfl
      · rename_i h8
        have hall : ∀ t ∈ partsR s, badB t = false := fun t ht => by
          rw [(same_all t).1]
          have := List.any_eq_false.1 (Bool.eq_false_iff.2 h8) t ht
          simpa using this
        have hcodes : ((partsR s).map fun t => (spanB (itemB t).1).2) = (partsR s).map tokE := List.map_congr_left fun t ht => ((same_all t).2 (hall t ht)).1
        rw [hcodes]
        by_cases h0 : firstNe ((partsR s).map tokE) = 0
        · have hsp : ((partsR s).map fun t => (spanB (itemB t).1).1) = (partsR s).map tokS := List.map_congr_left fun t ht =>
            ((same_all t).2 (hall t ht)).2 (firstNe_zero h0 _ (List.mem_map_of_mem ht))
          rw [hsp, h0]
          simp [firstB]
        · simp [h0, firstB]
end Go.Proofs.YtjibdoagpegniaaGreatDoor

/- Plain words: a range that is printed is read again. -/
set_option linter.unusedVariables false
set_option linter.unusedSimpArgs false
namespace Go.Proofs.YtjibdoagpegniaaGreatDoor
open Go
end Go.Proofs.YtjibdoagpegniaaGreatDoor

/- Plain words: the law on texts of ranges. -/
set_option linter.unusedVariables false
set_option linter.unusedSimpArgs false
namespace Go.Proofs.YtjibdoagpegniaaGreatDoor
open Go
end Go.Proofs.YtjibdoagpegniaaGreatDoor

/- Plain words: what ranges have, alone and together (the program). -/
set_option linter.unusedVariables false
set_option linter.unusedSimpArgs false
namespace Go.Proofs.YtjibdoagpegniaaGreatDoor
open Go
end Go.Proofs.YtjibdoagpegniaaGreatDoor

/- Plain words: the order of versions is a total order. -/
set_option linter.unusedVariables false
set_option linter.unusedSimpArgs false
namespace Go.Proofs.YtjibdoagpegniaaGreatDoor
open Go
theorem rows_first (xs ys : List (List UInt8)) : rowsB xs ys = firstB (firstNe (List.zipWith cwB xs ys)) (Lib.compareInt xs.length ys.length) := rfl
end Go.Proofs.YtjibdoagpegniaaGreatDoor

/- Plain words: right ranges aa rows of stretches. -/
set_option linter.unusedVariables false
set_option linter.unusedSimpArgs false
namespace Go.Proofs.YtjibdoagpegniaaGreatDoor
open Go
variable {pts : List Ver}
end Go.Proofs.YtjibdoagpegniaaGreatDoor

/- Plain words: what two ranges have in common, step by step. -/
set_option linter.unusedVariables false
set_option linter.unusedSimpArgs false
namespace Go.Proofs.YtjibdoagpegniaaGreatDoor
open Go
end Go.Proofs.YtjibdoagpegniaaGreatDoor

/- Plain words: conditions; what the program says of their parts. -/
set_option linter.unusedVariables false
set_option linter.unusedSimpArgs false
namespace Go.Proofs.YtjibdoagpegniaaGreatDoor
open Go
inductive CT where
  | mk (k : Int) (n v : List UInt8) (l : List CT)
mutual
def CT.d : CT → List D
  | .mk k n v l => [.int .i64 k, .str n, .str v, .vec 4 (CT.ds l)]
def CT.ds : List CT → List (List D)
  | [] => []
  | c :: l => c.d :: CT.ds l
end
theorem ds_map : ∀ (l : List CT), CT.ds l = l.map CT.d
  | [] => rfl
  | c :: l => by
    show c.d :: CT.ds l = _
    rw [ds_map l]; rfl
def CT.z : CT := .mk 0 [] [] []
def CT.k : CT → Int | .mk k _ _ _ => k
def CT.n : CT → List UInt8 | .mk _ n _ _ => n
def CT.v : CT → List UInt8 | .mk _ _ v _ => v
def CT.l : CT → List CT | .mk _ _ _ l => l
mutual
def CT.w : CT → Nat
  | .mk _ _ _ l => CT.ws l + 1
def CT.ws : List CT → Nat
  | [] => 0
  | c :: l => c.w + CT.ws l
end
theorem ws_mem : ∀ {l : List CT} {a : CT}, a ∈ l → a.w ≤ CT.ws l
  | c :: l, a, h => by
    show a.w ≤ c.w + CT.ws l
    rcases List.mem_cons.1 h with rfl | h
    · omega
    · have := ws_mem h; omega
theorem CT.sz {c a : CT} (h : a ∈ c.l) : a.w < c.w := by
  cases c with
  | mk k n v l =>
    have h2 : a.w ≤ CT.ws l := ws_mem h
    show a.w < CT.ws l + 1
    omega
theorem CT.pos (c : CT) : 0 < c.w := by cases c; show 0 < CT.ws _ + 1; omega
/-- A condition's cells. -/
def ctC (c : CT) : List C := [.d (.int .i64 c.k), .d (.str c.n), .d (.str c.v), .d (.vec 4 (CT.ds c.l))]
abbrev ctV (c : CT) : V := .agg [.d (.int .i64 c.k), .d (.str c.n), .d (.str c.v), .d (.vec 4 (CT.ds c.l))]
theorem ct_d (c : CT) : c.d = [.int .i64 c.k, .str c.n, .str c.v, .vec 4 (CT.ds c.l)] := by cases c; rfl
/-- The error of a part alone. -/
def partP (k : Int) (n v : List UInt8) (m : Int) : Int :=
  if decide (k < 1) || decide (k > 8) then 1
  else if (((!(decide (k ≥ 2) && decide (k ≤ 5)) && !(n == [])) || (!((decide (k ≥ 2) && decide (k ≤ 5)) && k != 4) && !(v == []))) || (!decide (k ≥ 6) && decide (m > 0))) || (k == 6 && m != 1) then 2
  else if !(decide (k ≥ 2) && decide (k ≤ 5)) then 0
  else if !(if (k == 3 || k == 4) then pathB n else nameB n) then 5
  else if !valueB v then 2
  else if k == 5 then (rangeB v).2 else 0
def CT.part (c : CT) : Int := partP c.k c.n c.v (c.l.length : Int)
def up1 (n : Int) : Int := IntKind.i64.wrap (n + 1)
/-- A visit of all parts, the outer ones first, as long as the function says so. -/
def visits {S : Type} (g : CT → S → Bool × S) : List CT → S → Bool × S
  | [], s => (true, s)
  | c :: l, s => if (g c s).1 then visits g l (g c s).2 else (false, (g c s).2)
theorem visits_nil {S : Type} {g : CT → S → Bool × S} {l : List CT} {s : S} : visits g (l.take 0) s = (true, s) := rfl
theorem visits_congr {S : Type} {g g' : CT → S → Bool × S} : ∀ {l : List CT}, (∀ c ∈ l, g c = g' c) → visits g l = visits g' l
  | [], _ => rfl
  | c :: l, h => by
    funext s
    have ih := visits_congr (l := l) (fun c hc => h c (List.mem_cons_of_mem _ hc))
    unfold visits
    rw [h c List.mem_cons_self, ih]
def visitN {S : Type} (f : CT → Int → S → Bool × S) : Nat → CT → Int → S → Bool × S
  | 0, c, lv, s => (true, s)
  | fuel + 1, c, lv, s => if (f c lv s).1 then visits (fun a => visitN f fuel a (up1 lv)) c.l (f c lv s).2 else (false, (f c lv s).2)
def visit {S : Type} (f : CT → Int → S → Bool × S) (c : CT) (lv : Int) (s : S) : Bool × S := visitN f c.w c lv s
theorem visitN_fuel {S : Type} (f : CT → Int → S → Bool × S) : ∀ (n m : Nat) (c : CT) (lv : Int), c.w ≤ n → c.w ≤ m → visitN f n c lv = visitN f m c lv
  | 0, m, c, lv, h, _ => by have := c.pos; omega
  | n + 1, 0, c, lv, _, h => by have := c.pos; omega
  | n + 1, m + 1, c, lv, h, h' => by
    funext s
    show (if (f c lv s).1 then visits (fun a => visitN f n a (up1 lv)) c.l (f c lv s).2 else _) = (if (f c lv s).1 then visits (fun a => visitN f m a (up1 lv)) c.l (f c lv s).2 else _)
    rw [visits_congr (fun a ha => visitN_fuel f n m a (up1 lv) (by have := CT.sz ha; omega) (by have := CT.sz ha; omega))]
theorem visit_eq {S : Type} (f : CT → Int → S → Bool × S) (c : CT) (lv : Int) (s : S) :
    visit f c lv s = if (f c lv s).1 then visits (fun a => visit f a (up1 lv)) c.l (f c lv s).2 else (false, (f c lv s).2) := by
  unfold visit
  obtain ⟨n, hn⟩ : ∃ n, c.w = n + 1 := ⟨c.w - 1, by have := c.pos; omega⟩
  rw [hn]
  show (if (f c lv s).1 then visits (fun a => visitN f n a (up1 lv)) c.l (f c lv s).2 else _) = _
  rw [visits_congr (fun a ha => visitN_fuel f n a.w a (up1 lv) (by have := CT.sz ha; omega) (Nat.le_refl _))]
theorem visit_no {S : Type} {f : CT → Int → S → Bool × S} {c : CT} {lv : Int} {s : S} (h : (f c lv s).1 = false) : visit f c lv s = (false, (f c lv s).2) := by rw [visit_eq, h]; simp
theorem visits_snoc {S : Type} {g : CT → S → Bool × S} : ∀ {l : List CT} {a : CT} {s s' : S}, visits g l s = (true, s') → visits g (l ++ [a]) s = g a s'
  | [], a, s, s', h => by
    have h2 : s = s' := (Prod.mk.inj h).2
    subst h2
    show (if (g a s).1 then (true, (g a s).2) else (false, (g a s).2)) = g a s
    cases h : g a s with
    | mk b q => cases b <;> rfl
  | c :: l, a, s, s', h => by
    unfold visits at h
    show (if (g c s).1 then visits g (l ++ [a]) (g c s).2 else _) = _
    cases hc : (g c s).1 with
    | true => rw [hc, if_pos rfl] at h; rw [if_pos rfl]; exact visits_snoc h
    | false => rw [hc] at h; simp at h
theorem visits_stop {S : Type} {g : CT → S → Bool × S} : ∀ {l : List CT} {i : Nat} {s s' : S}, i < l.length → visits g (l.take i) s = (true, s') → (g (l.getD i CT.z) s').1 = false → visits g l s = (false, (g (l.getD i CT.z) s').2)
  | [], i, s, s', hi, _, _ => by simp at hi
  | c :: l, 0, s, s', _, h, hc => by
    have h2 : s = s' := (Prod.mk.inj h).2
    subst h2
    have hc : (g c s).1 = false := hc
    show (if (g c s).1 then _ else (false, (g c s).2)) = _
    rw [hc]; rfl
  | c :: l, i + 1, s, s', hi, h, hc => by
    have h : (if (g c s).1 then visits g (l.take i) (g c s).2 else (false, (g c s).2)) = (true, s') := h
    show (if (g c s).1 then visits g l (g c s).2 else _) = _
    cases hq : (g c s).1 with
    | true => rw [hq, if_pos rfl] at h; rw [if_pos rfl]; exact visits_stop (by simpa using hi) h hc
    | false => rw [hq] at h; simp at h
/-- The visits of CheckCond: how many parts, whether one stands too deep; the first error. -/
def cc1 (c : CT) (lv : Int) (s : Int × Bool) : Bool × (Int × Bool) := (decide (up1 s.1 ≤ 100), (up1 s.1, s.2 || decide (lv > 20)))
def cc2 (c : CT) (lv : Int) (s : Int) : Bool × Int := (c.part == 0, c.part)
def checkP (c : CT) : Int :=
  if decide ((visit cc1 c 0 (0, false)).2.1 > 100) then 4
  else if (visit cc2 c 0 0).2 == 0 && (visit cc1 c 0 (0, false)).2.2 then 4 else (visit cc2 c 0 0).2
theorem getD_map_ct {l : List CT} {i : Nat} (h : i < l.length) : V.one (.eptr ((l.map CT.d).getD ((i : Int)).toNat [])) = V.one (.eptr [.int .i64 (l.getD i CT.z).k, .str (l.getD i CT.z).n, .str (l.getD i CT.z).v, .vec 4 (CT.ds (l.getD i CT.z).l)]) :=
  (row_at (f := CT.d) CT.z h).trans (by rw [ct_d])
theorem take_ct {l : List CT} {i : Nat} (h : i < l.length) : l.take (i + 1) = l.take i ++ [l.getD i CT.z] := by
  rw [List.take_succ_eq_append_getElem h, List.getD_eq_getElem?_getD, List.getElem?_eq_getElem h]; rfl
theorem mem_ct {l : List CT} {i : Nat} (h : i < l.length) : l.getD i CT.z ∈ l := by
  rw [List.getD_eq_getElem?_getD, List.getElem?_eq_getElem h]; exact List.getElem_mem h
inductive CtBig : CT → Prop where
  | mk (k : Int) (n v : List UInt8) (l : List CT) (h1 : n.length < 4294967000) (h2 : v.length < 4294967000) (h3 : ∀ a ∈ l, CtBig a) (h4 : l.length < 4294967000) : CtBig (.mk k n v l)
theorem CtBig.n {c : CT} (h : CtBig c) : c.n.length < 4294967000 := by cases h; assumption
theorem CtBig.v {c : CT} (h : CtBig c) : c.v.length < 4294967000 := by cases h; assumption
theorem CtBig.ll {c : CT} (h : CtBig c) : c.l.length < 4294967000 := by cases h; assumption
theorem CtBig.l {c : CT} (h : CtBig c) : ∀ a ∈ c.l, CtBig a := by cases h; assumption
theorem visit_go {S : Type} {f : CT → Int → S → Bool × S} {c : CT} {lv : Int} {s : S} (h : (f c lv s).1 = true) : visit f c lv s = visits (fun a => visit f a (up1 lv)) c.l (f c lv s).2 := by rw [visit_eq, h]; simp
theorem visit_stop {S : Type} {f : CT → Int → S → Bool × S} {c : CT} {lv : Int} {s s' : S} {i : Nat} (h : (f c lv s).1 = true) (hi : i < c.l.length) (hv : visits (fun a => visit f a (up1 lv)) (c.l.take i) (f c lv s).2 = (true, s')) (hc : (visit f (c.l.getD i CT.z) (up1 lv) s').1 = false) :
    visit f c lv s = (false, (visit f (c.l.getD i CT.z) (up1 lv) s').2) := by rw [visit_go h]; exact visits_stop hi hv hc
theorem visit_all {S : Type} {f : CT → Int → S → Bool × S} {c : CT} {lv : Int} {s s' : S} {i : Nat} (h : (f c lv s).1 = true) (hi : c.l.length ≤ i) (hv : visits (fun a => visit f a (up1 lv)) (c.l.take i) (f c lv s).2 = (true, s')) :
    visit f c lv s = (true, s') := by rw [visit_go h, ← hv, List.take_of_length_le hi]
theorem visit_next {S : Type} {f : CT → Int → S → Bool × S} {c : CT} {lv : Int} {s s' : S} {i : Nat} (hi : i < c.l.length) (hv : visits (fun a => visit f a (up1 lv)) (c.l.take i) s = (true, s')) (hc : (visit f (c.l.getD i CT.z) (up1 lv) s').1 = true) :
    visits (fun a => visit f a (up1 lv)) (c.l.take (i + 1)) s = (true, (visit f (c.l.getD i CT.z) (up1 lv) s').2) := by
  rw [take_ct hi, visits_snoc hv]; exact Prod.ext hc rfl
theorem check_0 : checkP (.mk 1 [] [] []) = 0 := by rfl
end Go.Proofs.YtjibdoagpegniaaGreatDoor

set_option linter.unusedVariables false
set_option linter.unusedSimpArgs false
set_option maxRecDepth 100000
set_option maxHeartbeats 4000000
namespace Go.Proofs.YtjibdoagpegniaaGreatDoor
open Go
open Go.RowKit
attribute [local irreducible] rangeB pathB nameB valueB visit visits
theorem part_eq {x : Int} {n v : List UInt8} {m : Int} {b : Bool} (c1 : (decide (x < 1) || decide (x > 8)) = false)
    (c2 : ((((!(decide (x ≥ 2) && decide (x ≤ 5)) && !(n == [])) || (!((decide (x ≥ 2) && decide (x ≤ 5)) && x != 4) && !(v == []))) || (!decide (x ≥ 6) && decide (m > 0))) || (x == 6 && m != 1)) = false)
    (c3 : (!(decide (x ≥ 2) && decide (x ≤ 5))) = false) (hb : (if (x == 3 || x == 4) = true then pathB n else nameB n) = b) : partP x n v m = if (!b) = true then 5 else if (!valueB v) = true then 2 else if (x == 5) = true then (rangeB v).2 else 0 := by
  unfold partP
  rw [if_neg (Bool.eq_false_iff.1 c1), if_neg (Bool.eq_false_iff.1 c2), if_neg (Bool.eq_false_iff.1 c3), hb]
theorem pc_ver_partFault (x : Int) (n v : List UInt8) (xs : List (List D)) (hn : n.length < 4294967000) (hv : v.length < 4294967000) :
  PureCall Tryz.prog J 51 [.agg [.d (.int .i64 x), .d (.str n), .d (.str v), .d (.vec 4 xs)]] (.one (.d (.int .i64 (partP x n v (xs.length : Int))))) := by
 refine PureCall.of_body tOk (fn := Tryz.f51) Tryz.func51 (by kernel_rfl) rfl (Nat.le_of_ble_eq_true rfl) (fun E => ?_)
 refine W.seq ?_
 refine W.region ?_
 refine S.box rfl rfl rfl rfl ?_
 refine S.pure tOk zOk rfl rfl rfl ?_
 refine thenK_n ?_
 refine W.seq ?_
 refine W.seq ?_
 refine W.region ?_
 refine S.pure tOk zOk rfl rfl rfl ?_
 refine S.pure tOk zOk rfl rfl rfl ?_
 refine S.pure tOk zOk rfl rfl rfl ?_
 refine S.pure tOk zOk rfl rfl rfl ?_
 refine S.pureG tOk zOk rfl rfl tg (fun _ => rfl) rfl ?_
 refine S.pureG tOk zOk rfl rfl tg (fun _ => rfl) rfl ?_
 refine S.pureG tOk zOk rfl rfl tg (fun _ => rfl) rfl ?_
 refine S.pickOr tOk zOk rfl rfl tg ?_
 refine thenK_n ?_
 refine W.cond rfl (fun c1 => ?_) (fun c1 => ?_)
 ·skip
  refine W.seq ?_
  refine W.region ?_
  refine S.pure tOk zOk rfl rfl rfl ?_
  refine thenK_n ?_
  refine W.ret ?_
  refine thenK_r ?_
  exact ⟨_, rfl, rfl, LeV.of_force rfl (congrArg (fun x : Int => V.one (C.d (D.int .i64 x))) ((if_pos c1) : partP x n v (xs.length : Int) = _)).symm⟩
 ·skip
  refine W.skip ?_
  refine thenK_n ?_
  refine W.seq ?_
  refine W.region ?_
  refine S.pure tOk zOk rfl rfl rfl ?_
  refine S.pure tOk zOk rfl rfl rfl ?_
  refine S.pure tOk zOk rfl rfl rfl ?_
  refine S.pure tOk zOk rfl rfl rfl ?_
  refine S.pureG tOk zOk rfl rfl tg (fun _ => rfl) rfl ?_
  refine S.pureG tOk zOk rfl rfl tg (fun _ => rfl) rfl ?_
  refine S.pureG tOk zOk rfl rfl tg (fun _ => rfl) rfl ?_
  refine S.pickAnd tOk zOk rfl rfl tg ?_
  refine S.pure tOk zOk rfl rfl rfl ?_
  refine thenK_n ?_
  refine W.seq ?_
  refine W.region ?_
  refine S.pure tOk zOk rfl rfl rfl ?_
  refine S.pure tOk zOk rfl rfl rfl ?_
  refine S.pureG tOk zOk rfl rfl tg (fun _ => rfl) rfl ?_
  refine S.pureG tOk zOk rfl rfl tg (fun _ => rfl) rfl ?_
  refine S.pureG tOk zOk rfl rfl tg (fun _ => rfl) rfl ?_
  refine S.pickAnd tOk zOk rfl rfl tg ?_
  refine S.pure tOk zOk rfl rfl rfl ?_
  refine thenK_n ?_
  refine W.seq ?_
  refine W.region ?_
  refine S.pure tOk zOk rfl rfl rfl ?_
  refine S.pure tOk zOk rfl rfl rfl ?_
  refine S.pure tOk zOk rfl rfl rfl ?_
  refine S.pure tOk zOk rfl rfl rfl ?_
  refine thenK_n ?_
  refine W.seq ?_
  refine W.seq ?_
  refine W.region ?_
  refine S.pure tOk zOk rfl rfl rfl ?_
  refine S.pure tOk zOk rfl rfl rfl ?_
  refine S.pure tOk zOk rfl rfl rfl ?_
  refine S.pureG tOk zOk rfl rfl tg (fun _ => rfl) rfl ?_
  refine S.pureG tOk zOk rfl rfl tg (fun _ => rfl) rfl ?_
  refine S.pureG tOk zOk rfl rfl tg (fun _ => rfl) rfl ?_
  refine S.pickAnd tOk zOk rfl rfl tg ?_
  refine S.pure tOk zOk rfl rfl rfl ?_
  refine S.pureG tOk zOk rfl rfl tg (fun _ => rfl) rfl ?_
  refine S.pureG tOk zOk rfl rfl tg (fun _ => rfl) rfl ?_
  refine S.pureG tOk zOk rfl rfl tg (fun _ => rfl) rfl ?_
  refine S.pureG tOk zOk rfl rfl tg (fun _ => rfl) rfl ?_
  refine S.pureG tOk zOk rfl rfl tg (fun _ => rfl) rfl ?_
  refine S.pureG tOk zOk rfl rfl tg (fun _ => rfl) rfl ?_
  refine S.pickAndG tOk zOk rfl rfl rfl tg tg ?_
  refine S.pickOr tOk zOk rfl rfl tg ?_
  refine S.pure tOk zOk rfl rfl rfl ?_
  refine S.pureG tOk zOk rfl rfl tg (fun _ => rfl) rfl ?_
  refine S.pureG tOk zOk rfl rfl tg (fun _ => rfl) rfl ?_
  refine S.pureG tOk zOk rfl rfl tg (fun _ => rfl) rfl ?_
  refine S.pureG tOk zOk rfl rfl tg (fun _ => rfl) rfl ?_
  refine S.pureG tOk zOk rfl rfl tg (fun _ => rfl) rfl ?_
  refine S.pureG tOk zOk rfl rfl tg (fun _ => rfl) rfl ?_
  refine S.pureG tOk zOk rfl rfl tg (fun _ => rfl) rfl ?_
  refine S.pickAndG tOk zOk rfl rfl rfl tg tg ?_
  refine S.pickOr tOk zOk rfl rfl tg ?_
  refine S.pure tOk zOk rfl rfl rfl ?_
  refine S.pureG tOk zOk rfl rfl tg (fun _ => rfl) rfl ?_
  refine S.pureG tOk zOk rfl rfl tg (fun _ => rfl) rfl ?_
  refine S.pureG tOk zOk rfl rfl tg (fun _ => rfl) rfl ?_
  refine S.pureG tOk zOk rfl rfl tg (fun _ => rfl) rfl ?_
  refine S.pureG tOk zOk rfl rfl tg (fun _ => rfl) rfl ?_
  refine S.pureG tOk zOk rfl rfl tg (fun _ => rfl) rfl ?_
  refine S.pureG tOk zOk rfl rfl tg (fun _ => rfl) rfl ?_
  refine S.pureG tOk zOk rfl rfl tg (fun _ => rfl) rfl ?_
  refine S.pickAndG tOk zOk rfl rfl rfl tg tg ?_
  refine S.pickOr tOk zOk rfl rfl tg ?_
  refine thenK_n ?_
  refine W.cond rfl (fun c2 => ?_) (fun c2 => ?_)
  ·skip
   refine W.seq ?_
   refine W.region ?_
   refine S.pure tOk zOk rfl rfl rfl ?_
   refine thenK_n ?_
   refine W.ret ?_
   refine thenK_r ?_
   exact ⟨_, rfl, rfl, LeV.of_force rfl (congrArg (fun x : Int => V.one (C.d (D.int .i64 x))) (((if_neg (Bool.eq_false_iff.1 c1)).trans (if_pos c2)) : partP x n v (xs.length : Int) = _)).symm⟩
  ·skip
   refine W.skip ?_
   refine thenK_n ?_
   refine W.seq ?_
   refine W.seq ?_
   refine W.region ?_
   refine S.pure tOk zOk rfl rfl rfl ?_
   refine S.pure tOk zOk rfl rfl rfl ?_
   refine thenK_n ?_
   refine W.cond rfl (fun c3 => ?_) (fun c3 => ?_)
   ·skip
    refine W.seq ?_
    refine W.region ?_
    refine S.pure tOk zOk rfl rfl rfl ?_
    refine thenK_n ?_
    refine W.ret ?_
    refine thenK_r ?_
    exact ⟨_, rfl, rfl, LeV.of_force rfl (congrArg (fun x : Int => V.one (C.d (D.int .i64 x))) (((if_neg (Bool.eq_false_iff.1 c1)).trans ((if_neg (Bool.eq_false_iff.1 c2)).trans (if_pos c3))) : partP x n v (xs.length : Int) = _)).symm⟩
   ·skip
    refine W.skip ?_
    refine thenK_n ?_
    refine W.seq ?_
    refine W.region ?_
    refine S.pure tOk zOk rfl rfl rfl ?_
    refine thenK_n ?_
    refine W.seq ?_
    refine W.seq ?_
    refine W.region ?_
    refine S.pure tOk zOk rfl rfl rfl ?_
    refine S.pure tOk zOk rfl rfl rfl ?_
    refine S.pure tOk zOk rfl rfl rfl ?_
    refine S.pure tOk zOk rfl rfl rfl ?_
    refine S.pureG tOk zOk rfl rfl tg (fun _ => rfl) rfl ?_
    refine S.pureG tOk zOk rfl rfl tg (fun _ => rfl) rfl ?_
    refine S.pureG tOk zOk rfl rfl tg (fun _ => rfl) rfl ?_
    refine S.pickOr tOk zOk rfl rfl tg ?_
    refine thenK_n ?_
    refine W.cond rfl (fun c4 => ?_) (fun c4 => ?_)
    ·skip
     refine W.region ?_
     refine S.pure tOk zOk rfl rfl rfl ?_
     refine thenK_n ?_
     refine W.seq ?_
     refine W.seq ?_
     refine W.region ?_
     refine S.pure tOk zOk rfl rfl rfl ?_
     refine S.pure tOk zOk rfl rfl rfl ?_
     refine S.pure tOk zOk rfl rfl rfl ?_
     refine S.call rfl rfl rfl rfl rfl (pc_ver_IsPath n (by omega)) ?_
     refine S.pure tOk zOk rfl rfl rfl ?_
     refine thenK_n ?_
     refine W.cond rfl (fun c5 => ?_) (fun c5 => ?_)
     ·skip
      refine W.seq ?_
      refine W.region ?_
      refine S.pure tOk zOk rfl rfl rfl ?_
      refine thenK_n ?_
      refine W.ret ?_
      refine thenK_r ?_
      exact ⟨_, rfl, rfl, LeV.of_force rfl (by rw [part_eq c1 c2 c3 (if_pos c4), if_pos c5] <;> rfl)⟩
     ·skip
      refine W.skip ?_
      refine thenK_n ?_
      refine W.seq ?_
      refine W.seq ?_
      refine W.region ?_
      refine S.pure tOk zOk rfl rfl rfl ?_
      refine S.pure tOk zOk rfl rfl rfl ?_
      refine S.call rfl rfl rfl rfl rfl (pc_ver_IsValue v (by omega)) ?_
      refine S.pure tOk zOk rfl rfl rfl ?_
      refine thenK_n ?_
      refine W.cond rfl (fun c6 => ?_) (fun c6 => ?_)
      ·skip
       refine W.seq ?_
       refine W.region ?_
       refine S.pure tOk zOk rfl rfl rfl ?_
       refine thenK_n ?_
       refine W.ret ?_
       refine thenK_r ?_
       exact ⟨_, rfl, rfl, LeV.of_force rfl (by rw [part_eq c1 c2 c3 (if_pos c4), if_neg (Bool.eq_false_iff.1 c5), if_pos c6] <;> rfl)⟩
      ·skip
       refine W.skip ?_
       refine thenK_n ?_
       refine W.seq ?_
       refine W.seq ?_
       refine W.region ?_
       refine S.pure tOk zOk rfl rfl rfl ?_
       refine S.pure tOk zOk rfl rfl rfl ?_
       refine S.pure tOk zOk rfl rfl rfl ?_
       refine thenK_n ?_
       refine W.cond rfl (fun c7 => ?_) (fun c7 => ?_)
       ·skip
        refine W.seq ?_
        refine W.region ?_
        refine S.pure tOk zOk rfl rfl rfl ?_
        refine S.pure tOk zOk rfl rfl rfl ?_
        refine S.call rfl rfl rfl rfl rfl (pc_ver_ParseRange v hv) ?_
        refine S.pure tOk zOk rfl rfl rfl ?_
        refine S.pure tOk zOk rfl rfl rfl ?_
        refine S.pure tOk zOk rfl rfl rfl ?_
        refine S.alloc tOk rfl rfl rfl rfl ?_
        refine S.store tOk rfl rfl rfl rfl rfl rfl rfl rfl ?_
        refine S.pure tOk zOk rfl rfl rfl ?_
        refine thenK_n ?_
        refine W.seq ?_
        refine W.region ?_
        refine S.pure tOk zOk rfl rfl rfl ?_
        refine S.pure tOk zOk rfl rfl rfl ?_
        refine thenK_n ?_
        refine W.ret ?_
        refine thenK_r ?_
        exact ⟨_, rfl, rfl, LeV.of_force rfl (by rw [part_eq c1 c2 c3 (if_pos c4), if_neg (Bool.eq_false_iff.1 c5), if_neg (Bool.eq_false_iff.1 c6), if_pos c7] <;> rfl)⟩
       ·skip
        refine W.skip ?_
        refine thenK_n ?_
        refine W.seq ?_
        refine W.region ?_
        refine S.pure tOk zOk rfl rfl rfl ?_
        refine thenK_n ?_
        refine W.ret ?_
        exact ⟨_, rfl, rfl, LeV.of_force rfl (by rw [part_eq c1 c2 c3 (if_pos c4), if_neg (Bool.eq_false_iff.1 c5), if_neg (Bool.eq_false_iff.1 c6), if_neg (Bool.eq_false_iff.1 c7)] <;> rfl)⟩
    ·skip
     refine W.skip ?_
     refine thenK_n ?_
     refine W.seq ?_
     refine W.seq ?_
     refine W.region ?_
     refine S.pure tOk zOk rfl rfl rfl ?_
     refine S.pure tOk zOk rfl rfl rfl ?_
     refine S.pure tOk zOk rfl rfl rfl ?_
     refine S.call rfl rfl rfl rfl rfl (pc_ver_IsName n (by omega)) ?_
     refine S.pure tOk zOk rfl rfl rfl ?_
     refine thenK_n ?_
     refine W.cond rfl (fun c8 => ?_) (fun c8 => ?_)
     ·skip
      refine W.seq ?_
      refine W.region ?_
      refine S.pure tOk zOk rfl rfl rfl ?_
      refine thenK_n ?_
      refine W.ret ?_
      refine thenK_r ?_
      exact ⟨_, rfl, rfl, LeV.of_force rfl (by rw [part_eq c1 c2 c3 (if_neg (Bool.eq_false_iff.1 c4)), if_pos c8] <;> rfl)⟩
     ·skip
      refine W.skip ?_
      refine thenK_n ?_
      refine W.seq ?_
      refine W.seq ?_
      refine W.region ?_
      refine S.pure tOk zOk rfl rfl rfl ?_
      refine S.pure tOk zOk rfl rfl rfl ?_
      refine S.call rfl rfl rfl rfl rfl (pc_ver_IsValue v (by omega)) ?_
      refine S.pure tOk zOk rfl rfl rfl ?_
      refine thenK_n ?_
      refine W.cond rfl (fun c9 => ?_) (fun c9 => ?_)
      ·skip
       refine W.seq ?_
       refine W.region ?_
       refine S.pure tOk zOk rfl rfl rfl ?_
       refine thenK_n ?_
       refine W.ret ?_
       refine thenK_r ?_
       exact ⟨_, rfl, rfl, LeV.of_force rfl (by rw [part_eq c1 c2 c3 (if_neg (Bool.eq_false_iff.1 c4)), if_neg (Bool.eq_false_iff.1 c8), if_pos c9] <;> rfl)⟩
      ·skip
       refine W.skip ?_
       refine thenK_n ?_
       refine W.seq ?_
       refine W.seq ?_
       refine W.region ?_
       refine S.pure tOk zOk rfl rfl rfl ?_
       refine S.pure tOk zOk rfl rfl rfl ?_
       refine S.pure tOk zOk rfl rfl rfl ?_
       refine thenK_n ?_
       refine W.cond rfl (fun c10 => ?_) (fun c10 => ?_)
       ·skip
        refine W.seq ?_
        refine W.region ?_
        refine S.pure tOk zOk rfl rfl rfl ?_
        refine S.pure tOk zOk rfl rfl rfl ?_
        refine S.call rfl rfl rfl rfl rfl (pc_ver_ParseRange v hv) ?_
        refine S.pure tOk zOk rfl rfl rfl ?_
        refine S.pure tOk zOk rfl rfl rfl ?_
        refine S.pure tOk zOk rfl rfl rfl ?_
        refine S.alloc tOk rfl rfl rfl rfl ?_
        refine S.store tOk rfl rfl rfl rfl rfl rfl rfl rfl ?_
        refine S.pure tOk zOk rfl rfl rfl ?_
        refine thenK_n ?_
        refine W.seq ?_
        refine W.region ?_
        refine S.pure tOk zOk rfl rfl rfl ?_
        refine S.pure tOk zOk rfl rfl rfl ?_
        refine thenK_n ?_
        refine W.ret ?_
        refine thenK_r ?_
        exact ⟨_, rfl, rfl, LeV.of_force rfl (by rw [part_eq c1 c2 c3 (if_neg (Bool.eq_false_iff.1 c4)), if_neg (Bool.eq_false_iff.1 c8), if_neg (Bool.eq_false_iff.1 c9), if_pos c10] <;> rfl)⟩
       ·skip
        refine W.skip ?_
        refine thenK_n ?_
        refine W.seq ?_
        refine W.region ?_
        refine S.pure tOk zOk rfl rfl rfl ?_
        refine thenK_n ?_
        refine W.ret ?_
        exact ⟨_, rfl, rfl, LeV.of_force rfl (by rw [part_eq c1 c2 c3 (if_neg (Bool.eq_false_iff.1 c4)), if_neg (Bool.eq_false_iff.1 c8), if_neg (Bool.eq_false_iff.1 c9), if_neg (Bool.eq_false_iff.1 c10)] <;> rfl)⟩
theorem pc_cc1 (x : Int) (n v : List UInt8) (xs : List (List D)) (lv p : Int) (d : Bool) :
  HCall Tryz.prog J 49 ([.agg [.d (.int .i64 x), .d (.str n), .d (.str v), .d (.vec 4 xs)], .one (.d (.int .i64 lv)), .one (.ptr 0 0), .one (.ptr 1 0)]) ([[.d (.int .i64 p)], [.d (.bool d)]]) ([]) ([]) (isH (.one (.d (.bool (decide (up1 p ≤ 100))))) ([[.d (.int .i64 (up1 p))], [.d (.bool (d || decide (lv > 20)))]]) ([]) ([])) := by
 refine HCall.ofD tOk ⟨2, 0, 0⟩ (fn := Tryz.f49) Tryz.func49 (by kernel_rfl) rfl (Nat.le_of_ble_eq_true rfl) (fun E => ?_)
 refine W.seq ?_
 refine W.region ?_
 refine S.box rfl rfl rfl rfl ?_
 refine S.pure tOk zOk rfl rfl rfl ?_
 refine thenK_n ?_
 refine W.seq ?_
 refine W.region ?_
 refine S.pure tOk zOk rfl rfl rfl ?_
 refine S.pure tOk zOk rfl rfl rfl ?_
 refine S.store tOk rfl rfl rfl rfl rfl rfl rfl rfl ?_
 refine thenK_n ?_
 refine W.seq ?_
 refine W.region ?_
 refine S.pure tOk zOk rfl rfl rfl ?_
 refine S.pure tOk zOk rfl rfl rfl ?_
 refine S.pureG tOk zOk rfl rfl tg (fun _ => rfl) rfl ?_
 refine S.pureG tOk zOk rfl rfl tg (fun _ => rfl) rfl ?_
 refine S.pickOr tOk zOk rfl rfl tg ?_
 refine S.store tOk rfl rfl rfl rfl rfl rfl rfl rfl ?_
 refine thenK_n ?_
 refine W.seq ?_
 refine W.region ?_
 refine S.pure tOk zOk rfl rfl rfl ?_
 refine S.pure tOk zOk rfl rfl rfl ?_
 refine S.pure tOk zOk rfl rfl rfl ?_
 refine thenK_n ?_
 refine W.ret ?_
 exact ⟨_, rfl, rfl, LeG.refl _, rfl, rfl, rfl⟩
theorem pc_cc2 (x : Int) (n v : List UInt8) (xs : List (List D)) (hn : n.length < 4294967000) (hv : v.length < 4294967000) (lv e : Int) :
  HCall Tryz.prog J 50 ([.agg [.d (.int .i64 x), .d (.str n), .d (.str v), .d (.vec 4 xs)], .one (.d (.int .i64 lv)), .one (.ptr 0 0)]) ([[.d (.int .i64 e)]]) ([]) ([]) (isH (.one (.d (.bool (partP x n v (xs.length : Int) == 0)))) ([[.d (.int .i64 (partP x n v (xs.length : Int)))]]) ([]) ([])) := by
 refine HCall.ofD tOk ⟨1, 0, 0⟩ (fn := Tryz.f50) Tryz.func50 (by kernel_rfl) rfl (Nat.le_of_ble_eq_true rfl) (fun E => ?_)
 refine W.seq ?_
 refine W.region ?_
 refine S.box rfl rfl rfl rfl ?_
 refine S.pure tOk zOk rfl rfl rfl ?_
 refine thenK_n ?_
 refine W.seq ?_
 refine W.region ?_
 refine S.pure tOk zOk rfl rfl rfl ?_
 refine S.call rfl rfl rfl rfl rfl (pc_ver_partFault x n v xs hn hv) ?_
 refine S.store tOk rfl rfl rfl rfl rfl rfl rfl rfl ?_
 refine thenK_n ?_
 refine W.seq ?_
 refine W.region ?_
 refine S.pure tOk zOk rfl rfl rfl ?_
 refine S.pure tOk zOk rfl rfl rfl ?_
 refine S.pure tOk zOk rfl rfl rfl ?_
 refine thenK_n ?_
 refine W.ret ?_
 exact ⟨_, rfl, rfl, LeG.refl _, rfl, rfl, rfl⟩
theorem pc_walk1s (c : CT) (lv : Int) (p : Int) (d : Bool) (hc : CtBig c) (ih : ∀ a ∈ c.l, ∀ (lv  : Int) (p : Int) (d : Bool), CtBig a → HCall Tryz.prog J 48 [ctV a, .one (.d (.int .i64 lv)), .one (.clo 49 [.ptr 0 0, .ptr 1 0])] [[.d (.int .i64 p)], [.d (.bool d)]] [] [] (isH (.one (.d (.bool (visit cc1 a lv (p, d)).1))) [[.d (.int .i64 (visit cc1 a lv (p, d)).2.1)], [.d (.bool (visit cc1 a lv (p, d)).2.2)]] [] [])) :
  HCall Tryz.prog J 48 ([ctV c, .one (.d (.int .i64 lv)), .one (.clo 49 [.ptr 0 0, .ptr 1 0])]) ([[.d (.int .i64 p)], [.d (.bool d)]]) ([]) ([]) (isH (.one (.d (.bool (visit cc1 c lv (p, d)).1))) ([[.d (.int .i64 (visit cc1 c lv (p, d)).2.1)], [.d (.bool (visit cc1 c lv (p, d)).2.2)]]) ([]) ([])) := by
 unfold ctV
 rw [ds_map]
 have hlen : ((c.l.map CT.d).length : Int) = (c.l.length : Int) := by rw [List.length_map]
 refine HCall.ofD tOk ⟨2, 0, 0⟩ (fn := Tryz.f48) Tryz.func48 (by kernel_rfl) rfl (Nat.le_of_ble_eq_true rfl) (fun E => ?_)
 refine W.seq ?_
 refine W.region ?_
 refine S.box rfl rfl rfl rfl ?_
 refine S.pure tOk zOk rfl rfl rfl ?_
 refine thenK_n ?_
 refine W.seq ?_
 refine W.seq ?_
 refine W.region ?_
 refine S.pure tOk zOk rfl rfl rfl ?_
 refine S.pure tOk zOk rfl rfl rfl ?_
 refine S.pure tOk zOk rfl rfl rfl ?_
 refine S.hcallD rfl rfl rfl rfl ((pc_cc1 c.k c.n c.v _ lv p d).frameD [0, 1] [] [] rfl rfl rfl rfl rfl rfl rfl rfl rfl) ?_
 refine S.pure tOk zOk rfl rfl rfl ?_
 refine thenK_n ?_
 refine W.cond rfl (fun c1 => ?_) (fun c1 => ?_)
 ·skip
  have hf : (cc1 c lv (p, d)).1 = false := by simpa [cc1, CT.part, hlen] using c1
  have hv := visit_no hf
  refine W.seq ?_
  refine W.region ?_
  refine S.pure tOk zOk rfl rfl rfl ?_
  refine thenK_n ?_
  refine W.ret ?_
  refine thenK_r ?_
  exact ⟨_, rfl, rfl, (by rw [hv]; exact LeG.refl _), (by rw [hv]; rfl), rfl, rfl⟩
 ·skip
  have hf : (cc1 c lv (p, d)).1 = true := by simpa [cc1, CT.part, hlen] using c1
  have hbig := hc.ll
  refine W.skip ?_
  refine thenK_n ?_
  refine W.seq ?_
  refine W.seq ?_
  refine W.region ?_
  refine S.pure tOk zOk rfl rfl rfl ?_
  refine S.pure tOk zOk rfl rfl rfl ?_
  refine S.pure tOk zOk rfl rfl rfl ?_
  refine S.pure tOk zOk rfl rfl rfl ?_
  refine thenK_n ?_
  refine W.block ?_
  refine W.loop (fun k st => ∃ i : Nat, ∃ p1 : Int, ∃ d1 : Bool, i ≤ c.l.length ∧ visits (fun a => visit cc1 a (up1 lv)) (c.l.take i) (cc1 c lv (p, d)).2 = (true, (p1, d1)) ∧ k = c.l.length - i ∧ ∃ t b2 r2 m2, st = ⟨t, [[.d (.int .i64 p1)], [.d (.bool d1)], [.d (.int .i64 c.k), .d (.str c.n), .d (.str c.v), .d (.vec 4 (c.l.map CT.d))]] ++ b2, [] ++ r2, [] ++ m2⟩ ∧ holdsL t [(1, .one (.d (.int .i64 lv))), (2, .one (.clo 49 [.ptr 0 0, .ptr 1 0])), (15, .one (.d (.vec 4 (c.l.map CT.d)))), (16, .one (.d (.int .i64 ((c.l.map CT.d).length : Int)))), (17, .one (.d (.int .i64 (i : Int))))]) (c.l.length) ⟨0, _, _, Nat.zero_le _, visits_nil, rfl, _, _, _, _, rfl, rfl, rfl, rfl, rfl, rfl, trivial⟩ ?_
  rintro k0 _ ⟨i, p1, d1, f0_0, f0_1, rfl, t0, bb0, rr0, mm0, rfl, hh0⟩
  refine W.keepR _ _ _ _ _ _ _ hh0 rfl ?_
  refine W.seq ?_
  refine W.region ?_
  refine S.pure tOk zOk rfl rfl rfl ?_
  refine thenK_n ?_
  refine W.seq ?_
  refine W.cond rfl (fun c2 => ?_) (fun c2 => ?_)
  ·skip
   have hi := row_lt c2
   refine W.skip ?_
   refine thenK_n ?_
   refine W.seq ?_
   refine W.block ?_
   refine W.seq ?_
   refine W.region ?_
   refine S.pureE tOk zOk rfl (row_ok hi) (getD_map_ct hi) rfl ?_
   refine S.pure tOk zOk rfl rfl rfl ?_
   refine S.alloc tOk rfl rfl rfl rfl ?_
   refine S.store tOk rfl rfl rfl rfl rfl rfl rfl rfl ?_
   refine thenK_n ?_
   refine W.seq ?_
   refine W.region ?_
   refine S.pure tOk zOk rfl rfl rfl ?_
   refine S.pure tOk zOk rfl rfl rfl ?_
   refine S.pure tOk zOk rfl rfl rfl ?_
   refine S.pure tOk zOk rfl rfl rfl ?_
   refine S.hcallD rfl rfl rfl rfl ((ih (c.l.getD i CT.z) (mem_ct hi) (up1 lv) p1 d1 (hc.l _ (mem_ct hi))).frameD [0, 1] [] [] rfl rfl rfl rfl rfl rfl rfl rfl rfl) ?_
   refine S.pure tOk zOk rfl rfl rfl ?_
   refine thenK_n ?_
   refine W.cond rfl (fun c3 => ?_) (fun c3 => ?_)
   ·skip
    have hv := visit_stop hf hi f0_1 (by simpa using c3)
    refine W.seq ?_
    refine W.region ?_
    refine S.pure tOk zOk rfl rfl rfl ?_
    refine thenK_n ?_
    refine W.ret ?_
    refine blockK_r ?_
    refine thenK_r ?_
    refine thenK_r ?_
    refine blockK_r ?_
    refine thenK_r ?_
    exact ⟨_, rfl, rfl, (by rw [hv]; exact LeG.refl _), (by rw [hv]; rfl), rfl, rfl⟩
   ·skip
    refine W.skip ?_
    refine blockK_n ?_
    refine thenK_n ?_
    refine W.region ?_
    refine S.pure tOk zOk rfl rfl rfl ?_
    refine S.pure tOk zOk rfl rfl rfl ?_
    refine loop_n (c.l.length - (i + 1)) (by omega) ⟨i + 1, _, _, hi, visit_next hi f0_1 (by simpa using c3), rfl, _, _, _, _, rfl, rfl, rfl, rfl, rfl, inc_i64 (by omega), trivial⟩
  ·skip
   have hi := row_ge c2
   have hv := visit_all hf hi f0_1
   refine W.exit ?_
   refine thenK_e ?_
   refine thenK_e ?_
   refine blockK_x ?_
   refine thenK_n ?_
   refine W.seq ?_
   refine W.region ?_
   refine S.pure tOk zOk rfl rfl rfl ?_
   refine thenK_n ?_
   refine W.ret ?_
   exact ⟨_, rfl, rfl, (by rw [hv]; exact LeG.refl _), (by rw [hv]; rfl), rfl, rfl⟩
theorem pc_walk1 : ∀ (n : Nat) (c : CT), c.w ≤ n → ∀ (lv : Int) (p : Int) (d : Bool), CtBig c → HCall Tryz.prog J 48 [ctV c, .one (.d (.int .i64 lv)), .one (.clo 49 [.ptr 0 0, .ptr 1 0])] [[.d (.int .i64 p)], [.d (.bool d)]] [] [] (isH (.one (.d (.bool (visit cc1 c lv (p, d)).1))) [[.d (.int .i64 (visit cc1 c lv (p, d)).2.1)], [.d (.bool (visit cc1 c lv (p, d)).2.2)]] [] [])
  | 0, c, h => by have := c.pos; omega
  | n + 1, c, h => fun lv p d hc => pc_walk1s c lv p d hc (fun a ha => pc_walk1 n a (by have := CT.sz ha; omega))
theorem pc_walk2s (c : CT) (lv : Int) (e : Int) (hc : CtBig c) (ih : ∀ a ∈ c.l, ∀ (lv  : Int) (e : Int), CtBig a → HCall Tryz.prog J 48 [ctV a, .one (.d (.int .i64 lv)), .one (.clo 50 [.ptr 0 0])] [[.d (.int .i64 e)]] [] [] (isH (.one (.d (.bool (visit cc2 a lv e).1))) [[.d (.int .i64 (visit cc2 a lv e).2)]] [] [])) :
  HCall Tryz.prog J 48 ([ctV c, .one (.d (.int .i64 lv)), .one (.clo 50 [.ptr 0 0])]) ([[.d (.int .i64 e)]]) ([]) ([]) (isH (.one (.d (.bool (visit cc2 c lv e).1))) ([[.d (.int .i64 (visit cc2 c lv e).2)]]) ([]) ([])) := by
 unfold ctV
 rw [ds_map]
 have hlen : ((c.l.map CT.d).length : Int) = (c.l.length : Int) := by rw [List.length_map]
 have hcl2 := pc_cc2 c.k c.n c.v (c.l.map CT.d) hc.n hc.v lv e
 rw [hlen] at hcl2
 refine HCall.ofD tOk ⟨1, 0, 0⟩ (fn := Tryz.f48) Tryz.func48 (by kernel_rfl) rfl (Nat.le_of_ble_eq_true rfl) (fun E => ?_)
 refine W.seq ?_
 refine W.region ?_
 refine S.box rfl rfl rfl rfl ?_
 refine S.pure tOk zOk rfl rfl rfl ?_
 refine thenK_n ?_
 refine W.seq ?_
 refine W.seq ?_
 refine W.region ?_
 refine S.pure tOk zOk rfl rfl rfl ?_
 refine S.pure tOk zOk rfl rfl rfl ?_
 refine S.pure tOk zOk rfl rfl rfl ?_
 refine S.hcallD rfl rfl rfl rfl (hcl2.frameD [0] [] [] rfl rfl rfl rfl rfl rfl rfl rfl rfl) ?_
 refine S.pure tOk zOk rfl rfl rfl ?_
 refine thenK_n ?_
 refine W.cond rfl (fun c1 => ?_) (fun c1 => ?_)
 ·skip
  have hf : (cc2 c lv e).1 = false := by simpa [cc2, CT.part, hlen] using c1
  have hv := visit_no hf
  refine W.seq ?_
  refine W.region ?_
  refine S.pure tOk zOk rfl rfl rfl ?_
  refine thenK_n ?_
  refine W.ret ?_
  refine thenK_r ?_
  exact ⟨_, rfl, rfl, (by rw [hv]; exact LeG.refl _), (by rw [hv]; rfl), rfl, rfl⟩
 ·skip
  have hf : (cc2 c lv e).1 = true := by simpa [cc2, CT.part, hlen] using c1
  have hbig := hc.ll
  refine W.skip ?_
  refine thenK_n ?_
  refine W.seq ?_
  refine W.seq ?_
  refine W.region ?_
  refine S.pure tOk zOk rfl rfl rfl ?_
  refine S.pure tOk zOk rfl rfl rfl ?_
  refine S.pure tOk zOk rfl rfl rfl ?_
  refine S.pure tOk zOk rfl rfl rfl ?_
  refine thenK_n ?_
  refine W.block ?_
  refine W.loop (fun k st => ∃ i : Nat, ∃ e1 : Int, i ≤ c.l.length ∧ visits (fun a => visit cc2 a (up1 lv)) (c.l.take i) (cc2 c lv e).2 = (true, e1) ∧ k = c.l.length - i ∧ ∃ t b2 r2 m2, st = ⟨t, [[.d (.int .i64 e1)], [.d (.int .i64 c.k), .d (.str c.n), .d (.str c.v), .d (.vec 4 (c.l.map CT.d))]] ++ b2, [] ++ r2, [] ++ m2⟩ ∧ holdsL t [(1, .one (.d (.int .i64 lv))), (2, .one (.clo 50 [.ptr 0 0])), (15, .one (.d (.vec 4 (c.l.map CT.d)))), (16, .one (.d (.int .i64 ((c.l.map CT.d).length : Int)))), (17, .one (.d (.int .i64 (i : Int))))]) (c.l.length) ⟨0, _, Nat.zero_le _, visits_nil, rfl, _, _, _, _, rfl, rfl, rfl, rfl, rfl, rfl, trivial⟩ ?_
  rintro k0 _ ⟨i, e1, f0_0, f0_1, rfl, t0, bb0, rr0, mm0, rfl, hh0⟩
  refine W.keepR _ _ _ _ _ _ _ hh0 rfl ?_
  refine W.seq ?_
  refine W.region ?_
  refine S.pure tOk zOk rfl rfl rfl ?_
  refine thenK_n ?_
  refine W.seq ?_
  refine W.cond rfl (fun c2 => ?_) (fun c2 => ?_)
  ·skip
   have hi := row_lt c2
   refine W.skip ?_
   refine thenK_n ?_
   refine W.seq ?_
   refine W.block ?_
   refine W.seq ?_
   refine W.region ?_
   refine S.pureE tOk zOk rfl (row_ok hi) (getD_map_ct hi) rfl ?_
   refine S.pure tOk zOk rfl rfl rfl ?_
   refine S.alloc tOk rfl rfl rfl rfl ?_
   refine S.store tOk rfl rfl rfl rfl rfl rfl rfl rfl ?_
   refine thenK_n ?_
   refine W.seq ?_
   refine W.region ?_
   refine S.pure tOk zOk rfl rfl rfl ?_
   refine S.pure tOk zOk rfl rfl rfl ?_
   refine S.pure tOk zOk rfl rfl rfl ?_
   refine S.pure tOk zOk rfl rfl rfl ?_
   refine S.hcallD rfl rfl rfl rfl ((ih (c.l.getD i CT.z) (mem_ct hi) (up1 lv) e1 (hc.l _ (mem_ct hi))).frameD [0] [] [] rfl rfl rfl rfl rfl rfl rfl rfl rfl) ?_
   refine S.pure tOk zOk rfl rfl rfl ?_
   refine thenK_n ?_
   refine W.cond rfl (fun c3 => ?_) (fun c3 => ?_)
   ·skip
    have hv := visit_stop hf hi f0_1 (by simpa using c3)
    refine W.seq ?_
    refine W.region ?_
    refine S.pure tOk zOk rfl rfl rfl ?_
    refine thenK_n ?_
    refine W.ret ?_
    refine blockK_r ?_
    refine thenK_r ?_
    refine thenK_r ?_
    refine blockK_r ?_
    refine thenK_r ?_
    exact ⟨_, rfl, rfl, (by rw [hv]; exact LeG.refl _), (by rw [hv]; rfl), rfl, rfl⟩
   ·skip
    refine W.skip ?_
    refine blockK_n ?_
    refine thenK_n ?_
    refine W.region ?_
    refine S.pure tOk zOk rfl rfl rfl ?_
    refine S.pure tOk zOk rfl rfl rfl ?_
    refine loop_n (c.l.length - (i + 1)) (by omega) ⟨i + 1, _, hi, visit_next hi f0_1 (by simpa using c3), rfl, _, _, _, _, rfl, rfl, rfl, rfl, rfl, inc_i64 (by omega), trivial⟩
  ·skip
   have hi := row_ge c2
   have hv := visit_all hf hi f0_1
   refine W.exit ?_
   refine thenK_e ?_
   refine thenK_e ?_
   refine blockK_x ?_
   refine thenK_n ?_
   refine W.seq ?_
   refine W.region ?_
   refine S.pure tOk zOk rfl rfl rfl ?_
   refine thenK_n ?_
   refine W.ret ?_
   exact ⟨_, rfl, rfl, (by rw [hv]; exact LeG.refl _), (by rw [hv]; rfl), rfl, rfl⟩
theorem pc_walk2 : ∀ (n : Nat) (c : CT), c.w ≤ n → ∀ (lv : Int) (e : Int), CtBig c → HCall Tryz.prog J 48 [ctV c, .one (.d (.int .i64 lv)), .one (.clo 50 [.ptr 0 0])] [[.d (.int .i64 e)]] [] [] (isH (.one (.d (.bool (visit cc2 c lv e).1))) [[.d (.int .i64 (visit cc2 c lv e).2)]] [] [])
  | 0, c, h => by have := c.pos; omega
  | n + 1, c, h => fun lv e hc => pc_walk2s c lv e hc (fun a ha => pc_walk2 n a (by have := CT.sz ha; omega))
theorem pc_ver_CheckCond (c : CT) (hc : CtBig c) :
  PureCall Tryz.prog J 17 [ctV c] (.one (.d (.int .i64 (checkP c)))) := by
 refine PureCall.of_body tOk (fn := Tryz.f17) Tryz.func17 (by kernel_rfl) rfl (Nat.le_of_ble_eq_true rfl) (fun E => ?_)
 refine W.seq ?_
 refine W.region ?_
 refine S.box rfl rfl rfl rfl ?_
 refine S.pure tOk zOk rfl rfl rfl ?_
 refine thenK_n ?_
 refine W.seq ?_
 refine W.region ?_
 refine S.alloc tOk rfl rfl rfl rfl ?_
 refine S.alloc tOk rfl rfl rfl rfl ?_
 refine S.store tOk rfl rfl rfl rfl rfl rfl rfl rfl ?_
 refine S.store tOk rfl rfl rfl rfl rfl rfl rfl rfl ?_
 refine thenK_n ?_
 refine W.seq ?_
 refine W.region ?_
 refine S.pure tOk zOk rfl rfl rfl ?_
 refine S.makeFunc rfl rfl rfl ?_
 refine S.hcallD rfl rfl rfl rfl ((pc_walk1 c.w c (Nat.le_refl _) 0 0 false hc).frameD [1, 2] [] [] rfl rfl rfl rfl rfl rfl rfl rfl rfl) ?_
 refine thenK_n ?_
 refine W.seq ?_
 refine W.seq ?_
 refine W.region ?_
 refine S.pure tOk zOk rfl rfl rfl ?_
 refine S.pure tOk zOk rfl rfl rfl ?_
 refine thenK_n ?_
 refine W.cond rfl (fun c1 => ?_) (fun c1 => ?_)
 ·skip
  refine W.seq ?_
  refine W.region ?_
  refine S.pure tOk zOk rfl rfl rfl ?_
  refine thenK_n ?_
  refine W.ret ?_
  refine thenK_r ?_
  exact ⟨_, rfl, rfl, LeV.of_force rfl (by (try simp only [List.toList_toArray, Int.toNat_zero] at c1); simp only [checkP, c1, Bool.false_eq_true, if_false, if_true, reduceIte] <;> rfl)⟩
 ·skip
  refine W.skip ?_
  refine thenK_n ?_
  refine W.seq ?_
  refine W.region ?_
  refine S.alloc tOk rfl rfl rfl rfl ?_
  refine S.store tOk rfl rfl rfl rfl rfl rfl rfl rfl ?_
  refine thenK_n ?_
  refine W.seq ?_
  refine W.region ?_
  refine S.pure tOk zOk rfl rfl rfl ?_
  refine S.makeFunc rfl rfl rfl ?_
  refine S.hcallD rfl rfl rfl rfl ((pc_walk2 c.w c (Nat.le_refl _) 0 0 hc).frameD [3] [] [] rfl rfl rfl rfl rfl rfl rfl rfl rfl) ?_
  refine thenK_n ?_
  refine W.seq ?_
  refine W.seq ?_
  refine W.region ?_
  refine S.pure tOk zOk rfl rfl rfl ?_
  refine S.pure tOk zOk rfl rfl rfl ?_
  refine S.pure tOk zOk rfl rfl rfl ?_
  refine S.pureG tOk zOk rfl rfl tg (fun _ => rfl) rfl ?_
  refine S.pickAnd tOk zOk rfl rfl tg ?_
  refine thenK_n ?_
  refine W.cond rfl (fun c2 => ?_) (fun c2 => ?_)
  ·skip
   refine W.seq ?_
   refine W.region ?_
   refine S.pure tOk zOk rfl rfl rfl ?_
   refine thenK_n ?_
   refine W.ret ?_
   refine thenK_r ?_
   exact ⟨_, rfl, rfl, LeV.of_force rfl (by (try simp only [List.toList_toArray, Int.toNat_zero] at c1 c2); simp only [checkP, c1, c2, Bool.false_eq_true, if_false, if_true, reduceIte] <;> rfl)⟩
  ·skip
   refine W.skip ?_
   refine thenK_n ?_
   refine W.seq ?_
   refine W.region ?_
   refine S.pure tOk zOk rfl rfl rfl ?_
   refine S.pure tOk zOk rfl rfl rfl ?_
   refine thenK_n ?_
   refine W.ret ?_
   exact ⟨_, rfl, rfl, LeV.of_force rfl (by (try simp only [List.toList_toArray, Int.toNat_zero] at c1 c2); simp only [checkP, c1, c2, Bool.false_eq_true, if_false, if_true, reduceIte] <;> rfl)⟩
end Go.Proofs.YtjibdoagpegniaaGreatDoor

/- A slice's literal as an own row. -/
set_option linter.unusedVariables false
set_option linter.unusedSimpArgs false
namespace Go.Proofs.YtjibdoagpegniaaGreatDoor
open Go Go.RowKit
variable {J : Inv} {k0 : Lens} {E : Env J k0} {P : Program} {T : TypeId → Option TI} {n : Nat} {t : Nat → V} {b : List (List C)} {r : List (Option RowO)} {m : List (List (DV × DV))} {ops : Array Oper} {l : List Oper}
  {K : St → Prop} {i : Nat} {ty : TypeId} {pos : String} {after : Array Edge}
def Gh.rowNew (g : Gh) (l b len : Nat) : Gh := { g with at_ := fun x => if x = .r l then b else g.at_ x, off := fun x => if x = l then 0 else g.off x, cap := fun x => if x = l then len else g.cap x }
theorem Rel.newOwn {s : St} {g : Gh} {a : Act} {w : World} (r : Rel E n g s a w) (d : Option Nat) {sz len : Nat} {xs : List (List D)} {us : List Value} {te : TypeId} (hxl : xs.length = len) (hus : us.length = len * sz) (hle : len ≤ maxLen)
    (hxs : ∀ x ∈ xs, x.length = sz) (hrd : ∀ (i j : Nat) (x : List D) (dd : D) (v : Value), xs[i]? = some x → x[j]? = some dd → us[i * sz + j]? = some v → RD g.im w dd v) :
    Rel E n (g.rowNew s.r.length w.heap.size len) ((⟨s.t, s.b, s.r ++ [some ⟨true, 0, sz, te, xs⟩], s.m⟩ : St).set d (.one (.row s.r.length 0 0 len))) (a.put d (.slice (some ⟨w.heap.size, 0, none⟩) len len)) (w.alloc (.cells us.toArray te)) := by
  obtain ⟨s1, hs1⟩ : ∃ s1 : St, s1 = ⟨s.t, s.b, s.r ++ [some ⟨true, 0, sz, te, xs⟩], s.m⟩ := ⟨_, rfl⟩
  have hsz : (w.alloc (.cells us.toArray te)).heap.size = w.heap.size + 1 := by simp
  have hold : ∀ k, k < w.heap.size → (w.alloc (.cells us.toArray te)).heap[k]? = w.heap[k]? := fun k hk => Below.heap_alloc w _ k hk
  have hnew : (w.alloc (.cells us.toArray te)).heap[w.heap.size]? = some (.cells us.toArray te (0, 0)) := by show (w.heap.push _)[w.heap.size]? = _; simp
  have e : Ext g s.sh w (g.rowNew s.r.length w.heap.size len) s1.sh (w.alloc (.cells us.toArray te)) := by
    subst hs1
    refine ⟨fun _ h => h, fun b hb => hold b (r.imlt b hb), Nat.le_refl _, Nat.le_refl _, by simp [St.sh], fun _ _ => by simp [Gh.rowNew], fun l hl => by simp [Gh.rowNew], fun q al ver sz' len' hq h => ⟨al, ver, sz', len', ?_, Nat.le_refl _, fun _ => ?_⟩⟩
    · have hq' : q < s.r.length := by simpa [St.sh] using hq
      simpa [St.sh, List.getElem?_append_left hq', List.getElem?_append_left (show q < (s.r.map (·.map RowO.form)).length by simpa using hq')] using h
    · have hq' : q < s.r.length := by simpa [St.sh] using hq
      have hne : q ≠ s.r.length := by omega
      exact ⟨rfl, rfl, Nat.le_refl _, by simp [Gh.rowNew, hne], by simp [Gh.rowNew, hne], by simp [Gh.rowNew, hne]⟩
  have hat : ∀ x, s.live x → (g.rowNew s.r.length w.heap.size len).at_ x = g.at_ x := fun x hx => by
    have : x ≠ .r s.r.length := by
      rintro rfl
      obtain ⟨o, ho, _⟩ := hx
      exact absurd (List.getElem?_eq_some_iff.1 ho).1 (Nat.lt_irrefl _)
    simp [Gh.rowNew, this]
  have hlive : ∀ x, s1.live x → s.live x ∨ x = .r s.r.length := fun x hx => by
    subst hs1
    cases x with
    | m l => exact .inl hx
    | b l => exact .inl hx
    | r l =>
      obtain ⟨o, ho, hal⟩ := hx
      have ho : (s.r ++ [some ⟨true, 0, sz, te, xs⟩])[l]? = some (some o) := ho
      rcases Nat.lt_or_ge l s.r.length with h | h
      · rw [List.getElem?_append_left h] at ho; exact .inl ⟨o, ho, hal⟩
      · have h4 := (List.getElem?_eq_some_iff.1 ho).1
        right; congr 1; simp at h4; omega
  have hnewat : (g.rowNew s.r.length w.heap.size len).at_ (.r s.r.length) = w.heap.size := by simp [Gh.rowNew]
  have hheap : Heap (g.rowNew s.r.length w.heap.size len) s1 (w.alloc (.cells us.toArray te)) := by
    refine ⟨fun x hx => ?_, fun x hx => ?_, fun x y hx hy he => ?_, fun l cs' hl' => ?_, fun l o ho => ?_, fun l es hes => ?_⟩
    · rcases hlive x hx with h | rfl
      · rw [hat x h, hsz]; exact Nat.lt_succ_of_lt (r.heap.lt x h)
      · rw [hnewat, hsz]; exact Nat.lt_succ_self _
    · rcases hlive x hx with h | rfl
      · rw [hat x h]; exact r.heap.new x h
      · rw [hnewat]; exact fun hi => absurd (r.imlt _ hi) (Nat.lt_irrefl _)
    · rcases hlive x hx with h | rfl <;> rcases hlive y hy with h' | rfl
      · rw [hat x h, hat y h'] at he; exact r.heap.inj x y h h' he
      · rw [hat x h, hnewat] at he; exact absurd (r.heap.lt x h) (by omega)
      · rw [hat y h', hnewat] at he; exact absurd (r.heap.lt y h') (by omega)
      · rfl
    · have hl2 : s.b[l]? = some cs' := by subst hs1; exact hl'
      obtain ⟨vs', t', h1, h2, h3⟩ := r.heap.box l cs' hl2
      have hlv : s.live (.b l) := (List.getElem?_eq_some_iff.1 hl2).1
      rw [hat (.b l) hlv]
      exact ⟨vs', t', by rw [hold _ (r.heap.lt (.b l) hlv)]; exact h1, h2, fun j c v hc hv => (h3 j c v hc hv).mono e⟩
    · have ho' : (s.r ++ [some ⟨true, 0, sz, te, xs⟩])[l]? = some (some o) := by subst hs1; exact ho
      rcases Nat.lt_or_ge l s.r.length with h | h
      · rw [List.getElem?_append_left h] at ho'
        have hne : l ≠ s.r.length := by omega
        have := r.heap.row l o ho'
        by_cases hal : o.al = true
        · rw [if_pos hal] at this ⊢
          obtain ⟨vs', t', h1, h2, h3, h4, h5, h6⟩ := this
          have ho2 : (g.rowNew s.r.length w.heap.size len).off l = g.off l := by simp [Gh.rowNew, hne]
          have hc2 : (g.rowNew s.r.length w.heap.size len).cap l = g.cap l := by simp [Gh.rowNew, hne]
          rw [hat (.r l) ⟨o, ho', hal⟩, ho2, hc2]
          exact ⟨vs', t', by rw [hold _ (r.heap.lt (.r l) ⟨o, ho', hal⟩)]; exact h1, h2, h3, h4, h5, fun i j x d v p q u => (h6 i j x d v p q u).mono e.im e.same⟩
        · rw [if_neg hal] at this ⊢; exact this
      · have h4 := (List.getElem?_eq_some_iff.1 ho').1
        obtain rfl : l = s.r.length := by simp at h4; omega
        rw [List.getElem?_append_right (Nat.le_refl _)] at ho'
        simp at ho'
        subst ho'
        have ho2 : (g.rowNew s.r.length w.heap.size len).off s.r.length = 0 := by simp [Gh.rowNew]
        have hc2 : (g.rowNew s.r.length w.heap.size len).cap s.r.length = len := by simp [Gh.rowNew]
        rw [if_pos rfl, hnewat, ho2, hc2]
        refine ⟨us.toArray, te, hnew, ⟨by simp [hus], rfl, rfl, hle⟩, by simp [hxl], hxs, fun _ _ => trivial, fun i j x dd v p q u => ?_⟩
        have u : us[i * sz + j]? = some v := by simpa using u
        exact (hrd i j x dd v p q u).mono e.im e.same
    · have hl2 : s.m[l]? = some es := by subst hs1; exact hes
      have hlv : s.live (.m l) := (List.getElem?_eq_some_iff.1 hl2).1
      obtain ⟨arr, clock, h1, h2, h3⟩ := r.heap.map l es hl2
      rw [hat (.m l) hlv]
      exact ⟨arr, clock, by rw [hold _ (r.heap.lt (.m l) hlv)]; exact h1, h2, fun i x y hx hy => ⟨(h3 i x y hx hy).1.mono e, (h3 i x y hx hy).2.mono e⟩⟩
  have hbelow : BelowX E.lent E.w0 (w.alloc (.cells us.toArray te)) := r.below.then ((Below.refl _ _).alloc (Nat.le_refl _) _)
  have rel1 : Rel E n (g.rowNew s.r.length w.heap.size len) s1 a (w.alloc (.cells us.toArray te)) := by
    refine ⟨hbelow, r.ext.trans e, fun b hb => by rw [hsz]; exact Nat.lt_succ_of_lt (r.imlt b hb), r.imold, fun x hx => ?_, hheap, r.size, r.defers, fun i hi => ?_⟩
    · rcases hlive x hx with h | rfl
      · rw [hat x h]; exact r.own x h
      · rw [hnewat]; exact .inr r.below.size
    · have := (r.tmps i hi).mono e
      subst hs1; exact this
  have := rel1.put_same d (u := .one (.row s.r.length 0 0 len)) (v := .slice (some ⟨w.heap.size, 0, none⟩) len len) (by
    refine .one _ _ (.row _ _ _ _ _ rfl (by subst hs1; simp [St.sh]) (fun al ver' sz' len' hh => ?_))
    have : (some (some (al, ver', sz', len')) : Option (Option _)) = some (some (true, 0, sz, len)) := by rw [← hh]; subst hs1; simp [St.sh, RowO.form, hxl]
    simp only [Option.some.injEq, Prod.mk.injEq] at this
    obtain ⟨rfl, rfl, rfl, rfl⟩ := this
    refine ⟨Nat.le_refl _, fun _ => ⟨by omega, ?_⟩⟩
    simp [Gh.rowNew])
  subst hs1
  exact this
/-- A slice's literal: an own row. -/
theorem S.sliceOwn (hT : TabOk P T) {te : TypeId} {len sz : Nat} {parts : Array (Nat × Operand)} {us : List (Nat × V)} {xs : List (List D)} {e : TypeId} {ti : TI} {r' : List (Option RowO)} (hti : T te = some ti) (hd : ti.desc = .slice e)
    (hp : allOpd n ⟨t, b, r, m⟩ parts.toList = (true, us)) (hx : evBS T te len us = some (sz, xs)) (hl : Nat.ble len 1000000 = true) (hr : appL r [some ⟨true, 0, sz, e, xs⟩] = r')
    (k : WL E P n ops l K ⟨upd t i (.one (.row r.length 0 0 len)), b, r', m⟩) : WL E P n ops (⟨some i, .buildSlice te len parts, ty, pos, after, none⟩ :: l) K ⟨t, b, r, m⟩ := by
  subst hr
  rw [appL_eq] at k
  intro g a w rel next Q hn
  have hw : Region.wanted (⟨some i, .buildSlice te len parts, ty, pos, after, none⟩ : Oper) (yielded ops a.tmps) = true := by simp [Region.wanted]
  rw [if_pos hw]
  obtain ⟨hl0, hpv⟩ := allOpd_ok rel _ _ _ hp rfl
  unfold evBS at hx
  rw [hti] at hx
  obtain ⟨desc, tsz, tz, tby⟩ := ti
  obtain rfl : desc = .slice e := hd
  simp only at hx
  split at hx
  · rename_i j hj
    split at hx
    · rename_i z hz
      split at hx
      · rename_i hc
        split at hx
        · rename_i out hf
          split at hx
          · rename_i ds hds
            split at hx
            · rename_i hlen
              obtain ⟨rfl, rfl⟩ : j.size = sz ∧ chunk j.size len ds = xs := by simpa using hx
              have hout := allDs_eq hds
              obtain ⟨zs, q1, q2, q3⟩ := zeroCells_ok (h := (⟨t, b, r, m⟩ : St).sh) hz (len * j.size) hc.2 g w
              have hjunk : ∀ (i : Nat) (c : C) (v : Value), (List.replicate (len * j.size) C.junk)[i]? = some c → zs[i]? = some v → RC g (⟨t, b, r, m⟩ : St).sh w c v := fun i c v h1 h2 => by
                rw [List.getElem?_replicate] at h1
                split at h1
                · rename_i hi
                  cases h1
                  refine .junk _ (q3 ?_ v (List.mem_of_getElem? h2))
                  rcases Nat.eq_zero_or_pos j.size with h0 | h0
                  · rw [h0, Nat.mul_zero] at hi; omega
                  · exact h0
                · cases h1
              obtain ⟨vs, f1, f2, f3⟩ := fillC_ok (h := (⟨t, b, r, m⟩ : St).sh) (fun i => some (i * j.size, j.size)) us (parts.toList.map fun (i, x) => (i, a.eval x)) _ out zs (by simp [hl0]) hpv (by simp [q2]) hjunk hf
              have e1 : (parts.map fun (i, x) => (i, a.eval x)) = (parts.toList.map fun (i, x) => (i, a.eval x)).toArray := Array.toList_inj.1 (by simp)
              have hrun : (execOp a.eval (⟨some i, .buildSlice te len parts, ty, pos, after, none⟩ : Oper)).run P w = .ok (.value (.slice (some ⟨w.heap.size, 0, none⟩) len len)) (w.alloc (.cells vs.toArray e)) := by
                have := run_buildSlice (w := w) (pv := parts.map fun (i, x) => (i, a.eval x)) (len := len) hT hti rfl hj (by have := hc.1; omega) q1 (by rw [e1]; simpa using f1)
                simp only [execOp, Sem.run_bind, this, Result.andThen_ok, Sem.run_pure]
              unfold Oper.wp
              rw [hrun]
              refine hn _ _ _ _ k (rel.newOwn (some i) (te := e) (chunk_length j.size len ds) (by rw [f2, hout]; simp [hlen]) (by have := Nat.le_of_ble_eq_true hl; simp only [maxLen]; omega) (chunk_sz j.size len ds hlen) (fun i k x d v h1 h2 h3 => ?_))
              have h4 := chunk_get j.size len ds i k x d h1 h2
              have h5 := f3 (i * j.size + k) (.d d) v (by rw [hout]; simp [h4]) h3
              cases h5 with | d _ _ q => exact q
            · cases hx
          · cases hx
        · cases hx
      · cases hx
    · cases hx
  · cases hx
end Go.Proofs.YtjibdoagpegniaaGreatDoor

/- Plain words: the tokens of a condition's text, and the program's reader of them. -/
set_option linter.unusedVariables false
set_option linter.unusedSimpArgs false
namespace Go.Proofs.YtjibdoagpegniaaGreatDoor
open Go
/-- A text in quotes: what stands behind the first quote; what it is, and the place behind it. -/
def quoteL : List UInt8 → List UInt8 → Nat → Option (List UInt8 × Nat)
  | [], _, _ => none
  | c :: l, o, i =>
    if c == 34 then some (o, i + 1)
    else if c == 92 then
      match l with
      | [] => none
      | d :: m => if d != 34 && d != 92 then none else quoteL m (o ++ [d]) (i + 2)
    else quoteL l (o ++ [c]) (i + 1)
theorem drop_at {s : List UInt8} {i : Nat} (h : i < s.length) : s.drop i = s.getD i 0 :: s.drop (i + 1) := by
  rw [List.getD_eq_getElem?_getD, List.getElem?_eq_getElem h]; exact List.drop_eq_getElem_cons h
theorem drop_end {s : List UInt8} {i : Nat} (h : s.length ≤ i) : s.drop i = [] := List.drop_of_length_le h
theorem qL_end {s o : List UInt8} {i : Nat} {q : Option (List UInt8 × Nat)} (h : s.length ≤ i) (hq : quoteL (s.drop i) o i = q) : q = none := by
  rw [drop_end h] at hq; exact hq.symm
theorem qL_q {s o : List UInt8} {i : Nat} {q : Option (List UInt8 × Nat)} (h : i < s.length) (hc : (s.getD i 0 == 34) = true) (hq : quoteL (s.drop i) o i = q) : q = some (o, i + 1) := by
  rw [drop_at h] at hq; unfold quoteL at hq; rw [if_pos hc] at hq; exact hq.symm
theorem qL_bad {s o : List UInt8} {i : Nat} {q : Option (List UInt8 × Nat)} (h : i < s.length) (hc : (s.getD i 0 == 34) = false) (hb : (s.getD i 0 == 92) = true)
    (hd : ((i + 1 : Nat) : Int) = (s.length : Int) ∨ ((s.getD (i + 1) 0 != 34) && (s.getD (i + 1) 0 != 92)) = true) (hq : quoteL (s.drop i) o i = q) : q = none := by
  rw [drop_at h] at hq; unfold quoteL at hq; rw [if_neg (by rw [hc]; simp), if_pos hb] at hq
  rcases Nat.lt_or_ge (i + 1) s.length with h1 | h1
  · rw [drop_at h1] at hq
    have h2 : (s.getD (i + 1) 0 != 34 && s.getD (i + 1) 0 != 92) = true := hd.resolve_left (by omega)
    simp only [h2, if_true] at hq
    exact hq.symm
  · rw [drop_end h1] at hq; exact hq.symm
theorem qL_esc {s o : List UInt8} {i : Nat} {q : Option (List UInt8 × Nat)} (h : i + 1 < s.length) (hc : (s.getD i 0 == 34) = false) (hb : (s.getD i 0 == 92) = true)
    (hd : ((s.getD (i + 1) 0 != 34) && (s.getD (i + 1) 0 != 92)) = false) (hq : quoteL (s.drop i) o i = q) : quoteL (s.drop (i + 1 + 1)) (o ++ [s.getD (i + 1) 0]) (i + 1 + 1) = q := by
  rw [drop_at (by omega)] at hq; unfold quoteL at hq; rw [if_neg (by rw [hc]; simp), if_pos hb, drop_at h] at hq
  simp only [hd, if_false, Bool.false_eq_true] at hq
  exact hq
theorem qL_c {s o : List UInt8} {i : Nat} {q : Option (List UInt8 × Nat)} (h : i < s.length) (hc : (s.getD i 0 == 34) = false) (hb : (s.getD i 0 == 92) = false)
    (hq : quoteL (s.drop i) o i = q) : quoteL (s.drop (i + 1)) (o ++ [s.getD i 0]) (i + 1) = q := by
  rw [drop_at h] at hq; unfold quoteL at hq; rw [if_neg (by rw [hc]; simp), if_neg (by rw [hb]; simp)] at hq
  exact hq
/-- What quotedAt hands back. -/
def qAt (s : List UInt8) (f : Nat) : Option (List UInt8 × Nat) := quoteL (s.drop (f + 1)) [] (f + 1)
def qT (q : Option (List UInt8 × Nat)) : List UInt8 := (q.map Prod.fst).getD []
def qE (q : Option (List UInt8 × Nat)) : Nat := (q.map Prod.snd).getD 0
/-- What a quoted text ends with, and how long it is. -/
theorem qL_le : ∀ (n : Nat) (l o : List UInt8) (i : Nat) (x : List UInt8) (e : Nat), l.length ≤ n → quoteL l o i = some (x, e) → i < e ∧ e ≤ i + l.length ∧ x.length ≤ o.length + l.length
  | 0, l, o, i, x, e, h, hq => by
    obtain rfl : l = [] := List.length_eq_zero_iff.1 (by omega)
    cases hq
  | n + 1, [], o, i, x, e, h, hq => by cases hq
  | n + 1, c :: l, o, i, x, e, h, hq => by
    unfold quoteL at hq
    by_cases h1 : (c == 34) = true
    · rw [if_pos h1] at hq
      simp only [Option.some.injEq, Prod.mk.injEq] at hq
      obtain ⟨rfl, rfl⟩ := hq
      simp
    · rw [if_neg h1] at hq
      by_cases h2 : (c == 92) = true
      · rw [if_pos h2] at hq
        match l, hq with
        | [], hq => cases hq
        | d :: m, hq =>
          by_cases h3 : (d != 34 && d != 92) = true
          · simp only [h3, if_true] at hq; cases hq
          · rw [Bool.not_eq_true] at h3
            simp only [h3, if_false, Bool.false_eq_true] at hq
            have := qL_le n m (o ++ [d]) (i + 2) x e (by simp at h; omega) hq
            simp at this ⊢; omega
      · rw [if_neg h2] at hq
        have := qL_le n l (o ++ [c]) (i + 1) x e (by simp at h; omega) hq
        simp at this ⊢; omega
/-- A token: its kind (0 the end, 1 a word, 2 a text in quotes, 3 a sign, 4 none), its place, its text, the place behind it. -/
structure Tok where
  k : Int
  a : Nat
  t : List UInt8
  e : Nat
def Tok.z : Tok := ⟨0, 0, [], 0⟩
def blk (c : UInt8) : Bool := c == 32 || c == 9
def sgn (c : UInt8) : Bool := (c == 40 || c == 41) || c == 61
def wch (c : UInt8) : Bool := !blk c && !(sgn c || c == 34)
def skipB (s : List UInt8) (p : Nat) : Nat := p + ((s.drop p).takeWhile blk).length
def wordE (s : List UInt8) (p : Nat) : Nat := p + ((s.drop p).takeWhile wch).length
def tokAt (s : List UInt8) (f : Nat) : Tok :=
  if (f : Int) = (s.length : Int) then ⟨0, f, [], f⟩
  else if sgn (s.getD f 0) then ⟨3, f, [s.getD f 0], f + 1⟩
  else if s.getD f 0 == 34 then (if (qAt s f).isSome then ⟨2, f, qT (qAt s f), qE (qAt s f)⟩ else ⟨4, f, [], f⟩)
  else ⟨1, f, (s.take (wordE s f)).drop f, wordE s f⟩
def nextT (s : List UInt8) (p : Nat) : Tok := tokAt s (skipB s p)
theorem tw_le (φ : UInt8 → Bool) (l : List UInt8) : (l.takeWhile φ).length ≤ l.length := (List.takeWhile_sublist φ).length_le
theorem skip_le {s : List UInt8} {p : Nat} (h : p ≤ s.length) : skipB s p ≤ s.length := by
  have := tw_le blk (s.drop p); simp at this; unfold skipB; omega
theorem skip_ge {s : List UInt8} {p : Nat} : p ≤ skipB s p := by unfold skipB; omega
theorem word_le {s : List UInt8} {p : Nat} (h : p ≤ s.length) : wordE s p ≤ s.length := by
  have := tw_le wch (s.drop p); simp at this; unfold wordE; omega
theorem word_ge {s : List UInt8} {p : Nat} : p ≤ wordE s p := by unfold wordE; omega
theorem skip_end {s : List UInt8} {i f : Nat} (h : s.length ≤ i) (hi : i ≤ s.length) (hf : skipB s i = f) : f = i := by
  unfold skipB at hf; rw [drop_end h] at hf; simp at hf; omega
theorem skip_stop {s : List UInt8} {i f : Nat} (h : i < s.length) (hc : blk (s.getD i 0) = false) (hf : skipB s i = f) : f = i := by
  unfold skipB at hf; rw [drop_at h, List.takeWhile_cons, hc] at hf; simp at hf; omega
theorem skip_go {s : List UInt8} {i f : Nat} (h : i < s.length) (hc : blk (s.getD i 0) = true) (hf : skipB s i = f) : skipB s (i + 1) = f := by
  unfold skipB at hf ⊢; rw [drop_at h, List.takeWhile_cons, hc] at hf; simp at hf; omega
theorem word_end {s : List UInt8} {i f : Nat} (h : s.length ≤ i) (hi : i ≤ s.length) (hf : wordE s i = f) : f = i := by
  unfold wordE at hf; rw [drop_end h] at hf; simp at hf; omega
theorem word_stop {s : List UInt8} {i f : Nat} (h : i < s.length) (hc : wch (s.getD i 0) = false) (hf : wordE s i = f) : f = i := by
  unfold wordE at hf; rw [drop_at h, List.takeWhile_cons, hc] at hf; simp at hf; omega
theorem word_go {s : List UInt8} {i f : Nat} (h : i < s.length) (hc : wch (s.getD i 0) = true) (hf : wordE s i = f) : wordE s (i + 1) = f := by
  unfold wordE at hf ⊢; rw [drop_at h, List.takeWhile_cons, hc] at hf; simp at hf; omega
/-- The program's reader: the tokens ahead, and the place of the error. -/
structure PS where
  T : List Tok
  w : Int
def hd (T : List Tok) : Tok := T.headD Tok.z
def adv : List Tok → List Tok
  | x :: y :: l => y :: l
  | l => l
def isT (k : Int) (x : List UInt8) (q : PS) : Bool := (decide (q.w < 0) && (hd q.T).k == k) && (hd q.T).t == x
def advS (q : PS) : PS := ⟨adv q.T, q.w⟩
def takeT (k : Int) (x : List UInt8) (q : PS) : List UInt8 × PS :=
  if decide (q.w ≥ 0) then ([], q)
  else if (hd q.T).k != k || (!(x == []) && !((hd q.T).t == x)) then ([], ⟨q.T, (hd q.T).a⟩)
  else ((hd q.T).t, advS q)
def failT (a : Int) (q : PS) : PS := if decide (q.w < 0) then ⟨q.T, a⟩ else q
def wAlways : List UInt8 := [97, 108, 119, 97, 121, 115]
def wFact : List UInt8 := [102, 97, 99, 116]
def wSetting : List UInt8 := [115, 101, 116, 116, 105, 110, 103]
def wHas : List UInt8 := [104, 97, 115]
def wVersion : List UInt8 := [118, 101, 114, 115, 105, 111, 110]
def wNot : List UInt8 := [110, 111, 116]
def wIn : List UInt8 := [105, 110]
def wAnd : List UInt8 := [97, 110, 100]
def wOr : List UInt8 := [111, 114]
def kindT (x : List UInt8) : Int := if x == wOr then 8 else 7
def shortG (f : PS → CT × PS) (k : Int) (q : PS) : CT × PS :=
  if !(isT 3 [41] q) then (.mk k [] [] [(f q).1], (takeT 3 [41] (f q).2).2) else (.mk k [] [] [], (takeT 3 [41] q).2)
def moreG (f : PS → CT × PS) (x : List UInt8) : Nat → List CT → PS → List CT × PS
  | 0, l, q => (l, q)
  | n + 1, l, q => if isT 1 x q then moreG f x n (l ++ [(f (advS q)).1]) (f (advS q)).2 else (l, q)
def signT (q : PS) : PS :=
  if decide (q.w < 0) && ((hd q.T).k != 1 || (!((hd q.T).t == wAnd) && !((hd q.T).t == wOr))) then failT (hd q.T).a q else q
def longG (f : PS → CT × PS) (q : PS) : CT × PS :=
  let r := f q
  let m := moreG f (hd r.2.T).t (hd r.2.T :: r.2.T).length [r.1] (signT r.2)
  (.mk (kindT (hd r.2.T).t) [] [] m.1, (takeT 3 [41] m.2).2)
def listG (last : Bool) (f : PS → CT × PS) (q : PS) : CT × PS :=
  if last then (CT.z, failT (hd q.T).a q)
  else if isT 1 wAnd (takeT 3 [40] q).2 then shortG f 7 (advS (takeT 3 [40] q).2)
  else if isT 1 wOr (takeT 3 [40] q).2 then shortG f 8 (advS (takeT 3 [40] q).2)
  else longG f (takeT 3 [40] q).2
def factG (k : Int) (q : PS) : CT × PS :=
  let n := takeT 1 [] q
  let v := takeT 2 [] (takeT 3 [61] n.2).2
  (.mk k n.1 v.1 [], v.2)
def versionG (q : PS) : CT × PS :=
  let n := takeT 1 [] q
  let v := takeT 2 [] (takeT 1 wIn n.2).2
  (.mk 5 n.1 v.1 [], v.2)
def condG (last : Bool) (f : PS → CT × PS) (q : PS) : CT × PS :=
  if isT 3 [40] q then listG last f q
  else
    let w := takeT 1 [] q
    if w.1 == wAlways then (.mk 1 [] [] [], w.2)
    else if w.1 == wFact || w.1 == wSetting then factG (if w.1 == wSetting then 3 else 2) w.2
    else if w.1 == wHas then (.mk 4 (takeT 1 [] w.2).1 [] [], (takeT 1 [] w.2).2)
    else if w.1 == wVersion then versionG w.2
    else if w.1 == wNot then (if last then (CT.z, failT (hd q.T).a w.2) else (.mk 6 [] [] [(f w.2).1], (f w.2).2))
    else (CT.z, failT (hd q.T).a w.2)
/-- A condition, and so many levels may lie below it. -/
def condT : Nat → PS → CT × PS
  | 0, q => condG true (fun q => (CT.z, q)) q
  | n + 1, q => condG false (condT n) q
def condF : Nat → PS → CT × PS
  | 0 => fun q => (CT.z, q)
  | n + 1 => condT n
theorem condT_eq (n : Nat) (q : PS) : condT n q = condG (n == 0) (condF n) q := by cases n <;> rfl
end Go.Proofs.YtjibdoagpegniaaGreatDoor

/- Plain words: what the program's lexer sees, case by case. -/
set_option linter.unusedVariables false
set_option linter.unusedSimpArgs false
namespace Go.Proofs.YtjibdoagpegniaaGreatDoor
open Go
theorem u8i {c k : UInt8} {b : Bool} (h : ((c.toNat : Int) == (k.toNat : Int)) = b) : (c == k) = b := by
  rw [← h]
  by_cases h1 : c = k
  · subst h1; simp
  · have h2 : c.toNat ≠ k.toNat := fun h => h1 (UInt8.toNat_inj.1 h)
    have h3 : ((c.toNat : Int) == (k.toNat : Int)) = false := by simp; omega
    rw [h3]; simpa using h1
theorem u8e (c k : UInt8) : ((c.toNat : Int) == (k.toNat : Int)) = (c == k) := (u8i rfl).symm
theorem u8n (c k : UInt8) : ((c.toNat : Int) != (k.toNat : Int)) = (c != k) := by
  show (!((c.toNat : Int) == (k.toNat : Int))) = !(c == k); rw [u8e]
theorem byteRow_add (o : List UInt8) (c : UInt8) : byteRow o ++ [[D.int .u8 (c.toNat : Int)]] = byteRow (o ++ [c]) := by simp [byteRow]
section
variable {s o : List UInt8} {i : Nat}
theorem qm1 (h : i < s.length) : s.length - (i + 1) < s.length - i := by omega
theorem qm2 (h : i < s.length) : s.length - (i + 1 + 1) < s.length - i := by omega
theorem qbad {x y : UInt8} (h : (((i + 1 : Nat) : Int) == (s.length : Int) || (((x.toNat : Int) != 34) && ((y.toNat : Int) != 92))) = true) : ((i + 1 : Nat) : Int) = (s.length : Int) ∨ ((x != 34) && (y != 92)) = true := by
  rcases Bool.or_eq_true_iff.1 h with h | h
  · exact .inl (by simpa using h)
  · right; rw [← u8n x 34, ← u8n y 92]; exact h
theorem qok1 {b : Bool} (hi : i < s.length) (h : (((i + 1 : Nat) : Int) == (s.length : Int) || b) = false) : i + 1 < s.length := by
  have : ¬ ((i + 1 : Nat) : Int) = (s.length : Int) := fun he => by rw [he] at h; simp at h
  omega
theorem qok2 {b : Bool} {x y : UInt8} (h : (b || (((x.toNat : Int) != 34) && ((y.toNat : Int) != 92))) = false) : ((x != 34) && (y != 92)) = false := by
  rw [← u8n x 34, ← u8n y 92]; exact (Bool.or_eq_false_iff.1 h).2
theorem qidx (hi : i < s.length) (h : (!(((i + 1 : Nat) : Int) == (s.length : Int))) = true) : (decide (0 ≤ ((i + 1 : Nat) : Int)) && decide (((i + 1 : Nat) : Int) < (s.length : Int))) = true := by
  have : ¬ ((i + 1 : Nat) : Int) = (s.length : Int) := fun he => by rw [he] at h; simp at h
  exact idx_ok (by omega) (by omega)
theorem qlen {x : List D} (hs : s.length ≤ 4000) (hi : i ≤ s.length) (ho : o.length ≤ i) : (byteRow o).length + [x].length ≤ 34359738368 := by simp [byteRow]; omega
theorem q_start {f : Nat} : quoteL (s.drop (f + 1)) [] (f + 1) = qAt s f := rfl
theorem blkI_eq (c : UInt8) : ((c.toNat : Int) == 32 || (c.toNat : Int) == 9) = blk c := by unfold blk; rw [← u8e c 32, ← u8e c 9]; rfl
theorem blk_lt {b : Bool} (h : (decide ((i : Int) < (s.length : Int)) && b) = true) : i < s.length := by
  have := (Bool.and_eq_true_iff.1 h).1; simpa using this
theorem blk_t {b : Bool} {c : UInt8} (h : (b && ((c.toNat : Int) == 32 || (c.toNat : Int) == 9)) = true) : blk c = true := by
  rw [← blkI_eq]; exact (Bool.and_eq_true_iff.1 h).2
theorem blk_end {p : Nat} (hi : i ≤ s.length) (hk : skipB s i = skipB s p) (h : (decide ((i : Int) < (s.length : Int)) && (((s.getD i 0).toNat : Int) == 32 || ((s.getD i 0).toNat : Int) == 9)) = false) : skipB s p = i := by
  rcases Nat.lt_or_ge i s.length with h1 | h1
  · refine skip_stop h1 ?_ hk
    rw [← blkI_eq]
    simpa [h1] using h
  · exact skip_end h1 hi hk
theorem nx_end {p : Nat} (hk : skipB s p = i) (h : ((i : Int) == (s.length : Int)) = true) : nextT s p = ⟨0, i, [], i⟩ := by
  unfold nextT tokAt; rw [hk, if_pos (by simpa using h)]
theorem nx_sign {p : Nat} (hk : skipB s p = i) (h : ((i : Int) == (s.length : Int)) = false) (hs : sgn (s.getD i 0) = true) : nextT s p = ⟨3, i, [s.getD i 0], i + 1⟩ := by
  unfold nextT tokAt; rw [hk, if_neg (by simpa using h), if_pos hs]
theorem nx_bad {p : Nat} (hk : skipB s p = i) (h : ((i : Int) == (s.length : Int)) = false) (hs : sgn (s.getD i 0) = false) (hq : (s.getD i 0 == 34) = true) (ho : (qAt s i).isSome = false) : nextT s p = ⟨4, i, [], i⟩ := by
  unfold nextT tokAt; rw [hk, if_neg (by simpa using h), if_neg (by rw [hs]; simp), if_pos hq, if_neg (by rw [ho]; simp)]
theorem nx_text {p : Nat} (hk : skipB s p = i) (h : ((i : Int) == (s.length : Int)) = false) (hs : sgn (s.getD i 0) = false) (hq : (s.getD i 0 == 34) = true) (ho : (qAt s i).isSome = true) : nextT s p = ⟨2, i, qT (qAt s i), qE (qAt s i)⟩ := by
  unfold nextT tokAt; rw [hk, if_neg (by simpa using h), if_neg (by rw [hs]; simp), if_pos hq, if_pos ho]
theorem nx_word {p j : Nat} (hk : skipB s p = i) (h : ((i : Int) == (s.length : Int)) = false) (hs : sgn (s.getD i 0) = false) (hq : (s.getD i 0 == 34) = false) (hw : wordE s i = j) : nextT s p = ⟨1, i, (s.take j).drop i, j⟩ := by
  unfold nextT tokAt; rw [hk, if_neg (by simpa using h), if_neg (by rw [hs]; simp), if_neg (by rw [hq]; simp), hw]
theorem sg_1 {c : UInt8} (h : ((c.toNat : Int) == 40) = true) : sgn c = true := by unfold sgn; rw [u8i (k := 40) h]; rfl
theorem sg_2 {c : UInt8} (h : ((c.toNat : Int) == 41) = true) : sgn c = true := by unfold sgn; rw [u8i (k := 41) h]; simp
theorem sg_3 {c : UInt8} (h : ((c.toNat : Int) == 61) = true) : sgn c = true := by unfold sgn; rw [u8i (k := 61) h]; simp
theorem sg_no {c : UInt8} (h : ((c.toNat : Int) == 40) = false) (h2 : ((c.toNat : Int) == 41) = false) (h3 : ((c.toNat : Int) == 61) = false) : sgn c = false := by
  unfold sgn; rw [u8i (k := 40) h, u8i (k := 41) h2, u8i (k := 61) h3]; rfl
theorem gx (h : decide ((i : Int) < (s.length : Int)) = true) : (decide (0 ≤ (i : Int)) && decide ((i : Int) < (s.length : Int))) = true := by rw [h]; simp
set_option maxRecDepth 100000 in
theorem enc_sg {c : UInt8} (h : sgn c = true) : V.one (.d (.str (Utf8.encode (c.toNat : Int)).data.toList)) = V.one (.d (.str [c])) := by
  unfold sgn at h
  have h2 : c = 40 ∨ c = 41 ∨ c = 61 := by simpa [or_assoc] using h
  rcases h2 with rfl | rfl | rfl <;> exact congrArg (fun x => V.one (C.d (D.str x))) (by decide)
theorem back8 (c : UInt8) : ((c.toNat : Int)).toNat.toUInt8 = c := by simp
theorem idx_sign (c : UInt8) : decide (Lib.indexByte [40, 41, 61, 34] ((c.toNat : Int)).toNat.toUInt8 < 0) = !(sgn c || c == 34) := by
  rw [back8]
  by_cases h1 : c = 40
  · subst h1; decide
  by_cases h2 : c = 41
  · subst h2; decide
  by_cases h3 : c = 61
  · subst h3; decide
  by_cases h4 : c = 34
  · subst h4; decide
  simp [Lib.indexByte, sgn, h1, h2, h3, h4, Ne.symm h1, Ne.symm h2, Ne.symm h3, Ne.symm h4]
theorem wch_eq {b : Bool} {c : UInt8} : ((b && !((c.toNat : Int) == 32 || (c.toNat : Int) == 9)) && decide (Lib.indexByte [40, 41, 61, 34] ((c.toNat : Int)).toNat.toUInt8 < 0)) = (b && wch c) := by
  rw [idx_sign, blkI_eq]; unfold wch; rw [Bool.and_assoc]
theorem wch_lt {b c : Bool} (h : ((decide ((i : Int) < (s.length : Int)) && b) && c) = true) : i < s.length := blk_lt (Bool.and_eq_true_iff.1 h).1
theorem wch_t {b : Bool} {c : UInt8} (h : ((b && !((c.toNat : Int) == 32 || (c.toNat : Int) == 9)) && decide (Lib.indexByte [40, 41, 61, 34] ((c.toNat : Int)).toNat.toUInt8 < 0)) = true) : wch c = true := by
  rw [wch_eq] at h; exact (Bool.and_eq_true_iff.1 h).2
theorem wch_end {p : Nat} (hi : i ≤ s.length) (hk : wordE s i = wordE s p) (h : ((decide ((i : Int) < (s.length : Int)) && !(((s.getD i 0).toNat : Int) == 32 || ((s.getD i 0).toNat : Int) == 9)) && decide (Lib.indexByte [40, 41, 61, 34] (((s.getD i 0).toNat : Int)).toNat.toUInt8 < 0)) = false) : wordE s p = i := by
  rw [wch_eq] at h
  rcases Nat.lt_or_ge i s.length with h1 | h1
  · exact word_stop h1 (by simpa [h1] using h) hk
  · exact word_end h1 hi hk
end
end Go.Proofs.YtjibdoagpegniaaGreatDoor

set_option linter.unusedVariables false
set_option linter.unusedSimpArgs false
set_option maxRecDepth 100000
set_option maxHeartbeats 4000000
namespace Go.Proofs.YtjibdoagpegniaaGreatDoor
open Go
open Go.RowKit
attribute [local irreducible] rangeB pathB nameB valueB visit visits checkP quoteL qAt nextT skipB wordE
theorem pc_ver_isBlank (c : Int) :
  PureCall Tryz.prog J 42 [.one (.d (.int .u8 c))] (.one (.d (.bool (c == 32 || c == 9)))) := by
 refine PureCall.of_body tOk (fn := Tryz.f42) Tryz.func42 (by kernel_rfl) rfl (Nat.le_of_ble_eq_true rfl) (fun E => ?_)
 refine W.seq ?_
 refine W.region ?_
 refine S.pure tOk zOk rfl rfl rfl ?_
 refine thenK_n ?_
 refine W.seq ?_
 refine W.region ?_
 refine S.pure tOk zOk rfl rfl rfl ?_
 refine S.pure tOk zOk rfl rfl rfl ?_
 refine S.pure tOk zOk rfl rfl rfl ?_
 refine S.pureG tOk zOk rfl rfl tg (fun _ => rfl) rfl ?_
 refine S.pureG tOk zOk rfl rfl tg (fun _ => rfl) rfl ?_
 refine S.pickOr tOk zOk rfl rfl tg ?_
 refine S.pure tOk zOk rfl rfl rfl ?_
 refine thenK_n ?_
 refine W.ret ?_
 exact ⟨_, rfl, rfl, LeV.refl _⟩
theorem pc_ver_kindOf (x : List UInt8) :
  PureCall Tryz.prog J 84 [.one (.d (.str x))] (.one (.d (.int .i64 (kindT x)))) := by
 refine PureCall.of_body tOk (fn := Tryz.f84) Tryz.func84 (by kernel_rfl) rfl (Nat.le_of_ble_eq_true rfl) (fun E => ?_)
 refine W.seq ?_
 refine W.region ?_
 refine S.pure tOk zOk rfl rfl rfl ?_
 refine thenK_n ?_
 refine W.seq ?_
 refine W.seq ?_
 refine W.region ?_
 refine S.pure tOk zOk rfl rfl rfl ?_
 refine S.pure tOk zOk rfl rfl rfl ?_
 refine thenK_n ?_
 refine W.cond rfl (fun c1 => ?_) (fun c1 => ?_)
 ·skip
  refine W.seq ?_
  refine W.region ?_
  refine S.pure tOk zOk rfl rfl rfl ?_
  refine thenK_n ?_
  refine W.ret ?_
  refine thenK_r ?_
  exact ⟨_, rfl, rfl, LeV.of_force rfl (congrArg (fun x => V.one (C.d (D.int .i64 x))) (if_pos c1).symm)⟩
 ·skip
  refine W.skip ?_
  refine thenK_n ?_
  refine W.seq ?_
  refine W.region ?_
  refine S.pure tOk zOk rfl rfl rfl ?_
  refine thenK_n ?_
  refine W.ret ?_
  exact ⟨_, rfl, rfl, LeV.of_force rfl (congrArg (fun x => V.one (C.d (D.int .i64 x))) (if_neg (Bool.eq_false_iff.1 c1)).symm)⟩
theorem pc_ver_quotedAt (s : List UInt8) (f : Nat) (hs : s.length ≤ 4000) (hf : f < s.length) :
  PureCall Tryz.prog J 43 [.one (.d (.str s)), .one (.d (.int .i64 (f : Int)))] (.tup [.one (.d (.str (qT (qAt s f)))), .one (.d (.int .i64 (qE (qAt s f) : Int))), .one (.d (.bool (qAt s f).isSome))]) := by
 refine PureCall.of_body tOk (fn := Tryz.f43) Tryz.func43 (by kernel_rfl) rfl (Nat.le_of_ble_eq_true rfl) (fun E => ?_)
 refine W.seq ?_
 refine W.region ?_
 refine S.pure tOk zOk rfl rfl rfl ?_
 refine S.pure tOk zOk rfl rfl rfl ?_
 refine S.pure tOk zOk rfl rfl rfl ?_
 refine thenK_n ?_
 refine W.seq ?_
 refine W.region ?_
 refine S.pure tOk zOk rfl rfl rfl ?_
 refine thenK_n ?_
 refine W.seq ?_
 refine W.seq ?_
 refine W.region ?_
 refine S.pure tOk zOk rfl rfl rfl ?_
 refine S.pureE tOk zOk rfl rfl (inc_i64 (by omega)) rfl ?_
 refine S.pure tOk zOk rfl rfl rfl ?_
 refine thenK_n ?_
 refine W.newRow 7 1 5 rfl ?_
 refine W.block ?_
 refine W.loop (fun k st => ∃ i : Nat, ∃ o : List UInt8, ∃ v : Nat, ∃ al : Bool, i ≤ s.length ∧ quoteL (s.drop i) o i = (qAt s f) ∧ o.length ≤ i ∧ k = s.length - i ∧ ∃ t b2 r2 m2, st = ⟨t, [] ++ b2, [some ⟨al, v, 1, 5, byteRow o⟩] ++ r2, [] ++ m2⟩ ∧ holdsL t [(0, .one (.d (.str s))), (7, .one (.row 0 v 0 (byteRow o).length)), (8, .one (.d (.int .i64 (i : Int))))]) (s.length - (f + 1)) ⟨f + 1, [], 0, false, hf, q_start, Nat.zero_le _, rfl, _, _, _, _, rfl, rfl, rfl, rfl, trivial⟩ ?_
 rintro k0 _ ⟨i, o, v, al, f0_0, f0_1, f0_2, rfl, t0, bb0, rr0, mm0, rfl, hh0⟩
 refine W.keepR _ _ _ _ _ _ _ hh0 rfl ?_
 refine W.seq ?_
 refine W.seq ?_
 refine W.region ?_
 refine S.pure tOk zOk rfl rfl rfl ?_
 refine S.pure tOk zOk rfl rfl rfl ?_
 refine S.pure tOk zOk rfl rfl rfl ?_
 refine S.pure tOk zOk rfl rfl rfl ?_
 refine thenK_n ?_
 refine W.cond rfl (fun c1 => ?_) (fun c1 => ?_)
 ·skip
  have hi : i < s.length := by simpa using c1
  refine W.skip ?_
  refine thenK_n ?_
  refine W.seq ?_
  refine W.block ?_
  refine W.seq ?_
  refine W.seq ?_
  refine W.region ?_
  refine S.pure tOk zOk rfl rfl rfl ?_
  refine S.pure tOk zOk rfl rfl rfl ?_
  refine S.pure tOk zOk rfl (str_ok hi) rfl ?_
  refine thenK_n ?_
  refine W.block ?_
  refine W.seq ?_
  refine W.region ?_
  refine S.pure tOk zOk rfl rfl rfl ?_
  refine S.pure tOk zOk rfl rfl rfl ?_
  refine thenK_n ?_
  refine W.cond rfl (fun c2 => ?_) (fun c2 => ?_)
  ·skip
   have hq := qL_q hi (u8i (k := 34) c2) f0_1
   refine W.seq ?_
   refine W.region ?_
   refine S.pure tOk zOk rfl rfl rfl ?_
   refine S.convRow (sz := 1) tOk o rfl rfl rfl rfl rfl rfl rfl rfl (by simp [byteRow]) ?_
   refine S.pure tOk zOk rfl rfl rfl ?_
   refine S.pureE tOk zOk rfl rfl (inc_i64 (by omega)) rfl ?_
   refine S.pure tOk zOk rfl rfl rfl ?_
   refine S.pure tOk zOk rfl rfl rfl ?_
   refine S.pure tOk zOk rfl rfl rfl ?_
   refine thenK_n ?_
   refine W.ret ?_
   refine blockK_r ?_
   refine thenK_r ?_
   refine blockK_r ?_
   refine thenK_r ?_
   refine thenK_r ?_
   refine blockK_r ?_
   refine thenK_r ?_
   exact ⟨_, rfl, rfl, LeV.of_force rfl (by rw [hq]; rfl)⟩
  ·skip
   have hc := u8i (c := s.getD i 0) (k := 34) c2
   refine W.seq ?_
   refine W.region ?_
   refine S.pure tOk zOk rfl rfl rfl ?_
   refine S.pure tOk zOk rfl rfl rfl ?_
   refine thenK_n ?_
   refine W.cond rfl (fun c3 => ?_) (fun c3 => ?_)
   ·skip
    have hb := u8i (c := s.getD i 0) (k := 92) c3
    refine W.seq ?_
    refine W.region ?_
    refine S.pure tOk zOk rfl rfl rfl ?_
    refine S.pureE tOk zOk rfl rfl (inc_i64 (by omega)) rfl ?_
    refine S.pure tOk zOk rfl rfl rfl ?_
    refine thenK_n ?_
    refine W.seq ?_
    refine W.region ?_
    refine S.pure tOk zOk rfl rfl rfl ?_
    refine S.pure tOk zOk rfl rfl rfl ?_
    refine S.pure tOk zOk rfl rfl rfl ?_
    refine S.pure tOk zOk rfl rfl rfl ?_
    refine S.pure tOk zOk rfl rfl rfl ?_
    refine S.pureG tOk zOk rfl rfl tg (fun _ => rfl) rfl ?_
    refine S.pureG tOk zOk rfl rfl tg (fun _ => rfl) rfl ?_
    refine S.pureG tOk zOk rfl rfl tg (fun h => qidx hi h) rfl ?_
    refine S.pureG tOk zOk rfl rfl tg (fun _ => rfl) rfl ?_
    refine S.pureG tOk zOk rfl rfl tg (fun _ => rfl) rfl ?_
    refine S.pureG tOk zOk rfl rfl tg (fun _ => rfl) rfl ?_
    refine S.pureG tOk zOk rfl rfl tg (fun _ => rfl) rfl ?_
    refine S.pureG tOk zOk rfl rfl tg (fun h => qidx hi (andl h)) rfl ?_
    refine S.pureG tOk zOk rfl rfl tg (fun _ => rfl) rfl ?_
    refine S.pickAndG tOk zOk rfl rfl rfl tg tg ?_
    refine S.pickOr tOk zOk rfl rfl tg ?_
    refine thenK_n ?_
    refine W.cond rfl (fun c4 => ?_) (fun c4 => ?_)
    ·skip
     have hq := qL_bad hi hc hb (qbad c4) f0_1
     refine W.seq ?_
     refine W.region ?_
     refine S.pure tOk zOk rfl rfl rfl ?_
     refine S.pure tOk zOk rfl rfl rfl ?_
     refine S.pure tOk zOk rfl rfl rfl ?_
     refine thenK_n ?_
     refine W.ret ?_
     refine blockK_r ?_
     refine thenK_r ?_
     refine blockK_r ?_
     refine thenK_r ?_
     refine thenK_r ?_
     refine blockK_r ?_
     refine thenK_r ?_
     exact ⟨_, rfl, rfl, LeV.of_force rfl (by rw [hq]; rfl)⟩
    ·skip
     have hi1 : i + 1 < s.length := qok1 hi c4
     have hd := qok2 c4
     refine W.skip ?_
     refine blockK_n ?_
     refine thenK_n ?_
     refine W.region ?_
     refine S.pure tOk zOk rfl rfl rfl ?_
     refine S.pure tOk zOk rfl rfl rfl ?_
     refine S.pure tOk zOk rfl rfl rfl ?_
     refine S.pure tOk zOk rfl (by first | exact str_ok hi1 | exact str_ok hi) rfl ?_
     refine S.slice tOk rfl rfl ?_
     refine S.append tOk rfl rfl rfl rfl rfl rfl rfl rfl rfl rfl rfl rfl (qlen hs f0_0 f0_2) rfl (byteRow_add o (s.getD (i + 1) 0)) rfl ?_
     refine S.pure tOk zOk rfl rfl rfl ?_
     refine blockK_n ?_
     refine thenK_n ?_
     refine W.region ?_
     refine S.pure tOk zOk rfl rfl rfl ?_
     refine S.pure tOk zOk rfl rfl rfl ?_
     refine S.pure tOk zOk rfl rfl rfl ?_
     refine loop_n (s.length - _) (by first | exact qm2 hi | exact qm1 hi) ⟨i + 1 + 1, _, _, _, hi1, qL_esc hi1 hc hb hd f0_1, (by simp; omega), rfl, _, _, _, _, rfl, rfl, rfl, inc_i64 (by omega), trivial⟩
   ·skip
    have hb := u8i (c := s.getD i 0) (k := 92) c3
    refine W.skip ?_
    refine blockK_n ?_
    refine thenK_n ?_
    refine W.region ?_
    refine S.pure tOk zOk rfl rfl rfl ?_
    refine S.pure tOk zOk rfl rfl rfl ?_
    refine S.pure tOk zOk rfl rfl rfl ?_
    refine S.pure tOk zOk rfl (by first | exact str_ok hi1 | exact str_ok hi) rfl ?_
    refine S.slice tOk rfl rfl ?_
    refine S.append tOk rfl rfl rfl rfl rfl rfl rfl rfl rfl rfl rfl rfl (qlen hs f0_0 f0_2) rfl (byteRow_add o (s.getD i 0)) rfl ?_
    refine S.pure tOk zOk rfl rfl rfl ?_
    refine blockK_n ?_
    refine thenK_n ?_
    refine W.region ?_
    refine S.pure tOk zOk rfl rfl rfl ?_
    refine S.pure tOk zOk rfl rfl rfl ?_
    refine S.pure tOk zOk rfl rfl rfl ?_
    refine loop_n (s.length - _) (by first | exact qm2 hi | exact qm1 hi) ⟨i + 1, _, _, _, hi, qL_c hi hc hb f0_1, (by simp; omega), rfl, _, _, _, _, rfl, rfl, rfl, inc_i64 (by omega), trivial⟩
 ·skip
  have hi : s.length ≤ i := by simpa using c1
  have hq := qL_end hi f0_1
  refine W.exit ?_
  refine thenK_e ?_
  refine thenK_e ?_
  refine blockK_x ?_
  refine thenK_n ?_
  refine W.seq ?_
  refine W.region ?_
  refine S.pure tOk zOk rfl rfl rfl ?_
  refine S.pure tOk zOk rfl rfl rfl ?_
  refine S.pure tOk zOk rfl rfl rfl ?_
  refine thenK_n ?_
  refine W.ret ?_
  exact ⟨_, rfl, rfl, LeV.of_force rfl (by rw [hq]; rfl)⟩
theorem pc_advance (s : List UInt8) (p : Nat) (kd ta w : Int) (tx : List UInt8) (hs : s.length ≤ 4000) (hp : p ≤ s.length) :
  HCall Tryz.prog J 14 ([.one (.ptr 0 0)]) ([[.d (.str s), .d (.int .i64 (p : Int)), .d (.int .i64 (kd)), .d (.int .i64 (ta)), .d (.str tx), .d (.int .i64 w)]]) ([]) ([]) (isH (.tup []) ([[.d (.str s), .d (.int .i64 ((nextT s p).e : Int)), .d (.int .i64 ((nextT s p).k)), .d (.int .i64 ((nextT s p).a : Int)), .d (.str (nextT s p).t), .d (.int .i64 w)]]) ([]) ([])) := by
 refine HCall.ofD tOk ⟨1, 0, 0⟩ (fn := Tryz.f14) Tryz.func14 (by kernel_rfl) rfl (Nat.le_of_ble_eq_true rfl) (fun E => ?_)
 refine W.seq ?_
 refine W.block ?_
 refine W.loop (fun k st => ∃ i : Nat, i ≤ s.length ∧ skipB s i = skipB s p ∧ k = s.length - i ∧ ∃ t b2 r2 m2, st = ⟨t, [[.d (.str s), .d (.int .i64 (i : Int)), .d (.int .i64 (kd)), .d (.int .i64 (ta)), .d (.str tx), .d (.int .i64 w)]] ++ b2, [] ++ r2, [] ++ m2⟩ ∧ holdsL t [(0, .one (.ptr 0 0))]) (s.length - p) ⟨p, hp, rfl, rfl, _, _, _, _, rfl, rfl, trivial⟩ ?_
 rintro k0 _ ⟨i, f0_0, f0_1, rfl, t0, bb0, rr0, mm0, rfl, hh0⟩
 refine W.keepR _ _ _ _ _ _ _ hh0 rfl ?_
 refine W.seq ?_
 refine W.seq ?_
 refine W.regionD mixed (by kernel_rfl) ?_
 refine D.pure tOk zOk rfl rfl rfl rfl ?_
 refine D.pure tOk zOk rfl rfl rfl rfl ?_
 refine D.pure tOk zOk rfl rfl rfl rfl ?_
 refine D.pure tOk zOk rfl rfl rfl rfl ?_
 refine D.pure tOk zOk rfl rfl rfl rfl ?_
 refine D.pure tOk zOk rfl rfl rfl rfl ?_
 refine D.pure tOk zOk rfl rfl rfl rfl ?_
 refine D.pure tOk zOk rfl rfl rfl rfl ?_
 refine D.pure tOk zOk rfl rfl rfl rfl ?_
 refine D.pure tOk zOk rfl rfl rfl rfl ?_
 refine D.pure tOk zOk rfl rfl rfl rfl ?_
 refine D.pureG tOk zOk rfl rfl rfl tg (fun _ => rfl) rfl ?_
 refine D.pureG tOk zOk rfl rfl rfl tg (fun _ => rfl) rfl ?_
 refine D.pureG tOk zOk rfl rfl rfl tg (fun _ => rfl) rfl ?_
 refine D.pureG tOk zOk rfl rfl rfl tg (fun _ => rfl) rfl ?_
 refine D.pureG tOk zOk rfl rfl rfl tg (fun _ => rfl) rfl ?_
 refine D.pureG tOk zOk rfl rfl rfl tg (fun _ => rfl) rfl ?_
 refine D.pureG tOk zOk rfl rfl rfl tg (fun _ => rfl) rfl ?_
 refine D.pureG tOk zOk rfl rfl rfl tg (fun _ => rfl) rfl ?_
 refine D.pureG tOk zOk rfl rfl rfl tg (fun h => gx (s := s) (i := i) h) rfl ?_
 refine D.callG rfl rfl rfl rfl tg rfl rfl (fun h => pc_ver_isBlank _) ?_
 refine D.pickAnd tOk zOk rfl rfl tg ?_
 refine thenK_n ?_
 refine W.cond rfl (fun c1 => ?_) (fun c1 => ?_)
 ·skip
  have hi := blk_lt c1
  have hgo := skip_go hi (blk_t c1) f0_1
  refine W.skip ?_
  refine thenK_n ?_
  refine W.block ?_
  refine W.region ?_
  refine S.pure tOk zOk rfl rfl rfl ?_
  refine S.pure tOk zOk rfl rfl rfl ?_
  refine S.pure tOk zOk rfl rfl rfl ?_
  refine S.pure tOk zOk rfl rfl rfl ?_
  refine S.pureE tOk zOk rfl rfl (inc_i64 (by omega)) rfl ?_
  refine S.pure tOk zOk rfl rfl rfl ?_
  refine S.pure tOk zOk rfl rfl rfl ?_
  refine S.store tOk rfl rfl rfl rfl rfl rfl rfl rfl ?_
  refine blockK_n ?_
  refine loop_n (s.length - (i + 1)) (by omega) ⟨i + 1, hi, hgo, rfl, _, _, _, _, rfl, rfl, trivial⟩
 ·skip
  have hsk : skipB s p = i := blk_end f0_0 f0_1 c1
  refine W.exit ?_
  refine thenK_e ?_
  refine thenK_e ?_
  refine blockK_x ?_
  refine thenK_n ?_
  refine W.seq ?_
  refine W.region ?_
  refine S.pure tOk zOk rfl rfl rfl ?_
  refine S.pure tOk zOk rfl rfl rfl ?_
  refine S.pure tOk zOk rfl rfl rfl ?_
  refine S.pure tOk zOk rfl rfl rfl ?_
  refine S.pure tOk zOk rfl rfl rfl ?_
  refine thenK_n ?_
  refine W.seq ?_
  refine W.seq ?_
  refine W.region ?_
  refine S.pure tOk zOk rfl rfl rfl ?_
  refine S.pure tOk zOk rfl rfl rfl ?_
  refine S.pure tOk zOk rfl rfl rfl ?_
  refine S.pure tOk zOk rfl rfl rfl ?_
  refine S.pure tOk zOk rfl rfl rfl ?_
  refine S.pure tOk zOk rfl rfl rfl ?_
  refine S.pure tOk zOk rfl rfl rfl ?_
  refine thenK_n ?_
  refine W.cond rfl (fun c2 => ?_) (fun c2 => ?_)
  ·skip
   have hx := nx_end hsk c2
   refine W.seq ?_
   refine W.region ?_
   refine S.pure tOk zOk rfl rfl rfl ?_
   refine S.pure tOk zOk rfl rfl rfl ?_
   refine S.pure tOk zOk rfl rfl rfl ?_
   refine S.pure tOk zOk rfl rfl rfl ?_
   refine S.pure tOk zOk rfl rfl rfl ?_
   refine S.store tOk rfl rfl rfl rfl rfl rfl rfl rfl ?_
   refine thenK_n ?_
   refine W.ret ?_
   refine thenK_r ?_
   exact ⟨_, rfl, rfl, LeG.refl _, (by rw [hx]; rfl), rfl, rfl⟩
  ·skip
   have hi : i < s.length := by simp at c2; omega
   refine W.skip ?_
   refine thenK_n ?_
   refine W.seq ?_
   refine W.region ?_
   refine S.pure tOk zOk rfl rfl rfl ?_
   refine S.pure tOk zOk rfl rfl rfl ?_
   refine S.pure tOk zOk rfl rfl rfl ?_
   refine S.pure tOk zOk rfl rfl rfl ?_
   refine S.pure tOk zOk rfl rfl rfl ?_
   refine S.pure tOk zOk rfl (str_ok hi) rfl ?_
   refine S.pure tOk zOk rfl rfl rfl ?_
   refine thenK_n ?_
   refine W.seq ?_
   refine W.region ?_
   refine S.pure tOk zOk rfl rfl rfl ?_
   refine thenK_n ?_
   refine W.block ?_
   refine W.seq ?_
   refine W.seq ?_
   refine W.region ?_
   refine S.pure tOk zOk rfl rfl rfl ?_
   refine S.pure tOk zOk rfl rfl rfl ?_
   refine thenK_n ?_
   refine W.cond rfl (fun c3 => ?_) (fun c3 => ?_)
   ·skip
    have hsg := sg_1 c3
    have hx := nx_sign hsk c2 hsg
    refine W.skip ?_
    refine thenK_n ?_
    refine W.cond rfl (fun c4 => ?_) (fun c4 => ?_)
    ·skip
     refine W.seq ?_
     refine W.region ?_
     refine S.pure tOk zOk rfl rfl rfl ?_
     refine S.pure tOk zOk rfl rfl rfl ?_
     refine S.pure tOk zOk rfl rfl rfl ?_
     refine S.pure tOk zOk rfl rfl rfl ?_
     refine S.pureE tOk zOk rfl rfl (inc_i64 (by omega)) rfl ?_
     refine S.pure tOk zOk rfl rfl rfl ?_
     refine S.pure tOk zOk rfl rfl rfl ?_
     refine S.store tOk rfl rfl rfl rfl rfl rfl rfl rfl ?_
     refine thenK_n ?_
     refine W.region ?_
     refine S.pure tOk zOk rfl rfl rfl ?_
     refine S.pure tOk zOk rfl rfl rfl ?_
     refine S.pure tOk zOk rfl rfl rfl ?_
     refine S.pureE tOk zOk rfl rfl (enc_sg hsg) rfl ?_
     refine S.pure tOk zOk rfl rfl rfl ?_
     refine S.pure tOk zOk rfl rfl rfl ?_
     refine S.pure tOk zOk rfl rfl rfl ?_
     refine S.store tOk rfl rfl rfl rfl rfl rfl rfl rfl ?_
     refine blockK_n ?_
     exact ⟨_, rfl, rfl, LeG.refl _, (by rw [hx]; rfl), rfl, rfl⟩
    · exact absurd c4 (by rw [c3]; simp)
   ·skip
    refine W.seq ?_
    refine W.region ?_
    refine S.pure tOk zOk rfl rfl rfl ?_
    refine S.pure tOk zOk rfl rfl rfl ?_
    refine thenK_n ?_
    refine W.cond rfl (fun c5 => ?_) (fun c5 => ?_)
    ·skip
     have hsg := sg_2 c5
     have hx := nx_sign hsk c2 hsg
     refine W.skip ?_
     refine thenK_n ?_
     refine W.cond rfl (fun c6 => ?_) (fun c6 => ?_)
     ·skip
      refine W.seq ?_
      refine W.region ?_
      refine S.pure tOk zOk rfl rfl rfl ?_
      refine S.pure tOk zOk rfl rfl rfl ?_
      refine S.pure tOk zOk rfl rfl rfl ?_
      refine S.pure tOk zOk rfl rfl rfl ?_
      refine S.pureE tOk zOk rfl rfl (inc_i64 (by omega)) rfl ?_
      refine S.pure tOk zOk rfl rfl rfl ?_
      refine S.pure tOk zOk rfl rfl rfl ?_
      refine S.store tOk rfl rfl rfl rfl rfl rfl rfl rfl ?_
      refine thenK_n ?_
      refine W.region ?_
      refine S.pure tOk zOk rfl rfl rfl ?_
      refine S.pure tOk zOk rfl rfl rfl ?_
      refine S.pure tOk zOk rfl rfl rfl ?_
      refine S.pureE tOk zOk rfl rfl (enc_sg hsg) rfl ?_
      refine S.pure tOk zOk rfl rfl rfl ?_
      refine S.pure tOk zOk rfl rfl rfl ?_
      refine S.pure tOk zOk rfl rfl rfl ?_
      refine S.store tOk rfl rfl rfl rfl rfl rfl rfl rfl ?_
      refine blockK_n ?_
      exact ⟨_, rfl, rfl, LeG.refl _, (by rw [hx]; rfl), rfl, rfl⟩
     · exact absurd c6 (by rw [c5]; simp)
    ·skip
     refine W.region ?_
     refine S.pure tOk zOk rfl rfl rfl ?_
     refine S.pure tOk zOk rfl rfl rfl ?_
     refine thenK_n ?_
     refine W.cond rfl (fun c7 => ?_) (fun c7 => ?_)
     ·skip
      have hsg := sg_3 c7
      have hx := nx_sign hsk c2 hsg
      refine W.seq ?_
      refine W.region ?_
      refine S.pure tOk zOk rfl rfl rfl ?_
      refine S.pure tOk zOk rfl rfl rfl ?_
      refine S.pure tOk zOk rfl rfl rfl ?_
      refine S.pure tOk zOk rfl rfl rfl ?_
      refine S.pureE tOk zOk rfl rfl (inc_i64 (by omega)) rfl ?_
      refine S.pure tOk zOk rfl rfl rfl ?_
      refine S.pure tOk zOk rfl rfl rfl ?_
      refine S.store tOk rfl rfl rfl rfl rfl rfl rfl rfl ?_
      refine thenK_n ?_
      refine W.region ?_
      refine S.pure tOk zOk rfl rfl rfl ?_
      refine S.pure tOk zOk rfl rfl rfl ?_
      refine S.pure tOk zOk rfl rfl rfl ?_
      refine S.pureE tOk zOk rfl rfl (enc_sg hsg) rfl ?_
      refine S.pure tOk zOk rfl rfl rfl ?_
      refine S.pure tOk zOk rfl rfl rfl ?_
      refine S.pure tOk zOk rfl rfl rfl ?_
      refine S.store tOk rfl rfl rfl rfl rfl rfl rfl rfl ?_
      refine blockK_n ?_
      exact ⟨_, rfl, rfl, LeG.refl _, (by rw [hx]; rfl), rfl, rfl⟩
     ·skip
      have hns := sg_no c3 c5 c7
      refine W.seq ?_
      refine W.region ?_
      refine S.pure tOk zOk rfl rfl rfl ?_
      refine S.pure tOk zOk rfl rfl rfl ?_
      refine thenK_n ?_
      refine W.cond rfl (fun c8 => ?_) (fun c8 => ?_)
      ·skip
       have hq := u8i (c := s.getD i 0) (k := 34) c8
       refine W.seq ?_
       refine W.region ?_
       refine S.pure tOk zOk rfl rfl rfl ?_
       refine S.pure tOk zOk rfl rfl rfl ?_
       refine S.pure tOk zOk rfl rfl rfl ?_
       refine S.pure tOk zOk rfl rfl rfl ?_
       refine S.pure tOk zOk rfl rfl rfl ?_
       refine S.call rfl rfl rfl rfl rfl (pc_ver_quotedAt s i hs (by omega)) ?_
       refine S.pure tOk zOk rfl rfl rfl ?_
       refine S.pure tOk zOk rfl rfl rfl ?_
       refine S.pure tOk zOk rfl rfl rfl ?_
       refine S.pure tOk zOk rfl rfl rfl ?_
       refine S.pure tOk zOk rfl rfl rfl ?_
       refine S.pure tOk zOk rfl rfl rfl ?_
       refine S.pure tOk zOk rfl rfl rfl ?_
       refine thenK_n ?_
       refine W.seq ?_
       refine W.seq ?_
       refine W.region ?_
       refine S.pure tOk zOk rfl rfl rfl ?_
       refine S.pure tOk zOk rfl rfl rfl ?_
       refine thenK_n ?_
       refine W.cond rfl (fun c9 => ?_) (fun c9 => ?_)
       ·skip
        have hx := nx_bad hsk c2 hns hq (by simpa using c9)
        refine W.seq ?_
        refine W.region ?_
        refine S.pure tOk zOk rfl rfl rfl ?_
        refine S.pure tOk zOk rfl rfl rfl ?_
        refine S.pure tOk zOk rfl rfl rfl ?_
        refine S.pure tOk zOk rfl rfl rfl ?_
        refine S.pure tOk zOk rfl rfl rfl ?_
        refine S.store tOk rfl rfl rfl rfl rfl rfl rfl rfl ?_
        refine thenK_n ?_
        refine W.ret ?_
        refine thenK_r ?_
        refine blockK_r ?_
        exact ⟨_, rfl, rfl, LeG.refl _, (by rw [hx]; rfl), rfl, rfl⟩
       ·skip
        have hx := nx_text hsk c2 hns hq (by simpa using c9)
        refine W.skip ?_
        refine thenK_n ?_
        refine W.seq ?_
        refine W.region ?_
        refine S.pure tOk zOk rfl rfl rfl ?_
        refine S.pure tOk zOk rfl rfl rfl ?_
        refine S.pure tOk zOk rfl rfl rfl ?_
        refine S.pure tOk zOk rfl rfl rfl ?_
        refine S.store tOk rfl rfl rfl rfl rfl rfl rfl rfl ?_
        refine thenK_n ?_
        refine W.region ?_
        refine S.pure tOk zOk rfl rfl rfl ?_
        refine S.pure tOk zOk rfl rfl rfl ?_
        refine S.pure tOk zOk rfl rfl rfl ?_
        refine S.pure tOk zOk rfl rfl rfl ?_
        refine S.pure tOk zOk rfl rfl rfl ?_
        refine S.pure tOk zOk rfl rfl rfl ?_
        refine S.store tOk rfl rfl rfl rfl rfl rfl rfl rfl ?_
        refine blockK_n ?_
        exact ⟨_, rfl, rfl, LeG.refl _, (by rw [hx]; rfl), rfl, rfl⟩
      ·skip
       have hq := u8i (c := s.getD i 0) (k := 34) c8
       refine W.seq ?_
       refine W.block ?_
       refine W.loop (fun k st => ∃ j : Nat, i ≤ j ∧ j ≤ s.length ∧ wordE s j = wordE s i ∧ k = s.length - j ∧ ∃ t b2 r2 m2, st = ⟨t, [[.d (.str s), .d (.int .i64 (j : Int)), .d (.int .i64 (kd)), .d (.int .i64 (ta)), .d (.str tx), .d (.int .i64 w)]] ++ b2, [] ++ r2, [] ++ m2⟩ ∧ holdsL t [(0, .one (.ptr 0 0)), (2, .one (.d (.int .i64 (i : Int))))]) (s.length - i) ⟨i, Nat.le_refl _, f0_0, rfl, rfl, _, _, _, _, rfl, rfl, rfl, trivial⟩ ?_
       rintro k3 _ ⟨j, f3_0, f3_1, f3_2, rfl, t3, bb3, rr3, mm3, rfl, hh3⟩
       refine W.keepR _ _ _ _ _ _ _ hh3 rfl ?_
       refine W.seq ?_
       refine W.seq ?_
       refine W.regionD mixed (by kernel_rfl) ?_
       refine D.pure tOk zOk rfl rfl rfl rfl ?_
       refine D.pure tOk zOk rfl rfl rfl rfl ?_
       refine D.pure tOk zOk rfl rfl rfl rfl ?_
       refine D.pure tOk zOk rfl rfl rfl rfl ?_
       refine D.pure tOk zOk rfl rfl rfl rfl ?_
       refine D.pure tOk zOk rfl rfl rfl rfl ?_
       refine D.pure tOk zOk rfl rfl rfl rfl ?_
       refine D.pure tOk zOk rfl rfl rfl rfl ?_
       refine D.pure tOk zOk rfl rfl rfl rfl ?_
       refine D.pure tOk zOk rfl rfl rfl rfl ?_
       refine D.pure tOk zOk rfl rfl rfl rfl ?_
       refine D.pureG tOk zOk rfl rfl rfl tg (fun _ => rfl) rfl ?_
       refine D.pureG tOk zOk rfl rfl rfl tg (fun _ => rfl) rfl ?_
       refine D.pureG tOk zOk rfl rfl rfl tg (fun _ => rfl) rfl ?_
       refine D.pureG tOk zOk rfl rfl rfl tg (fun _ => rfl) rfl ?_
       refine D.pureG tOk zOk rfl rfl rfl tg (fun _ => rfl) rfl ?_
       refine D.pureG tOk zOk rfl rfl rfl tg (fun _ => rfl) rfl ?_
       refine D.pureG tOk zOk rfl rfl rfl tg (fun _ => rfl) rfl ?_
       refine D.pureG tOk zOk rfl rfl rfl tg (fun _ => rfl) rfl ?_
       refine D.pureG tOk zOk rfl rfl rfl tg (fun h => gx (s := s) (i := j) h) rfl ?_
       refine D.callG rfl rfl rfl rfl tg rfl rfl (fun h => pc_ver_isBlank _) ?_
       refine D.pureG tOk zOk rfl rfl rfl tg (fun _ => rfl) rfl ?_
       refine D.pickAnd tOk zOk rfl rfl tg ?_
       refine D.pure tOk zOk rfl rfl rfl rfl ?_
       refine D.pureG tOk zOk rfl rfl rfl tg (fun _ => rfl) rfl ?_
       refine D.pureG tOk zOk rfl rfl rfl tg (fun _ => rfl) rfl ?_
       refine D.pureG tOk zOk rfl rfl rfl tg (fun _ => rfl) rfl ?_
       refine D.pureG tOk zOk rfl rfl rfl tg (fun _ => rfl) rfl ?_
       refine D.pureG tOk zOk rfl rfl rfl tg (fun _ => rfl) rfl ?_
       refine D.pureG tOk zOk rfl rfl rfl tg (fun _ => rfl) rfl ?_
       refine D.pureG tOk zOk rfl rfl rfl tg (fun _ => rfl) rfl ?_
       refine D.pureG tOk zOk rfl rfl rfl tg (fun _ => rfl) rfl ?_
       refine D.pureG tOk zOk rfl rfl rfl tg (fun h => gx (s := s) (i := j) (andl h)) rfl ?_
       refine D.callG rfl rfl rfl rfl tg rfl rfl (fun h => pc_IndexByte _ _) ?_
       refine D.pureG tOk zOk rfl rfl rfl tg (fun _ => rfl) rfl ?_
       refine D.pickAnd tOk zOk rfl rfl tg ?_
       refine thenK_n ?_
       refine W.cond rfl (fun c10 => ?_) (fun c10 => ?_)
       ·skip
        have hj := wch_lt c10
        have hgo := word_go hj (wch_t c10) f3_2
        refine W.skip ?_
        refine thenK_n ?_
        refine W.block ?_
        refine W.region ?_
        refine S.pure tOk zOk rfl rfl rfl ?_
        refine S.pure tOk zOk rfl rfl rfl ?_
        refine S.pure tOk zOk rfl rfl rfl ?_
        refine S.pure tOk zOk rfl rfl rfl ?_
        refine S.pureE tOk zOk rfl rfl (inc_i64 (by omega)) rfl ?_
        refine S.pure tOk zOk rfl rfl rfl ?_
        refine S.pure tOk zOk rfl rfl rfl ?_
        refine S.store tOk rfl rfl rfl rfl rfl rfl rfl rfl ?_
        refine blockK_n ?_
        refine loop_n (s.length - (j + 1)) (by omega) ⟨j + 1, by omega, hj, hgo, rfl, _, _, _, _, rfl, rfl, rfl, trivial⟩
       ·skip
        have hwe : wordE s i = j := wch_end f3_1 f3_2 c10
        have hx := nx_word hsk c2 hns hq hwe
        refine W.exit ?_
        refine thenK_e ?_
        refine thenK_e ?_
        refine blockK_x ?_
        refine thenK_n ?_
        refine W.regionD mixed (by kernel_rfl) ?_
        refine D.pure tOk zOk rfl rfl rfl rfl ?_
        refine D.pure tOk zOk rfl rfl rfl rfl ?_
        refine D.pure tOk zOk rfl rfl rfl rfl ?_
        refine D.pure tOk zOk rfl rfl rfl rfl ?_
        refine D.pure tOk zOk rfl rfl rfl rfl ?_
        refine D.pure tOk zOk rfl rfl rfl rfl ?_
        refine D.pure tOk zOk rfl rfl rfl rfl ?_
        refine D.pure tOk zOk rfl rfl rfl rfl ?_
        refine D.pure tOk zOk rfl rfl rfl rfl ?_
        refine D.pure tOk zOk rfl rfl rfl rfl ?_
        refine D.pure tOk zOk rfl rfl rfl rfl ?_
        refine D.pure tOk zOk rfl rfl (sl_ok (by omega) (by omega) (by omega)) rfl ?_
        refine D.pure tOk zOk rfl rfl rfl rfl ?_
        refine D.pure tOk zOk rfl rfl rfl rfl ?_
        refine D.pure tOk zOk rfl rfl rfl rfl ?_
        refine D.store tOk rfl rfl rfl rfl rfl rfl rfl rfl ?_
        refine blockK_n ?_
        exact ⟨_, rfl, rfl, LeG.refl _, (by rw [hx]; rfl), rfl, rfl⟩
end Go.Proofs.YtjibdoagpegniaaGreatDoor

/- Plain words: lists of tokens, and that the reader keeps to them. -/
set_option linter.unusedVariables false
set_option linter.unusedSimpArgs false
namespace Go.Proofs.YtjibdoagpegniaaGreatDoor
open Go
/-- The tokens ahead, as the lexer tells them one after the other. -/
def Good (s : List UInt8) : List Tok → Prop
  | [] => False
  | [x] => (nextT s x.e = x ∧ x.e ≤ s.length) ∧ (x.k == 0 || x.k == 4) = true
  | x :: y :: l => (nextT s x.e = y ∧ x.e ≤ s.length) ∧ (x.k == 0 || x.k == 4) = false ∧ Good s (y :: l)
theorem good_hd {s : List UInt8} : ∀ {T : List Tok}, Good s T → nextT s (hd T).e = hd (adv T) ∧ (hd T).e ≤ s.length
  | [], h => h.elim
  | [x], h => h.1
  | x :: y :: l, h => h.1
theorem good_adv {s : List UInt8} : ∀ {T : List Tok}, Good s T → Good s (adv T)
  | [], h => h
  | [x], h => h
  | x :: y :: l, h => h.2.2
theorem good_last {s : List UInt8} {x : Tok} (h : Good s [x]) (hk : (x.k == 1) = true ∨ (x.k == 2) = true ∨ (x.k == 3) = true) : False := by
  have h2 := h.2
  rcases hk with hk | hk | hk <;> simp at hk <;> rw [hk] at h2 <;> simp at h2
/-- What one comes to by going on. -/
inductive Rch : List Tok → List Tok → Prop where
  | refl (T : List Tok) : Rch T T
  | step {T T' : List Tok} : Rch (adv T) T' → Rch T T'
theorem Rch.trans {A B C : List Tok} (h : Rch A B) (h2 : Rch B C) : Rch A C := by
  induction h with
  | refl => exact h2
  | step h ih => exact .step (ih h2)
theorem adv_len (T : List Tok) : (adv T).length ≤ T.length := by
  match T with
  | [] => exact Nat.le_refl _
  | [x] => exact Nat.le_refl _
  | x :: y :: l => simp [adv]
theorem Rch.len {A B : List Tok} (h : Rch A B) : B.length ≤ A.length := by
  induction h with
  | refl => exact Nat.le_refl _
  | step h ih => exact Nat.le_trans ih (adv_len _)
theorem Rch.good {s : List UInt8} {A B : List Tok} (h : Rch A B) (g : Good s A) : Good s B := by
  induction h with
  | refl => exact g
  | step h ih => exact ih (good_adv g)
def Gd (s : List UInt8) (T : List Tok) : Prop := Good s T ∧ T.length ≤ 5000
theorem Gd.go {s : List UInt8} {A B : List Tok} (g : Gd s A) (h : Rch A B) : Gd s B := ⟨h.good g.1, Nat.le_trans h.len g.2⟩
theorem rch_adv (q : PS) : Rch q.T (advS q).T := .step (.refl _)
theorem take_0 {k : Int} {x : List UInt8} {q : PS} (h : decide (q.w ≥ 0) = true) : takeT k x q = ([], q) := if_pos h
theorem take_1 {k : Int} {x : List UInt8} {q : PS} (h : decide (q.w ≥ 0) = false) (h2 : ((hd q.T).k != k || (!(x == []) && !((hd q.T).t == x))) = true) : takeT k x q = ([], ⟨q.T, (hd q.T).a⟩) := by
  unfold takeT; rw [if_neg (by rw [h]; simp), if_pos h2]
theorem take_2 {k : Int} {x : List UInt8} {q : PS} (h : decide (q.w ≥ 0) = false) (h2 : ((hd q.T).k != k || (!(x == []) && !((hd q.T).t == x))) = false) : takeT k x q = ((hd q.T).t, advS q) := by
  unfold takeT; rw [if_neg (by rw [h]; simp), if_neg (by rw [h2]; simp)]
theorem fail_1 {a : Int} {q : PS} (h : decide (q.w < 0) = true) : failT a q = ⟨q.T, a⟩ := if_pos h
theorem fail_0 {a : Int} {q : PS} (h : decide (q.w < 0) = false) : failT a q = q := if_neg (by rw [h]; simp)
theorem fact_set {x : List UInt8} (h : (x == wFact) = true) : (x == wSetting) = false := by
  have : x = wFact := by simpa using h
  subst this; rfl
theorem rch_take (k : Int) (x : List UInt8) (q : PS) : Rch q.T (takeT k x q).2.T := by
  unfold takeT
  split
  · exact .refl _
  · split
    · exact .refl _
    · exact rch_adv q
theorem rch_fail (a : Int) (q : PS) : Rch q.T (failT a q).T := by
  unfold failT; split <;> exact .refl _
theorem rch_sign (q : PS) : Rch q.T (signT q).T := by
  unfold signT; split
  · exact rch_fail _ _
  · exact .refl _
section
variable {f : PS → CT × PS} (hf : ∀ q, Rch q.T (f q).2.T)
include hf
theorem rch_short (k : Int) (q : PS) : Rch q.T (shortG f k q).2.T := by
  unfold shortG; split
  · exact (hf q).trans (rch_take _ _ _)
  · exact rch_take _ _ _
theorem rch_more (x : List UInt8) : ∀ (n : Nat) (l : List CT) (q : PS), Rch q.T (moreG f x n l q).2.T
  | 0, l, q => .refl _
  | n + 1, l, q => by
    unfold moreG; split
    · exact (rch_adv q).trans ((hf _).trans (rch_more x n _ _))
    · exact .refl _
theorem rch_long (q : PS) : Rch q.T (longG f q).2.T := by
  unfold longG
  exact (hf q).trans ((rch_sign _).trans ((rch_more hf _ _ _ _).trans (rch_take _ _ _)))
theorem rch_list (b : Bool) (q : PS) : Rch q.T (listG b f q).2.T := by
  unfold listG
  split
  · exact rch_fail _ _
  · split
    · exact (rch_take _ _ _).trans ((rch_adv _).trans (rch_short hf _ _))
    · split
      · exact (rch_take _ _ _).trans ((rch_adv _).trans (rch_short hf _ _))
      · exact (rch_take _ _ _).trans (rch_long hf _)
omit hf in
theorem rch_fact (k : Int) (q : PS) : Rch q.T (factG k q).2.T := (rch_take _ _ _).trans ((rch_take _ _ _).trans (rch_take _ _ _))
omit hf in
theorem rch_version (q : PS) : Rch q.T (versionG q).2.T := (rch_take _ _ _).trans ((rch_take _ _ _).trans (rch_take _ _ _))
theorem rch_cond (b : Bool) (q : PS) : Rch q.T (condG b f q).2.T := by
  unfold condG
  have h := rch_take 1 [] q
  split
  · exact rch_list hf b q
  · dsimp only
    split
    · exact h
    · split
      · exact h.trans (rch_fact _ _)
      · split
        · exact h.trans (rch_take _ _ _)
        · split
          · exact h.trans (rch_version _)
          · split
            · split
              · exact h.trans (rch_fail _ _)
              · exact h.trans (hf _)
            · exact h.trans (rch_fail _ _)
end
theorem rch_condT : ∀ (n : Nat) (q : PS), Rch q.T (condT n q).2.T
  | 0, q => rch_cond (f := fun q => (CT.z, q)) (fun q => .refl _) true q
  | n + 1, q => rch_cond (rch_condT n) false q
section
variable {b : Bool} {f : PS → CT × PS} {q : PS}
theorem cg_list (h : isT 3 [40] q = true) : condG b f q = listG b f q := if_pos h
variable (h : isT 3 [40] q = false)
include h
theorem cg_always (h1 : ((takeT 1 [] q).1 == wAlways) = true) : condG b f q = (.mk 1 [] [] [], (takeT 1 [] q).2) := by
  unfold condG; rw [if_neg (by rw [h]; simp)]; exact if_pos h1
variable (h1 : ((takeT 1 [] q).1 == wAlways) = false)
include h1
theorem cg_fact (h2 : ((takeT 1 [] q).1 == wFact) = true) (h3 : ((takeT 1 [] q).1 == wSetting) = false) : condG b f q = factG 2 (takeT 1 [] q).2 := by
  unfold condG; rw [if_neg (by rw [h]; simp)]; dsimp only; rw [if_neg (by rw [h1]; simp), if_pos (by rw [h2]; rfl), if_neg (by rw [h3]; simp)]
theorem cg_setting (h3 : ((takeT 1 [] q).1 == wSetting) = true) : condG b f q = factG 3 (takeT 1 [] q).2 := by
  unfold condG; rw [if_neg (by rw [h]; simp)]; dsimp only; rw [if_neg (by rw [h1]; simp), if_pos (by rw [h3]; simp), if_pos h3]
variable (h2 : ((takeT 1 [] q).1 == wFact) = false) (h3 : ((takeT 1 [] q).1 == wSetting) = false)
include h2 h3
theorem cg_has (h4 : ((takeT 1 [] q).1 == wHas) = true) : condG b f q = (.mk 4 (takeT 1 [] (takeT 1 [] q).2).1 [] [], (takeT 1 [] (takeT 1 [] q).2).2) := by
  unfold condG; rw [if_neg (by rw [h]; simp)]; dsimp only; rw [if_neg (by rw [h1]; simp), if_neg (by rw [h2, h3]; simp), if_pos h4]
variable (h4 : ((takeT 1 [] q).1 == wHas) = false)
include h4
theorem cg_version (h5 : ((takeT 1 [] q).1 == wVersion) = true) : condG b f q = versionG (takeT 1 [] q).2 := by
  unfold condG; rw [if_neg (by rw [h]; simp)]; dsimp only; rw [if_neg (by rw [h1]; simp), if_neg (by rw [h2, h3]; simp), if_neg (by rw [h4]; simp), if_pos h5]
variable (h5 : ((takeT 1 [] q).1 == wVersion) = false)
include h5
theorem cg_not0 (h6 : ((takeT 1 [] q).1 == wNot) = true) (hb : b = true) : condG b f q = (CT.z, failT (hd q.T).a (takeT 1 [] q).2) := by
  unfold condG; rw [if_neg (by rw [h]; simp)]; dsimp only; rw [if_neg (by rw [h1]; simp), if_neg (by rw [h2, h3]; simp), if_neg (by rw [h4]; simp), if_neg (by rw [h5]; simp), if_pos h6, if_pos hb]
theorem cg_not (h6 : ((takeT 1 [] q).1 == wNot) = true) (hb : b = false) : condG b f q = (.mk 6 [] [] [(f (takeT 1 [] q).2).1], (f (takeT 1 [] q).2).2) := by
  unfold condG; rw [if_neg (by rw [h]; simp)]; dsimp only; rw [if_neg (by rw [h1]; simp), if_neg (by rw [h2, h3]; simp), if_neg (by rw [h4]; simp), if_neg (by rw [h5]; simp), if_pos h6, if_neg (by rw [hb]; simp)]
theorem cg_else (h6 : ((takeT 1 [] q).1 == wNot) = false) : condG b f q = (CT.z, failT (hd q.T).a (takeT 1 [] q).2) := by
  unfold condG; rw [if_neg (by rw [h]; simp)]; dsimp only; rw [if_neg (by rw [h1]; simp), if_neg (by rw [h2, h3]; simp), if_neg (by rw [h4]; simp), if_neg (by rw [h5]; simp), if_neg (by rw [h6]; simp)]
end
section
variable {f : PS → CT × PS} {q : PS}
theorem lg_last : listG true f q = (CT.z, failT (hd q.T).a q) := rfl
theorem lg_and (h : (!(isT 1 wAnd (takeT 3 [40] q).2)) = false) : listG false f q = shortG f 7 (advS (takeT 3 [40] q).2) := by
  unfold listG; rw [if_neg (by simp), if_pos (by simpa using h)]
theorem lg_or (h : (!(isT 1 wAnd (takeT 3 [40] q).2)) = true) (h2 : (!(isT 1 wOr (takeT 3 [40] q).2)) = false) : listG false f q = shortG f 8 (advS (takeT 3 [40] q).2) := by
  unfold listG; rw [if_neg (by simp), if_neg (by simpa using h), if_pos (by simpa using h2)]
theorem lg_long (h : (!(isT 1 wAnd (takeT 3 [40] q).2)) = true) (h2 : (!(isT 1 wOr (takeT 3 [40] q).2)) = true) : listG false f q = longG f (takeT 3 [40] q).2 := by
  unfold listG; rw [if_neg (by simp), if_neg (by simpa using h), if_neg (by simpa using h2)]
theorem sh_1 {k : Int} (h : (!(isT 3 [41] q)) = true) : shortG f k q = (.mk k [] [] [(f q).1], (takeT 3 [41] (f q).2).2) := if_pos h
theorem sh_0 {k : Int} (h : (!(isT 3 [41] q)) = false) : shortG f k q = (.mk k [] [] [], (takeT 3 [41] q).2) := if_neg (by rw [h]; simp)
theorem mo_go {x : List UInt8} {n : Nat} {l : List CT} {M : List CT × PS} (hn : 0 < n) (h : isT 1 x q = true) (hm : moreG f x n l q = M) : moreG f x (n - 1) (l ++ [(f (advS q)).1]) (f (advS q)).2 = M := by
  obtain ⟨m, rfl⟩ : ∃ m, n = m + 1 := ⟨n - 1, by omega⟩
  unfold moreG at hm; rw [if_pos h] at hm; exact hm
theorem mo_stop {x : List UInt8} {n : Nat} {l : List CT} {M : List CT × PS} (h : isT 1 x q = false) (hm : moreG f x n l q = M) : M = (l, q) := by
  cases n with
  | zero => exact hm.symm
  | succ n => unfold moreG at hm; rw [if_neg (by rw [h]; simp)] at hm; exact hm.symm
theorem lo_eq {l : List CT} {p : PS} (h : moreG f (hd (f q).2.T).t (hd (f q).2.T :: (f q).2.T).length [(f q).1] (signT (f q).2) = (l, p)) : longG f q = (.mk (kindT (hd (f q).2.T).t) [] [] l, (takeT 3 [41] p).2) := by
  unfold longG; dsimp only; rw [h]
theorem sign_1 {q : PS} (h : (decide (q.w < 0) && ((hd q.T).k != 1 || (!((hd q.T).t == wAnd) && !((hd q.T).t == wOr)))) = true) : signT q = failT (hd q.T).a q := if_pos h
theorem sign_0 {q : PS} (h : (decide (q.w < 0) && ((hd q.T).k != 1 || (!((hd q.T).t == wAnd) && !((hd q.T).t == wOr)))) = false) : signT q = q := if_neg (by rw [h]; simp)
theorem adv_short {s : List UInt8} {x : List UInt8} (g : Good s q.T) (h : isT 1 x q = true) : (advS q).T.length < q.T.length := by
  have hk : ((hd q.T).k == 1) = true := by
    unfold isT at h; simp only [Bool.and_eq_true] at h; exact h.1.2
  obtain ⟨T, w⟩ := q
  match T, g, hk with
  | [x], g, hk => exact (good_last g (.inl hk)).elim
  | x :: y :: l, g, hk => simp [advS, adv]
end
theorem LeG.aggLast (a b c : C) (sz : Nat) : LeG (.agg [a, b, c, .d .nilsl]) (.agg [a, b, c, .d (.vec sz [])]) := fun g h w v hx => by
  cases hx with | agg _ vs hl hx =>
  refine .agg _ _ hl (fun i q v hc hv => ?_)
  match i with
  | 0 => exact hx 0 q v hc hv
  | 1 => exact hx 1 q v hc hv
  | 2 => exact hx 2 q v hc hv
  | 3 =>
    simp at hc; subst hc
    have h1 := hx 3 _ v rfl hv
    cases h1 with | d _ _ h1 => cases h1 with | nilsl => exact .d _ _ (.empty _ _ _)
  | i + 4 => simp at hc
theorem not_v (k : Int) (c : CT) : V.agg [.d (.int .i64 k), .d (.str []), .d (.str []), .d (.vec 4 [[.int .i64 c.k, .str c.n, .str c.v, .vec 4 (CT.ds c.l)]])] = ctV (.mk k [] [] [c]) := by
  show _ = V.agg [.d (.int .i64 k), .d (.str []), .d (.str []), .d (.vec 4 [c.d])]
  rw [ct_d]
theorem ct_some (c : CT) : some (4, [[D.int .i64 c.k, .str c.n, .str c.v, .vec 4 (CT.ds c.l)]]) = some (4, [c].map CT.d) := by
  show _ = some (4, [c.d]); rw [ct_d]
theorem ct_snoc (l : List CT) (c : CT) : l.map CT.d ++ [[D.int .i64 c.k, .str c.n, .str c.v, .vec 4 (CT.ds c.l)]] = (l ++ [c]).map CT.d := by
  rw [List.map_append]; show _ = l.map CT.d ++ [c.d]; rw [ct_d]
theorem long_v (k : Int) (l : List CT) : V.agg [.d (.int .i64 k), .d (.str []), .d (.str []), .d (.vec 4 (l.map CT.d))] = ctV (.mk k [] [] l) := by
  show _ = V.agg [.d (.int .i64 k), .d (.str []), .d (.str []), .d (.vec 4 (CT.ds l))]
  rw [ds_map]
end Go.Proofs.YtjibdoagpegniaaGreatDoor

set_option linter.unusedVariables false
set_option linter.unusedSimpArgs false
set_option maxRecDepth 100000
set_option maxHeartbeats 4000000
namespace Go.Proofs.YtjibdoagpegniaaGreatDoor
open Go
open Go.RowKit
attribute [local irreducible] rangeB pathB nameB valueB visit visits checkP quoteL qAt nextT skipB wordE takeT failT isT adv condT condG listG shortG longG moreG signT kindT
theorem pc_adv (s : List UInt8) (hs : s.length ≤ 4000) (q : PS) (hg : Gd s q.T) : HCall Tryz.prog J 14 [.one (.ptr 0 0)] [[.d (.str s), .d (.int .i64 ((hd (q).T).e : Int)), .d (.int .i64 (hd (q).T).k), .d (.int .i64 ((hd (q).T).a : Int)), .d (.str (hd (q).T).t), .d (.int .i64 (q).w)]] [] [] (isH (.tup []) [[.d (.str s), .d (.int .i64 ((hd (advS q).T).e : Int)), .d (.int .i64 (hd (advS q).T).k), .d (.int .i64 ((hd (advS q).T).a : Int)), .d (.str (hd (advS q).T).t), .d (.int .i64 (advS q).w)]] [] []) := by
  have h := pc_advance s (hd q.T).e (hd q.T).k ((hd q.T).a : Int) q.w (hd q.T).t hs (good_hd hg.1).2
  rw [(good_hd hg.1).1] at h
  exact h
theorem pc_is (s : List UInt8) (q : PS) (kd : Int) (x : List UInt8) :
  HCall Tryz.prog J 45 ([.one (.ptr 0 0), .one (.d (.int .i64 kd)), .one (.d (.str x))]) ([[.d (.str s), .d (.int .i64 ((hd (q).T).e : Int)), .d (.int .i64 (hd (q).T).k), .d (.int .i64 ((hd (q).T).a : Int)), .d (.str (hd (q).T).t), .d (.int .i64 (q).w)]]) ([]) ([]) (isH (.one (.d (.bool (isT kd x q)))) ([[.d (.str s), .d (.int .i64 ((hd (q).T).e : Int)), .d (.int .i64 (hd (q).T).k), .d (.int .i64 ((hd (q).T).a : Int)), .d (.str (hd (q).T).t), .d (.int .i64 (q).w)]]) ([]) ([])) := by
 refine HCall.ofD tOk ⟨1, 0, 0⟩ (fn := Tryz.f45) Tryz.func45 (by kernel_rfl) rfl (Nat.le_of_ble_eq_true rfl) (fun E => ?_)
 refine W.seq ?_
 refine W.region ?_
 refine S.pure tOk zOk rfl rfl rfl ?_
 refine thenK_n ?_
 refine W.seq ?_
 refine W.region ?_
 refine S.pure tOk zOk rfl rfl rfl ?_
 refine S.pure tOk zOk rfl rfl rfl ?_
 refine S.pure tOk zOk rfl rfl rfl ?_
 refine S.pure tOk zOk rfl rfl rfl ?_
 refine S.pure tOk zOk rfl rfl rfl ?_
 refine S.pure tOk zOk rfl rfl rfl ?_
 refine S.pureG tOk zOk rfl rfl tg (fun _ => rfl) rfl ?_
 refine S.pureG tOk zOk rfl rfl tg (fun _ => rfl) rfl ?_
 refine S.pureG tOk zOk rfl rfl tg (fun _ => rfl) rfl ?_
 refine S.pureG tOk zOk rfl rfl tg (fun _ => rfl) rfl ?_
 refine S.pureG tOk zOk rfl rfl tg (fun _ => rfl) rfl ?_
 refine S.pureG tOk zOk rfl rfl tg (fun _ => rfl) rfl ?_
 refine S.pureG tOk zOk rfl rfl tg (fun _ => rfl) rfl ?_
 refine S.pickAnd tOk zOk rfl rfl tg ?_
 refine S.pure tOk zOk rfl rfl rfl ?_
 refine S.pureG tOk zOk rfl rfl tg (fun _ => rfl) rfl ?_
 refine S.pureG tOk zOk rfl rfl tg (fun _ => rfl) rfl ?_
 refine S.pureG tOk zOk rfl rfl tg (fun _ => rfl) rfl ?_
 refine S.pureG tOk zOk rfl rfl tg (fun _ => rfl) rfl ?_
 refine S.pureG tOk zOk rfl rfl tg (fun _ => rfl) rfl ?_
 refine S.pureG tOk zOk rfl rfl tg (fun _ => rfl) rfl ?_
 refine S.pureG tOk zOk rfl rfl tg (fun _ => rfl) rfl ?_
 refine S.pickAnd tOk zOk rfl rfl tg ?_
 refine S.pure tOk zOk rfl rfl rfl ?_
 refine thenK_n ?_
 refine W.ret ?_
 exact ⟨_, rfl, rfl, LeG.of_force rfl (by unfold isT; rfl), rfl, rfl, rfl⟩
theorem pc_fail (s : List UInt8) (q : PS) (a : Int) :
  HCall Tryz.prog J 16 ([.one (.ptr 0 0), .one (.d (.int .i64 a))]) ([[.d (.str s), .d (.int .i64 ((hd (q).T).e : Int)), .d (.int .i64 (hd (q).T).k), .d (.int .i64 ((hd (q).T).a : Int)), .d (.str (hd (q).T).t), .d (.int .i64 (q).w)]]) ([]) ([]) (isH (.tup []) ([[.d (.str s), .d (.int .i64 ((hd (failT a q).T).e : Int)), .d (.int .i64 (hd (failT a q).T).k), .d (.int .i64 ((hd (failT a q).T).a : Int)), .d (.str (hd (failT a q).T).t), .d (.int .i64 (failT a q).w)]]) ([]) ([])) := by
 refine HCall.ofD tOk ⟨1, 0, 0⟩ (fn := Tryz.f16) Tryz.func16 (by kernel_rfl) rfl (Nat.le_of_ble_eq_true rfl) (fun E => ?_)
 refine W.seq ?_
 refine W.region ?_
 refine S.pure tOk zOk rfl rfl rfl ?_
 refine S.pure tOk zOk rfl rfl rfl ?_
 refine S.pure tOk zOk rfl rfl rfl ?_
 refine S.pure tOk zOk rfl rfl rfl ?_
 refine S.pure tOk zOk rfl rfl rfl ?_
 refine thenK_n ?_
 refine W.cond rfl (fun c1 => ?_) (fun c1 => ?_)
 ·skip
  refine W.region ?_
  refine S.pure tOk zOk rfl rfl rfl ?_
  refine S.pure tOk zOk rfl rfl rfl ?_
  refine S.pure tOk zOk rfl rfl rfl ?_
  refine S.pure tOk zOk rfl rfl rfl ?_
  refine S.store tOk rfl rfl rfl rfl rfl rfl rfl rfl ?_
  exact ⟨_, rfl, rfl, LeG.refl _, (by rw [show failT a q = ⟨q.T, a⟩ from fail_1 c1]; rfl), rfl, rfl⟩
 ·skip
  refine W.skip ?_
  exact ⟨_, rfl, rfl, LeG.refl _, (by rw [show failT a q = q from fail_0 c1]; rfl), rfl, rfl⟩
theorem pc_take (s : List UInt8) (hs : s.length ≤ 4000) (q : PS) (hg : Gd s q.T) (kd : Int) (x : List UInt8) :
  HCall Tryz.prog J 47 ([.one (.ptr 0 0), .one (.d (.int .i64 kd)), .one (.d (.str x))]) ([[.d (.str s), .d (.int .i64 ((hd (q).T).e : Int)), .d (.int .i64 (hd (q).T).k), .d (.int .i64 ((hd (q).T).a : Int)), .d (.str (hd (q).T).t), .d (.int .i64 (q).w)]]) ([]) ([]) (isH (.one (.d (.str (takeT kd x q).1))) ([[.d (.str s), .d (.int .i64 ((hd ((takeT kd x q).2).T).e : Int)), .d (.int .i64 (hd ((takeT kd x q).2).T).k), .d (.int .i64 ((hd ((takeT kd x q).2).T).a : Int)), .d (.str (hd ((takeT kd x q).2).T).t), .d (.int .i64 ((takeT kd x q).2).w)]]) ([]) ([])) := by
 refine HCall.ofD tOk ⟨1, 0, 0⟩ (fn := Tryz.f47) Tryz.func47 (by kernel_rfl) rfl (Nat.le_of_ble_eq_true rfl) (fun E => ?_)
 refine W.seq ?_
 refine W.region ?_
 refine S.pure tOk zOk rfl rfl rfl ?_
 refine thenK_n ?_
 refine W.seq ?_
 refine W.seq ?_
 refine W.region ?_
 refine S.pure tOk zOk rfl rfl rfl ?_
 refine S.pure tOk zOk rfl rfl rfl ?_
 refine S.pure tOk zOk rfl rfl rfl ?_
 refine S.pure tOk zOk rfl rfl rfl ?_
 refine S.pure tOk zOk rfl rfl rfl ?_
 refine thenK_n ?_
 refine W.cond rfl (fun c1 => ?_) (fun c1 => ?_)
 ·skip
  refine W.seq ?_
  refine W.region ?_
  refine S.pure tOk zOk rfl rfl rfl ?_
  refine thenK_n ?_
  refine W.ret ?_
  refine thenK_r ?_
  exact ⟨_, rfl, rfl, LeG.of_force rfl (by rw [take_0 c1]; rfl), (by rw [take_0 c1]; rfl), rfl, rfl⟩
 ·skip
  refine W.skip ?_
  refine thenK_n ?_
  refine W.seq ?_
  refine W.seq ?_
  refine W.region ?_
  refine S.pure tOk zOk rfl rfl rfl ?_
  refine S.pure tOk zOk rfl rfl rfl ?_
  refine S.pure tOk zOk rfl rfl rfl ?_
  refine S.pure tOk zOk rfl rfl rfl ?_
  refine S.pure tOk zOk rfl rfl rfl ?_
  refine S.pure tOk zOk rfl rfl rfl ?_
  refine S.pure tOk zOk rfl rfl rfl ?_
  refine S.pure tOk zOk rfl rfl rfl ?_
  refine S.pureG tOk zOk rfl rfl tg (fun _ => rfl) rfl ?_
  refine S.pureG tOk zOk rfl rfl tg (fun _ => rfl) rfl ?_
  refine S.pureG tOk zOk rfl rfl tg (fun _ => rfl) rfl ?_
  refine S.pureG tOk zOk rfl rfl tg (fun _ => rfl) rfl ?_
  refine S.pureG tOk zOk rfl rfl tg (fun _ => rfl) rfl ?_
  refine S.pureG tOk zOk rfl rfl tg (fun _ => rfl) rfl ?_
  refine S.pureG tOk zOk rfl rfl tg (fun _ => rfl) rfl ?_
  refine S.pureG tOk zOk rfl rfl tg (fun _ => rfl) rfl ?_
  refine S.pureG tOk zOk rfl rfl tg (fun _ => rfl) rfl ?_
  refine S.pureG tOk zOk rfl rfl tg (fun _ => rfl) rfl ?_
  refine S.pickAndG tOk zOk rfl rfl rfl tg tg ?_
  refine S.pickOr tOk zOk rfl rfl tg ?_
  refine thenK_n ?_
  refine W.cond rfl (fun c2 => ?_) (fun c2 => ?_)
  ·skip
   refine W.seq ?_
   refine W.region ?_
   refine S.pure tOk zOk rfl rfl rfl ?_
   refine S.pure tOk zOk rfl rfl rfl ?_
   refine S.pure tOk zOk rfl rfl rfl ?_
   refine S.pure tOk zOk rfl rfl rfl ?_
   refine S.pure tOk zOk rfl rfl rfl ?_
   refine S.pure tOk zOk rfl rfl rfl ?_
   refine S.pure tOk zOk rfl rfl rfl ?_
   refine S.pure tOk zOk rfl rfl rfl ?_
   refine S.store tOk rfl rfl rfl rfl rfl rfl rfl rfl ?_
   refine thenK_n ?_
   refine W.seq ?_
   refine W.region ?_
   refine S.pure tOk zOk rfl rfl rfl ?_
   refine thenK_n ?_
   refine W.ret ?_
   refine thenK_r ?_
   exact ⟨_, rfl, rfl, LeG.of_force rfl (by rw [take_1 c1 c2]; rfl), (by rw [take_1 c1 c2]; rfl), rfl, rfl⟩
  ·skip
   refine W.skip ?_
   refine thenK_n ?_
   refine W.seq ?_
   refine W.region ?_
   refine S.pure tOk zOk rfl rfl rfl ?_
   refine S.pure tOk zOk rfl rfl rfl ?_
   refine S.pure tOk zOk rfl rfl rfl ?_
   refine S.pure tOk zOk rfl rfl rfl ?_
   refine S.pure tOk zOk rfl rfl rfl ?_
   refine S.pure tOk zOk rfl rfl rfl ?_
   refine thenK_n ?_
   refine W.seq ?_
   refine W.region ?_
   refine S.pure tOk zOk rfl rfl rfl ?_
   refine S.hcallD rfl rfl rfl rfl ((pc_adv s hs q hg).frameD [0] [] [] rfl rfl rfl rfl rfl rfl rfl rfl rfl) ?_
   refine thenK_n ?_
   refine W.seq ?_
   refine W.region ?_
   refine S.pure tOk zOk rfl rfl rfl ?_
   refine S.pure tOk zOk rfl rfl rfl ?_
   refine thenK_n ?_
   refine W.ret ?_
   exact ⟨_, rfl, rfl, LeG.of_force rfl (by rw [take_2 c1 c2]), (by rw [take_2 c1 c2]; rfl), rfl, rfl⟩
def CondC (s : List UInt8) (m : Nat) : Prop := ∀ (lv : Nat) (q : PS), lv + m = 100 → Gd s q.T → HCall Tryz.prog J 15 [.one (.ptr 0 0), .one (.d (.int .i64 (lv : Int)))] [[.d (.str s), .d (.int .i64 ((hd (q).T).e : Int)), .d (.int .i64 (hd (q).T).k), .d (.int .i64 ((hd (q).T).a : Int)), .d (.str (hd (q).T).t), .d (.int .i64 (q).w)]] [] [] (isH (ctV (condT m q).1) [[.d (.str s), .d (.int .i64 ((hd ((condT m q).2).T).e : Int)), .d (.int .i64 (hd ((condT m q).2).T).k), .d (.int .i64 ((hd ((condT m q).2).T).a : Int)), .d (.str (hd ((condT m q).2).T).t), .d (.int .i64 ((condT m q).2).w)]] [] [])
def ListC (s : List UInt8) (m : Nat) : Prop := ∀ (lv : Nat) (q : PS), lv + m = 100 → Gd s q.T → HCall Tryz.prog J 46 [.one (.ptr 0 0), .one (.d (.int .i64 (lv : Int)))] [[.d (.str s), .d (.int .i64 ((hd (q).T).e : Int)), .d (.int .i64 (hd (q).T).k), .d (.int .i64 ((hd (q).T).a : Int)), .d (.str (hd (q).T).t), .d (.int .i64 (q).w)]] [] [] (isH (ctV (listG (m == 0) (condF m) q).1) [[.d (.str s), .d (.int .i64 ((hd ((listG (m == 0) (condF m) q).2).T).e : Int)), .d (.int .i64 (hd ((listG (m == 0) (condF m) q).2).T).k), .d (.int .i64 ((hd ((listG (m == 0) (condF m) q).2).T).a : Int)), .d (.str (hd ((listG (m == 0) (condF m) q).2).T).t), .d (.int .i64 ((listG (m == 0) (condF m) q).2).w)]] [] [])
theorem step_n {n m lv : Nat} (h : lv + n = 100) (h2 : n = m + 1) : lv + 1 + m = 100 := by omega
theorem n_pos {n lv : Nat} (h : lv + n = 100) (h2 : decide ((lv : Int) ≥ 100) = false) : ∃ m, n = m + 1 := ⟨n - 1, by simp at h2; omega⟩
theorem n_zero {n lv : Nat} (h : lv + n = 100) (h2 : decide ((lv : Int) ≥ 100) = true) : n = 0 := by simp at h2; omega
theorem pc_conds (s : List UInt8) (hs : s.length ≤ 4000) (n : Nat) (il : ListC s n) (ih : ∀ m, n = m + 1 → CondC s m) (lv : Nat) (q : PS) (hl : lv + n = 100) (hg : Gd s q.T) :
  HCall Tryz.prog J 15 ([.one (.ptr 0 0), .one (.d (.int .i64 (lv : Int)))]) ([[.d (.str s), .d (.int .i64 ((hd (q).T).e : Int)), .d (.int .i64 (hd (q).T).k), .d (.int .i64 ((hd (q).T).a : Int)), .d (.str (hd (q).T).t), .d (.int .i64 (q).w)]]) ([]) ([]) (isH (ctV (condT n q).1) ([[.d (.str s), .d (.int .i64 ((hd ((condT n q).2).T).e : Int)), .d (.int .i64 (hd ((condT n q).2).T).k), .d (.int .i64 ((hd ((condT n q).2).T).a : Int)), .d (.str (hd ((condT n q).2).T).t), .d (.int .i64 ((condT n q).2).w)]]) ([]) ([])) := by
 refine HCall.ofD tOk ⟨1, 0, 0⟩ (fn := Tryz.f15) Tryz.func15 (by kernel_rfl) rfl (Nat.le_of_ble_eq_true rfl) (fun E => ?_)
 refine W.seq ?_
 refine W.region ?_
 refine S.alloc tOk rfl rfl rfl rfl ?_
 refine thenK_n ?_
 refine W.seq ?_
 refine W.seq ?_
 refine W.region ?_
 refine S.pure tOk zOk rfl rfl rfl ?_
 refine S.hcallD rfl rfl rfl rfl ((pc_is s q 3 [40]).frameD [0] [] [] rfl rfl rfl rfl rfl rfl rfl rfl rfl) ?_
 refine thenK_n ?_
 refine W.cond rfl (fun c1 => ?_) (fun c1 => ?_)
 ·skip
  refine W.seq ?_
  refine W.region ?_
  refine S.pure tOk zOk rfl rfl rfl ?_
  refine S.pure tOk zOk rfl rfl rfl ?_
  refine S.hcallD rfl rfl rfl rfl ((il lv q hl hg).frameD [0] [] [] rfl rfl rfl rfl rfl rfl rfl rfl rfl) ?_
  refine S.store tOk rfl rfl rfl rfl rfl rfl rfl rfl ?_
  refine thenK_n ?_
  refine W.ret ?_
  refine thenK_r ?_
  exact ⟨_, rfl, rfl, (by rw [condT_eq _ q, cg_list c1]; exact LeG.refl _), (by rw [condT_eq _ q, cg_list c1]; rfl), rfl, rfl⟩
 ·skip
  refine W.skip ?_
  refine thenK_n ?_
  refine W.seq ?_
  refine W.region ?_
  refine S.pure tOk zOk rfl rfl rfl ?_
  refine S.pure tOk zOk rfl rfl rfl ?_
  refine S.pure tOk zOk rfl rfl rfl ?_
  refine S.pure tOk zOk rfl rfl rfl ?_
  refine S.pure tOk zOk rfl rfl rfl ?_
  refine S.pure tOk zOk rfl rfl rfl ?_
  refine thenK_n ?_
  refine W.seq ?_
  refine W.seq ?_
  refine W.region ?_
  refine S.pure tOk zOk rfl rfl rfl ?_
  refine S.hcallD rfl rfl rfl rfl ((pc_take s hs q hg 1 []).frameD [0] [] [] rfl rfl rfl rfl rfl rfl rfl rfl rfl) ?_
  refine S.pure tOk zOk rfl rfl rfl ?_
  refine thenK_n ?_
  refine W.seq ?_
  refine W.region ?_
  refine S.pure tOk zOk rfl rfl rfl ?_
  refine thenK_n ?_
  refine W.block ?_
  refine W.seq ?_
  refine W.region ?_
  refine S.pure tOk zOk rfl rfl rfl ?_
  refine S.pure tOk zOk rfl rfl rfl ?_
  refine thenK_n ?_
  refine W.cond rfl (fun c2 => ?_) (fun c2 => ?_)
  ·skip
   refine W.seq ?_
   refine W.region ?_
   refine S.pure tOk zOk rfl rfl rfl ?_
   refine S.store tOk rfl rfl rfl rfl rfl rfl rfl rfl ?_
   refine thenK_n ?_
   refine W.ret ?_
   refine blockK_r ?_
   refine thenK_r ?_
   exact ⟨_, rfl, rfl, (by rw [condT_eq _ q, cg_always c1 c2]; exact (LeG.aggLast _ _ _ 4)), (by rw [condT_eq _ q, cg_always c1 c2]; rfl), rfl, rfl⟩
  ·skip
   refine W.seq ?_
   refine W.seq ?_
   refine W.region ?_
   refine S.pure tOk zOk rfl rfl rfl ?_
   refine S.pure tOk zOk rfl rfl rfl ?_
   refine thenK_n ?_
   refine W.cond rfl (fun c3 => ?_) (fun c3 => ?_)
   ·skip
    refine W.skip ?_
    refine thenK_n ?_
    refine W.cond rfl (fun c4 => ?_) (fun c4 => ?_)
    ·skip
     refine W.seq ?_
     refine W.region ?_
     refine S.pure tOk zOk rfl rfl rfl ?_
     refine S.hcallD rfl rfl rfl rfl ((pc_take s hs (takeT 1 [] q).2 (hg.go (rch_take 1 [] q)) 1 []).frameD [0] [] [] rfl rfl rfl rfl rfl rfl rfl rfl rfl) ?_
     refine S.pure tOk zOk rfl rfl rfl ?_
     refine S.alloc tOk rfl rfl rfl rfl ?_
     refine S.store tOk rfl rfl rfl rfl rfl rfl rfl rfl ?_
     refine thenK_n ?_
     refine W.seq ?_
     refine W.seq ?_
     refine W.region ?_
     refine S.pure tOk zOk rfl rfl rfl ?_
     refine S.pure tOk zOk rfl rfl rfl ?_
     refine thenK_n ?_
     refine W.cond rfl (fun c5 => ?_) (fun c5 => ?_)
     · exact absurd (fact_set c3) (by rw [show ((takeT 1 [] q).1 == wSetting) = true from c5]; simp)
     ·skip
      refine W.skip ?_
      refine thenK_n ?_
      refine W.seq ?_
      refine W.region ?_
      refine S.pure tOk zOk rfl rfl rfl ?_
      refine S.hcallD rfl rfl rfl rfl ((pc_take s hs (takeT 1 [] (takeT 1 [] q).2).2 (Gd.go (hg.go (rch_take 1 [] q)) (rch_take 1 [] (takeT 1 [] q).2)) 3 [61]).frameD [0] [] [] rfl rfl rfl rfl rfl rfl rfl rfl rfl) ?_
      refine thenK_n ?_
      refine W.seq ?_
      refine W.region ?_
      refine S.pure tOk zOk rfl rfl rfl ?_
      refine S.hcallD rfl rfl rfl rfl ((pc_take s hs (takeT 3 [61] (takeT 1 [] (takeT 1 [] q).2).2).2 (Gd.go (Gd.go (hg.go (rch_take 1 [] q)) (rch_take 1 [] (takeT 1 [] q).2)) (rch_take 3 [61] (takeT 1 [] (takeT 1 [] q).2).2)) 2 []).frameD [0] [] [] rfl rfl rfl rfl rfl rfl rfl rfl rfl) ?_
      refine S.pure tOk zOk rfl rfl rfl ?_
      refine S.store tOk rfl rfl rfl rfl rfl rfl rfl rfl ?_
      refine thenK_n ?_
      refine W.seq ?_
      refine W.region ?_
      refine S.pure tOk zOk rfl rfl rfl ?_
      refine S.store tOk rfl rfl rfl rfl rfl rfl rfl rfl ?_
      refine thenK_n ?_
      refine W.ret ?_
      refine blockK_r ?_
      refine thenK_r ?_
      exact ⟨_, rfl, rfl, (by rw [condT_eq _ q, cg_fact c1 c2 c3 c5]; exact (LeG.aggLast _ _ _ 4)), (by rw [condT_eq _ q, cg_fact c1 c2 c3 c5]; rfl), rfl, rfl⟩
    · exact absurd c4 (by rw [c3]; simp)
   ·skip
    refine W.region ?_
    refine S.pure tOk zOk rfl rfl rfl ?_
    refine S.pure tOk zOk rfl rfl rfl ?_
    refine thenK_n ?_
    refine W.cond rfl (fun c6 => ?_) (fun c6 => ?_)
    ·skip
     refine W.seq ?_
     refine W.region ?_
     refine S.pure tOk zOk rfl rfl rfl ?_
     refine S.hcallD rfl rfl rfl rfl ((pc_take s hs (takeT 1 [] q).2 (hg.go (rch_take 1 [] q)) 1 []).frameD [0] [] [] rfl rfl rfl rfl rfl rfl rfl rfl rfl) ?_
     refine S.pure tOk zOk rfl rfl rfl ?_
     refine S.alloc tOk rfl rfl rfl rfl ?_
     refine S.store tOk rfl rfl rfl rfl rfl rfl rfl rfl ?_
     refine thenK_n ?_
     refine W.seq ?_
     refine W.seq ?_
     refine W.region ?_
     refine S.pure tOk zOk rfl rfl rfl ?_
     refine S.pure tOk zOk rfl rfl rfl ?_
     refine thenK_n ?_
     refine W.cond rfl (fun c7 => ?_) (fun c7 => ?_)
     ·skip
      refine W.region ?_
      refine S.pure tOk zOk rfl rfl rfl ?_
      refine S.store tOk rfl rfl rfl rfl rfl rfl rfl rfl ?_
      refine thenK_n ?_
      refine W.seq ?_
      refine W.region ?_
      refine S.pure tOk zOk rfl rfl rfl ?_
      refine S.hcallD rfl rfl rfl rfl ((pc_take s hs (takeT 1 [] (takeT 1 [] q).2).2 (Gd.go (hg.go (rch_take 1 [] q)) (rch_take 1 [] (takeT 1 [] q).2)) 3 [61]).frameD [0] [] [] rfl rfl rfl rfl rfl rfl rfl rfl rfl) ?_
      refine thenK_n ?_
      refine W.seq ?_
      refine W.region ?_
      refine S.pure tOk zOk rfl rfl rfl ?_
      refine S.hcallD rfl rfl rfl rfl ((pc_take s hs (takeT 3 [61] (takeT 1 [] (takeT 1 [] q).2).2).2 (Gd.go (Gd.go (hg.go (rch_take 1 [] q)) (rch_take 1 [] (takeT 1 [] q).2)) (rch_take 3 [61] (takeT 1 [] (takeT 1 [] q).2).2)) 2 []).frameD [0] [] [] rfl rfl rfl rfl rfl rfl rfl rfl rfl) ?_
      refine S.pure tOk zOk rfl rfl rfl ?_
      refine S.store tOk rfl rfl rfl rfl rfl rfl rfl rfl ?_
      refine thenK_n ?_
      refine W.seq ?_
      refine W.region ?_
      refine S.pure tOk zOk rfl rfl rfl ?_
      refine S.store tOk rfl rfl rfl rfl rfl rfl rfl rfl ?_
      refine thenK_n ?_
      refine W.ret ?_
      refine blockK_r ?_
      refine thenK_r ?_
      exact ⟨_, rfl, rfl, (by rw [condT_eq _ q, cg_setting c1 c2 c6]; exact (LeG.aggLast _ _ _ 4)), (by rw [condT_eq _ q, cg_setting c1 c2 c6]; rfl), rfl, rfl⟩
     · exact absurd c7 (by rw [c6]; simp)
    ·skip
     refine W.seq ?_
     refine W.region ?_
     refine S.pure tOk zOk rfl rfl rfl ?_
     refine S.pure tOk zOk rfl rfl rfl ?_
     refine thenK_n ?_
     refine W.cond rfl (fun c8 => ?_) (fun c8 => ?_)
     ·skip
      refine W.seq ?_
      refine W.region ?_
      refine S.pure tOk zOk rfl rfl rfl ?_
      refine S.hcallD rfl rfl rfl rfl ((pc_take s hs (takeT 1 [] q).2 (hg.go (rch_take 1 [] q)) 1 []).frameD [0] [] [] rfl rfl rfl rfl rfl rfl rfl rfl rfl) ?_
      refine S.pure tOk zOk rfl rfl rfl ?_
      refine S.store tOk rfl rfl rfl rfl rfl rfl rfl rfl ?_
      refine thenK_n ?_
      refine W.ret ?_
      refine blockK_r ?_
      refine thenK_r ?_
      exact ⟨_, rfl, rfl, (by rw [condT_eq _ q, cg_has c1 c2 c3 c6 c8]; exact (LeG.aggLast _ _ _ 4)), (by rw [condT_eq _ q, cg_has c1 c2 c3 c6 c8]; rfl), rfl, rfl⟩
     ·skip
      refine W.seq ?_
      refine W.region ?_
      refine S.pure tOk zOk rfl rfl rfl ?_
      refine S.pure tOk zOk rfl rfl rfl ?_
      refine thenK_n ?_
      refine W.cond rfl (fun c9 => ?_) (fun c9 => ?_)
      ·skip
       refine W.seq ?_
       refine W.region ?_
       refine S.pure tOk zOk rfl rfl rfl ?_
       refine S.hcallD rfl rfl rfl rfl ((pc_take s hs (takeT 1 [] q).2 (hg.go (rch_take 1 [] q)) 1 []).frameD [0] [] [] rfl rfl rfl rfl rfl rfl rfl rfl rfl) ?_
       refine S.pure tOk zOk rfl rfl rfl ?_
       refine S.alloc tOk rfl rfl rfl rfl ?_
       refine S.store tOk rfl rfl rfl rfl rfl rfl rfl rfl ?_
       refine thenK_n ?_
       refine W.seq ?_
       refine W.region ?_
       refine S.pure tOk zOk rfl rfl rfl ?_
       refine S.hcallD rfl rfl rfl rfl ((pc_take s hs (takeT 1 [] (takeT 1 [] q).2).2 (Gd.go (hg.go (rch_take 1 [] q)) (rch_take 1 [] (takeT 1 [] q).2)) 1 wIn).frameD [0] [] [] rfl rfl rfl rfl rfl rfl rfl rfl rfl) ?_
       refine thenK_n ?_
       refine W.seq ?_
       refine W.region ?_
       refine S.pure tOk zOk rfl rfl rfl ?_
       refine S.hcallD rfl rfl rfl rfl ((pc_take s hs (takeT 1 wIn (takeT 1 [] (takeT 1 [] q).2).2).2 (Gd.go (Gd.go (hg.go (rch_take 1 [] q)) (rch_take 1 [] (takeT 1 [] q).2)) (rch_take 1 wIn (takeT 1 [] (takeT 1 [] q).2).2)) 2 []).frameD [0] [] [] rfl rfl rfl rfl rfl rfl rfl rfl rfl) ?_
       refine S.pure tOk zOk rfl rfl rfl ?_
       refine S.store tOk rfl rfl rfl rfl rfl rfl rfl rfl ?_
       refine thenK_n ?_
       refine W.seq ?_
       refine W.region ?_
       refine S.pure tOk zOk rfl rfl rfl ?_
       refine S.store tOk rfl rfl rfl rfl rfl rfl rfl rfl ?_
       refine thenK_n ?_
       refine W.ret ?_
       refine blockK_r ?_
       refine thenK_r ?_
       exact ⟨_, rfl, rfl, (by rw [condT_eq _ q, cg_version c1 c2 c3 c6 c8 c9]; exact (LeG.aggLast _ _ _ 4)), (by rw [condT_eq _ q, cg_version c1 c2 c3 c6 c8 c9]; rfl), rfl, rfl⟩
      ·skip
       refine W.seq ?_
       refine W.region ?_
       refine S.pure tOk zOk rfl rfl rfl ?_
       refine S.pure tOk zOk rfl rfl rfl ?_
       refine thenK_n ?_
       refine W.cond rfl (fun c10 => ?_) (fun c10 => ?_)
       ·skip
        refine W.seq ?_
        refine W.seq ?_
        refine W.region ?_
        refine S.pure tOk zOk rfl rfl rfl ?_
        refine S.pure tOk zOk rfl rfl rfl ?_
        refine thenK_n ?_
        refine W.cond rfl (fun c11 => ?_) (fun c11 => ?_)
        ·skip
         obtain rfl := n_zero hl c11
         refine W.seq ?_
         refine W.region ?_
         refine S.pure tOk zOk rfl rfl rfl ?_
         refine S.pure tOk zOk rfl rfl rfl ?_
         refine S.hcallD rfl rfl rfl rfl ((pc_fail s (takeT 1 [] q).2 ((hd q.T).a : Int)).frameD [0] [] [] rfl rfl rfl rfl rfl rfl rfl rfl rfl) ?_
         refine thenK_n ?_
         refine W.seq ?_
         refine W.region ?_
         refine S.pure tOk zOk rfl rfl rfl ?_
         refine S.store tOk rfl rfl rfl rfl rfl rfl rfl rfl ?_
         refine thenK_n ?_
         refine W.ret ?_
         refine thenK_r ?_
         refine blockK_r ?_
         refine thenK_r ?_
         exact ⟨_, rfl, rfl, (by rw [condT_eq _ q, cg_not0 (b := (0 == 0)) c1 c2 c3 c6 c8 c9 c10 rfl]; exact (LeG.aggLast _ _ _ 4)), (by rw [condT_eq _ q, cg_not0 (b := (0 == 0)) c1 c2 c3 c6 c8 c9 c10 rfl]; rfl), rfl, rfl⟩
        ·skip
         obtain ⟨m, rfl⟩ := n_pos hl c11
         refine W.skip ?_
         refine thenK_n ?_
         refine W.seq ?_
         refine W.region ?_
         refine S.pure tOk zOk rfl rfl rfl ?_
         refine S.pure tOk zOk rfl rfl rfl ?_
         refine S.pureE tOk zOk rfl rfl (inc_i64 (by omega)) rfl ?_
         refine S.hcallD rfl rfl rfl rfl ((ih m rfl (lv + 1) (takeT 1 [] q).2 (step_n hl rfl) (hg.go (rch_take 1 [] q))).frameD [0] [] [] rfl rfl rfl rfl rfl rfl rfl rfl rfl) ?_
         refine S.slice tOk rfl rfl ?_
         refine S.pure tOk zOk rfl rfl rfl ?_
         refine S.store tOk rfl rfl rfl rfl rfl rfl rfl rfl ?_
         refine thenK_n ?_
         refine W.ret ?_
         refine blockK_r ?_
         refine thenK_r ?_
         exact ⟨_, rfl, rfl, (by rw [condT_eq _ q, cg_not (b := (m + 1 == 0)) c1 c2 c3 c6 c8 c9 c10 rfl]; exact LeG.of_force rfl (not_v 6 _)), (by rw [condT_eq _ q, cg_not (b := (m + 1 == 0)) c1 c2 c3 c6 c8 c9 c10 rfl]; rfl), rfl, rfl⟩
       ·skip
        refine W.skip ?_
        refine blockK_n ?_
        refine thenK_n ?_
        refine W.seq ?_
        refine W.region ?_
        refine S.pure tOk zOk rfl rfl rfl ?_
        refine S.pure tOk zOk rfl rfl rfl ?_
        refine S.hcallD rfl rfl rfl rfl ((pc_fail s (takeT 1 [] q).2 ((hd q.T).a : Int)).frameD [0] [] [] rfl rfl rfl rfl rfl rfl rfl rfl rfl) ?_
        refine thenK_n ?_
        refine W.seq ?_
        refine W.region ?_
        refine S.pure tOk zOk rfl rfl rfl ?_
        refine S.store tOk rfl rfl rfl rfl rfl rfl rfl rfl ?_
        refine thenK_n ?_
        refine W.ret ?_
        exact ⟨_, rfl, rfl, (by rw [condT_eq _ q, cg_else c1 c2 c3 c6 c8 c9 c10]; exact (LeG.aggLast _ _ _ 4)), (by rw [condT_eq _ q, cg_else c1 c2 c3 c6 c8 c9 c10]; rfl), rfl, rfl⟩
end Go.Proofs.YtjibdoagpegniaaGreatDoor

set_option linter.unusedVariables false
set_option linter.unusedSimpArgs false
set_option maxRecDepth 100000
set_option maxHeartbeats 4000000
namespace Go.Proofs.YtjibdoagpegniaaGreatDoor
open Go
open Go.RowKit
attribute [local irreducible] rangeB pathB nameB valueB visit visits checkP quoteL qAt nextT skipB wordE takeT failT isT adv condT condG listG shortG longG moreG signT
theorem pc_lists (s : List UInt8) (hs : s.length ≤ 4000) (n : Nat) (ih : ∀ m, n = m + 1 → CondC s m) (lv : Nat) (q : PS) (hl : lv + n = 100) (hg : Gd s q.T) :
  HCall Tryz.prog J 46 ([.one (.ptr 0 0), .one (.d (.int .i64 (lv : Int)))]) ([[.d (.str s), .d (.int .i64 ((hd (q).T).e : Int)), .d (.int .i64 (hd (q).T).k), .d (.int .i64 ((hd (q).T).a : Int)), .d (.str (hd (q).T).t), .d (.int .i64 (q).w)]]) ([]) ([]) (isH (ctV (listG (n == 0) (condF n) q).1) ([[.d (.str s), .d (.int .i64 ((hd ((listG (n == 0) (condF n) q).2).T).e : Int)), .d (.int .i64 (hd ((listG (n == 0) (condF n) q).2).T).k), .d (.int .i64 ((hd ((listG (n == 0) (condF n) q).2).T).a : Int)), .d (.str (hd ((listG (n == 0) (condF n) q).2).T).t), .d (.int .i64 ((listG (n == 0) (condF n) q).2).w)]]) ([]) ([])) := by
 refine HCall.ofD tOk ⟨1, 0, 0⟩ (fn := Tryz.f46) Tryz.func46 (by kernel_rfl) rfl (Nat.le_of_ble_eq_true rfl) (fun E => ?_)
 refine W.seq ?_
 refine W.region ?_
 refine S.alloc tOk rfl rfl rfl rfl ?_
 refine thenK_n ?_
 refine W.seq ?_
 refine W.seq ?_
 refine W.region ?_
 refine S.pure tOk zOk rfl rfl rfl ?_
 refine S.pure tOk zOk rfl rfl rfl ?_
 refine thenK_n ?_
 refine W.cond rfl (fun c1 => ?_) (fun c1 => ?_)
 ·skip
  obtain rfl := n_zero hl c1
  refine W.seq ?_
  refine W.region ?_
  refine S.pure tOk zOk rfl rfl rfl ?_
  refine S.pure tOk zOk rfl rfl rfl ?_
  refine S.pure tOk zOk rfl rfl rfl ?_
  refine S.pure tOk zOk rfl rfl rfl ?_
  refine S.pure tOk zOk rfl rfl rfl ?_
  refine S.pure tOk zOk rfl rfl rfl ?_
  refine S.hcallD rfl rfl rfl rfl ((pc_fail s q ((hd q.T).a : Int)).frameD [0] [] [] rfl rfl rfl rfl rfl rfl rfl rfl rfl) ?_
  refine thenK_n ?_
  refine W.seq ?_
  refine W.region ?_
  refine S.pure tOk zOk rfl rfl rfl ?_
  refine S.store tOk rfl rfl rfl rfl rfl rfl rfl rfl ?_
  refine thenK_n ?_
  refine W.ret ?_
  refine thenK_r ?_
  exact ⟨_, rfl, rfl, (by rw [show listG (0 == 0) (condF 0) q = _ from lg_last]; exact (LeG.aggLast _ _ _ 4)), (by rw [show listG (0 == 0) (condF 0) q = _ from lg_last]; rfl), rfl, rfl⟩
 ·skip
  obtain ⟨m, rfl⟩ := n_pos hl c1
  refine W.skip ?_
  refine thenK_n ?_
  refine W.seq ?_
  refine W.region ?_
  refine S.pure tOk zOk rfl rfl rfl ?_
  refine S.hcallD rfl rfl rfl rfl ((pc_take s hs q hg 3 [40]).frameD [0] [] [] rfl rfl rfl rfl rfl rfl rfl rfl rfl) ?_
  refine thenK_n ?_
  refine W.seq ?_
  refine W.seq ?_
  refine W.region ?_
  refine S.pure tOk zOk rfl rfl rfl ?_
  refine S.pure tOk zOk rfl rfl rfl ?_
  refine thenK_n ?_
  refine W.block ?_
  refine W.rounds 3 ?_
  refine WR.succ ?_
  refine W.seq ?_
  refine W.region ?_
  refine S.pure tOk zOk rfl rfl rfl ?_
  refine thenK_n ?_
  refine W.seq ?_
  refine W.condT rfl rfl ?_
  refine W.skip ?_
  refine thenK_n ?_
  refine W.seq ?_
  refine W.block ?_
  refine W.seq ?_
  refine W.region ?_
  refine S.pure tOk zOk rfl (by first | rfl | exact idx_ok (by omega) (by omega)) rfl ?_
  refine S.pure tOk zOk rfl rfl rfl ?_
  refine thenK_n ?_
  refine W.seq ?_
  refine W.seq ?_
  refine W.region ?_
  refine S.pure tOk zOk rfl rfl rfl ?_
  refine S.pure tOk zOk rfl rfl rfl ?_
  refine S.hcallD rfl rfl rfl rfl ((pc_is s (takeT 3 [40] q).2 1 [97, 110, 100]).frameD [0] [] [] rfl rfl rfl rfl rfl rfl rfl rfl rfl) ?_
  refine S.pure tOk zOk rfl rfl rfl ?_
  refine thenK_n ?_
  refine W.cond rfl (fun c3 => ?_) (fun c3 => ?_)
  ·skip
   refine W.exit ?_
   refine thenK_e ?_
   refine blockK_x ?_
   refine thenK_n ?_
   refine W.region ?_
   refine S.pure tOk zOk rfl rfl rfl ?_
   refine S.pure tOk zOk rfl rfl rfl ?_
   refine thenK_n ?_
   refine WR.succ ?_
   refine W.seq ?_
   refine W.region ?_
   refine S.pure tOk zOk rfl rfl rfl ?_
   refine thenK_n ?_
   refine W.seq ?_
   refine W.condT rfl rfl ?_
   refine W.skip ?_
   refine thenK_n ?_
   refine W.seq ?_
   refine W.block ?_
   refine W.seq ?_
   refine W.region ?_
   refine S.pure tOk zOk rfl (by first | rfl | exact idx_ok (by omega) (by omega)) rfl ?_
   refine S.pure tOk zOk rfl rfl rfl ?_
   refine thenK_n ?_
   refine W.seq ?_
   refine W.seq ?_
   refine W.region ?_
   refine S.pure tOk zOk rfl rfl rfl ?_
   refine S.pure tOk zOk rfl rfl rfl ?_
   refine S.hcallD rfl rfl rfl rfl ((pc_is s (takeT 3 [40] q).2 1 [111, 114]).frameD [0] [] [] rfl rfl rfl rfl rfl rfl rfl rfl rfl) ?_
   refine S.pure tOk zOk rfl rfl rfl ?_
   refine thenK_n ?_
   refine W.cond rfl (fun c5 => ?_) (fun c5 => ?_)
   ·skip
    refine W.exit ?_
    refine thenK_e ?_
    refine blockK_x ?_
    refine thenK_n ?_
    refine W.region ?_
    refine S.pure tOk zOk rfl rfl rfl ?_
    refine S.pure tOk zOk rfl rfl rfl ?_
    refine thenK_n ?_
    refine WR.succ ?_
    refine W.seq ?_
    refine W.region ?_
    refine S.pure tOk zOk rfl rfl rfl ?_
    refine thenK_n ?_
    refine W.seq ?_
    refine W.condF rfl rfl ?_
    refine W.exit ?_
    refine thenK_e ?_
    refine thenK_e ?_
    refine blockK_x ?_
    refine thenK_n ?_
    refine W.seq ?_
    refine W.region ?_
    refine S.pure tOk zOk rfl rfl rfl ?_
    refine S.pure tOk zOk rfl rfl rfl ?_
    refine S.pureE tOk zOk rfl rfl (inc_i64 (by omega)) rfl ?_
    refine S.hcallD rfl rfl rfl rfl ((ih m rfl (lv + 1) (takeT 3 [40] q).2 (step_n hl rfl) (hg.go (rch_take 3 [40] q))).frameD [0] [] [] rfl rfl rfl rfl rfl rfl rfl rfl rfl) ?_
    refine S.sliceOwn (xs := [(condT m (takeT 3 [40] q).2).1].map CT.d) tOk rfl rfl rfl (Eq.trans rfl (ct_some (condT m (takeT 3 [40] q).2).1)) rfl rfl ?_
    refine S.pure tOk zOk rfl rfl rfl ?_
    refine S.alloc tOk rfl rfl rfl rfl ?_
    refine S.store tOk rfl rfl rfl rfl rfl rfl rfl rfl ?_
    refine thenK_n ?_
    refine W.seq ?_
    refine W.region ?_
    refine S.pure tOk zOk rfl rfl rfl ?_
    refine S.pure tOk zOk rfl rfl rfl ?_
    refine S.pure tOk zOk rfl rfl rfl ?_
    refine S.pure tOk zOk rfl rfl rfl ?_
    refine S.pure tOk zOk rfl rfl rfl ?_
    refine S.pure tOk zOk rfl rfl rfl ?_
    refine thenK_n ?_
    refine W.seq ?_
    refine W.seq ?_
    refine W.region ?_
    refine S.pure tOk zOk rfl rfl rfl ?_
    refine S.pure tOk zOk rfl rfl rfl ?_
    refine S.pure tOk zOk rfl rfl rfl ?_
    refine S.pure tOk zOk rfl rfl rfl ?_
    refine S.pure tOk zOk rfl rfl rfl ?_
    refine S.pure tOk zOk rfl rfl rfl ?_
    refine S.pureG tOk zOk rfl rfl tg (fun _ => rfl) rfl ?_
    refine S.pureG tOk zOk rfl rfl tg (fun _ => rfl) rfl ?_
    refine S.pureG tOk zOk rfl rfl tg (fun _ => rfl) rfl ?_
    refine S.pureG tOk zOk rfl rfl tg (fun _ => rfl) rfl ?_
    refine S.pureG tOk zOk rfl rfl tg (fun _ => rfl) rfl ?_
    refine S.pureG tOk zOk rfl rfl tg (fun _ => rfl) rfl ?_
    refine S.pureG tOk zOk rfl rfl tg (fun _ => rfl) rfl ?_
    refine S.pureG tOk zOk rfl rfl tg (fun _ => rfl) rfl ?_
    refine S.pureG tOk zOk rfl rfl tg (fun _ => rfl) rfl ?_
    refine S.pureG tOk zOk rfl rfl tg (fun _ => rfl) rfl ?_
    refine S.pureG tOk zOk rfl rfl tg (fun _ => rfl) rfl ?_
    refine S.pureG tOk zOk rfl rfl tg (fun _ => rfl) rfl ?_
    refine S.pickAndG tOk zOk rfl rfl rfl tg tg ?_
    refine S.pickOrG tOk zOk rfl rfl rfl tg tg ?_
    refine S.pickAnd tOk zOk rfl rfl tg ?_
    refine thenK_n ?_
    refine W.cond rfl (fun c7 => ?_) (fun c7 => ?_)
    ·skip
     have hgs : Gd s (signT (condT m (takeT 3 [40] q).2).2).T := ((hg.go (rch_take 3 [40] q)).go (rch_condT m (takeT 3 [40] q).2)).go (rch_sign _)
     have hsl : (signT (condT m (takeT 3 [40] q).2).2).T.length < (hd (condT m (takeT 3 [40] q).2).2.T :: (condT m (takeT 3 [40] q).2).2.T).length := Nat.lt_succ_of_le (rch_sign _).len
     have hst := hgs.2
     have hsg := sign_1 c7
     refine W.region ?_
     refine S.pure tOk zOk rfl rfl rfl ?_
     refine S.pure tOk zOk rfl rfl rfl ?_
     refine S.pure tOk zOk rfl rfl rfl ?_
     refine S.pure tOk zOk rfl rfl rfl ?_
     refine S.pure tOk zOk rfl rfl rfl ?_
     refine S.pure tOk zOk rfl rfl rfl ?_
     refine S.hcallD rfl rfl rfl rfl ((pc_fail s (condT m (takeT 3 [40] q).2).2 ((hd (condT m (takeT 3 [40] q).2).2.T).a : Int)).frameD [0] [] [] rfl rfl rfl rfl rfl rfl rfl rfl rfl) ?_
     refine thenK_n ?_
     refine W.seq ?_
     refine W.region ?_
     refine S.pure tOk zOk rfl rfl rfl ?_
     refine S.call rfl rfl rfl rfl rfl (pc_ver_kindOf (hd (condT m (takeT 3 [40] q).2).2.T).t) ?_
     refine S.pure tOk zOk rfl rfl rfl ?_
     refine S.store tOk rfl rfl rfl rfl rfl rfl rfl rfl ?_
     refine thenK_n ?_
     refine W.seq ?_
     refine W.block ?_
     refine W.loop (fun k st => ∃ u : Nat, ∃ l : List CT, ∃ p : PS, ∃ v : Nat, Gd s p.T ∧ moreG (condT m) (hd (condT m (takeT 3 [40] q).2).2.T).t u l p = moreG (condT m) (hd (condT m (takeT 3 [40] q).2).2.T).t (hd (condT m (takeT 3 [40] q).2).2.T :: (condT m (takeT 3 [40] q).2).2.T).length [(condT m (takeT 3 [40] q).2).1] (signT (condT m (takeT 3 [40] q).2).2) ∧ p.T.length < u ∧ l.length + p.T.length ≤ 6000 ∧ k = 2 * u ∧ ∃ t b2 r2 m2, st = ⟨t, [[.d (.str s), .d (.int .i64 ((hd (p).T).e : Int)), .d (.int .i64 (hd (p).T).k), .d (.int .i64 ((hd (p).T).a : Int)), .d (.str (hd (p).T).t), .d (.int .i64 (p).w)], [.d (.int .i64 0), .d (.str []), .d (.str []), .d .nilsl], [.d (.int .i64 (kindT (hd (condT m (takeT 3 [40] q).2).2.T).t)), .d (.str []), .d (.str []), .row 0 v 0 (l.map CT.d).length]] ++ b2, [some ⟨true, v, 4, 24, l.map CT.d⟩] ++ r2, [] ++ m2⟩ ∧ holdsL t [(0, .one (.ptr 0 0)), (1, .one (.d (.int .i64 (lv : Int)))), (4, .one (.ptr 1 0)), (8, .one (.ptr 2 0)), (9, .one (.d (.str (hd (condT m (takeT 3 [40] q).2).2.T).t)))]) (2 * (hd (condT m (takeT 3 [40] q).2).2.T :: (condT m (takeT 3 [40] q).2).2.T).length) ⟨(hd (condT m (takeT 3 [40] q).2).2.T :: (condT m (takeT 3 [40] q).2).2.T).length, [(condT m (takeT 3 [40] q).2).1], _, 0, (by rw [hsg] at hgs; exact hgs), (by rw [hsg]), (by rw [hsg] at hsl; exact hsl), (by rw [hsg] at hst; simp; omega), rfl, _, _, _, _, rfl, rfl, rfl, rfl, rfl, rfl, trivial⟩ ?_
     rintro k2 _ ⟨u, l, p, v, f2_0, f2_1, f2_2, f2_3, rfl, t2, bb2, rr2, mm2, rfl, hh2⟩
     refine W.keepR _ _ _ _ _ _ _ hh2 rfl ?_
     refine W.seq ?_
     refine W.seq ?_
     refine W.region ?_
     refine S.pure tOk zOk rfl rfl rfl ?_
     refine S.pure tOk zOk rfl rfl rfl ?_
     refine S.hcallD rfl rfl rfl rfl ((pc_is s p 1 (hd (condT m (takeT 3 [40] q).2).2.T).t).frameD [0] [] [] rfl rfl rfl rfl rfl rfl rfl rfl rfl) ?_
     refine thenK_n ?_
     refine W.cond rfl (fun c8 => ?_) (fun c8 => ?_)
     ·skip
      have hsh := adv_short f2_0.1 c8
      have hcl := (rch_condT m (advS p)).len
      have cl := c8
      refine W.skip ?_
      refine thenK_n ?_
      refine W.block ?_
      refine W.seq ?_
      refine W.region ?_
      refine S.pure tOk zOk rfl rfl rfl ?_
      refine S.hcallD rfl rfl rfl rfl ((pc_adv s hs p f2_0).frameD [0] [] [] rfl rfl rfl rfl rfl rfl rfl rfl rfl) ?_
      refine thenK_n ?_
      refine W.regionS 7 mixed rfl (by kernel_rfl) ?_
      refine AnyZ.eager 0 rfl (by kernel_rfl) (Eag.pure tOk zOk rfl (fun _ _ _ => rfl) rfl rfl) ?_
      refine AnyZ.eager 2 rfl (by kernel_rfl) (Eag.pure tOk zOk rfl (fun _ _ _ => rfl) rfl rfl) ?_
      refine AnyZ.eager 3 rfl (by kernel_rfl) (Eag.pure tOk zOk rfl (fun _ _ _ => rfl) rfl rfl) ?_
      refine AnyZ.eager 4 rfl (by kernel_rfl) (Eag.pure tOk zOk rfl (fun _ _ _ => congrArg (fun x => some (_, x)) (inc_i64 (by omega))) rfl rfl) ?_
      refine AnyZ.two 1 5 (by kernel_rfl) rfl rfl ?_ ?_
      ·skip
       refine OpZ.d ?_
       refine D.pure tOk zOk rfl rfl rfl rfl ?_
       refine WD.nil ?_
       refine AnyZ.one 5 (by kernel_rfl) rfl ?_
       refine OpZ.hcall rfl rfl rfl rfl ((ih m rfl (lv + 1) (advS p) (step_n hl rfl) (f2_0.go (rch_adv p))).frameD [0] [] [] rfl rfl rfl rfl rfl rfl rfl rfl rfl) ?_
       refine AnyZ.one 6 (by kernel_rfl) rfl ?_
       refine OpZ.d ?_
       refine D.slice tOk rfl rfl ?_
       refine WD.nil ?_
       refine AnyZ.nil (by kernel_rfl) ?_
       refine S.append tOk rfl rfl rfl rfl rfl rfl rfl rfl rfl rfl rfl rfl (by show (l.map CT.d).length + 1 ≤ _; rw [List.length_map]; omega) rfl (ct_snoc l _) rfl ?_
       refine S.pure tOk zOk rfl rfl rfl ?_
       refine S.store tOk rfl rfl rfl rfl rfl rfl rfl rfl ?_
       refine blockK_n ?_
       refine loop_n (2 * (u - 1)) (by omega) ⟨u - 1, _, _, _, ((f2_0.go (rch_adv p)).go (rch_condT m _)), mo_go (by omega) cl f2_1, by omega, (by simp; omega), rfl, _, _, _, _, rfl, rfl, rfl, rfl, rfl, rfl, trivial⟩
      ·skip
       refine OpZ.hcall rfl rfl rfl rfl ((ih m rfl (lv + 1) (advS p) (step_n hl rfl) (f2_0.go (rch_adv p))).frameD [0] [] [] rfl rfl rfl rfl rfl rfl rfl rfl rfl) ?_
       refine AnyZ.two 1 6 (by kernel_rfl) rfl rfl ?_ ?_
       ·skip
        refine OpZ.d ?_
        refine D.pure tOk zOk rfl rfl rfl rfl ?_
        refine WD.nil ?_
        refine AnyZ.one 6 (by kernel_rfl) rfl ?_
        refine OpZ.d ?_
        refine D.slice tOk rfl rfl ?_
        refine WD.nil ?_
        refine AnyZ.nil (by kernel_rfl) ?_
        refine S.append tOk rfl rfl rfl rfl rfl rfl rfl rfl rfl rfl rfl rfl (by show (l.map CT.d).length + 1 ≤ _; rw [List.length_map]; omega) rfl (ct_snoc l _) rfl ?_
        refine S.pure tOk zOk rfl rfl rfl ?_
        refine S.store tOk rfl rfl rfl rfl rfl rfl rfl rfl ?_
        refine blockK_n ?_
        refine loop_n (2 * (u - 1)) (by omega) ⟨u - 1, _, _, _, ((f2_0.go (rch_adv p)).go (rch_condT m _)), mo_go (by omega) cl f2_1, by omega, (by simp; omega), rfl, _, _, _, _, rfl, rfl, rfl, rfl, rfl, rfl, trivial⟩
       ·skip
        refine OpZ.d ?_
        refine D.slice tOk rfl rfl ?_
        refine WD.nil ?_
        refine AnyZ.one 1 (by kernel_rfl) rfl ?_
        refine OpZ.d ?_
        refine D.pure tOk zOk rfl rfl rfl rfl ?_
        refine WD.nil ?_
        refine AnyZ.nil (by kernel_rfl) ?_
        refine S.append tOk rfl rfl rfl rfl rfl rfl rfl rfl rfl rfl rfl rfl (by show (l.map CT.d).length + 1 ≤ _; rw [List.length_map]; omega) rfl (ct_snoc l _) rfl ?_
        refine S.pure tOk zOk rfl rfl rfl ?_
        refine S.store tOk rfl rfl rfl rfl rfl rfl rfl rfl ?_
        refine blockK_n ?_
        refine loop_n (2 * (u - 1)) (by omega) ⟨u - 1, _, _, _, ((f2_0.go (rch_adv p)).go (rch_condT m _)), mo_go (by omega) cl f2_1, by omega, (by simp; omega), rfl, _, _, _, _, rfl, rfl, rfl, rfl, rfl, rfl, trivial⟩
     ·skip
      have hM := mo_stop c8 f2_1
      refine W.exit ?_
      refine thenK_e ?_
      refine thenK_e ?_
      refine blockK_x ?_
      refine thenK_n ?_
      refine W.seq ?_
      refine W.freezeB (ri := 0) (q := ⟨_, _, _, _, _⟩) 2 3 rfl rfl rfl rfl ?_
      refine W.region ?_
      refine S.pure tOk zOk rfl rfl rfl ?_
      refine S.hcallD rfl rfl rfl rfl ((pc_take s hs p f2_0 3 [41]).frameD [0] [] [] rfl rfl rfl rfl rfl rfl rfl rfl rfl) ?_
      refine thenK_n ?_
      refine W.seq ?_
      refine W.region ?_
      refine S.pure tOk zOk rfl rfl rfl ?_
      refine S.store tOk rfl rfl rfl rfl rfl rfl rfl rfl ?_
      refine thenK_n ?_
      refine W.ret ?_
      exact ⟨_, rfl, rfl, (by rw [show listG (m + 1 == 0) (condF (m + 1)) q = longG (condT m) (takeT 3 [40] q).2 from lg_long c3 c5, lo_eq hM]; exact LeG.of_force rfl (long_v _ _)), (by rw [show listG (m + 1 == 0) (condF (m + 1)) q = longG (condT m) (takeT 3 [40] q).2 from lg_long c3 c5, lo_eq hM]; rfl), rfl, rfl⟩
    ·skip
     have hgs : Gd s (signT (condT m (takeT 3 [40] q).2).2).T := ((hg.go (rch_take 3 [40] q)).go (rch_condT m (takeT 3 [40] q).2)).go (rch_sign _)
     have hsl : (signT (condT m (takeT 3 [40] q).2).2).T.length < (hd (condT m (takeT 3 [40] q).2).2.T :: (condT m (takeT 3 [40] q).2).2.T).length := Nat.lt_succ_of_le (rch_sign _).len
     have hst := hgs.2
     have hsg := sign_0 c7
     refine W.skip ?_
     refine thenK_n ?_
     refine W.seq ?_
     refine W.region ?_
     refine S.pure tOk zOk rfl rfl rfl ?_
     refine S.call rfl rfl rfl rfl rfl (pc_ver_kindOf (hd (condT m (takeT 3 [40] q).2).2.T).t) ?_
     refine S.pure tOk zOk rfl rfl rfl ?_
     refine S.store tOk rfl rfl rfl rfl rfl rfl rfl rfl ?_
     refine thenK_n ?_
     refine W.seq ?_
     refine W.block ?_
     refine W.loop (fun k st => ∃ u : Nat, ∃ l : List CT, ∃ p : PS, ∃ v : Nat, Gd s p.T ∧ moreG (condT m) (hd (condT m (takeT 3 [40] q).2).2.T).t u l p = moreG (condT m) (hd (condT m (takeT 3 [40] q).2).2.T).t (hd (condT m (takeT 3 [40] q).2).2.T :: (condT m (takeT 3 [40] q).2).2.T).length [(condT m (takeT 3 [40] q).2).1] (signT (condT m (takeT 3 [40] q).2).2) ∧ p.T.length < u ∧ l.length + p.T.length ≤ 6000 ∧ k = 2 * u ∧ ∃ t b2 r2 m2, st = ⟨t, [[.d (.str s), .d (.int .i64 ((hd (p).T).e : Int)), .d (.int .i64 (hd (p).T).k), .d (.int .i64 ((hd (p).T).a : Int)), .d (.str (hd (p).T).t), .d (.int .i64 (p).w)], [.d (.int .i64 0), .d (.str []), .d (.str []), .d .nilsl], [.d (.int .i64 (kindT (hd (condT m (takeT 3 [40] q).2).2.T).t)), .d (.str []), .d (.str []), .row 0 v 0 (l.map CT.d).length]] ++ b2, [some ⟨true, v, 4, 24, l.map CT.d⟩] ++ r2, [] ++ m2⟩ ∧ holdsL t [(0, .one (.ptr 0 0)), (1, .one (.d (.int .i64 (lv : Int)))), (4, .one (.ptr 1 0)), (8, .one (.ptr 2 0)), (9, .one (.d (.str (hd (condT m (takeT 3 [40] q).2).2.T).t)))]) (2 * (hd (condT m (takeT 3 [40] q).2).2.T :: (condT m (takeT 3 [40] q).2).2.T).length) ⟨(hd (condT m (takeT 3 [40] q).2).2.T :: (condT m (takeT 3 [40] q).2).2.T).length, [(condT m (takeT 3 [40] q).2).1], _, 0, (by rw [hsg] at hgs; exact hgs), (by rw [hsg]), (by rw [hsg] at hsl; exact hsl), (by rw [hsg] at hst; simp; omega), rfl, _, _, _, _, rfl, rfl, rfl, rfl, rfl, rfl, trivial⟩ ?_
     rintro k2 _ ⟨u, l, p, v, f2_0, f2_1, f2_2, f2_3, rfl, t2, bb2, rr2, mm2, rfl, hh2⟩
     refine W.keepR _ _ _ _ _ _ _ hh2 rfl ?_
     refine W.seq ?_
     refine W.seq ?_
     refine W.region ?_
     refine S.pure tOk zOk rfl rfl rfl ?_
     refine S.pure tOk zOk rfl rfl rfl ?_
     refine S.hcallD rfl rfl rfl rfl ((pc_is s p 1 (hd (condT m (takeT 3 [40] q).2).2.T).t).frameD [0] [] [] rfl rfl rfl rfl rfl rfl rfl rfl rfl) ?_
     refine thenK_n ?_
     refine W.cond rfl (fun c9 => ?_) (fun c9 => ?_)
     ·skip
      have hsh := adv_short f2_0.1 c9
      have hcl := (rch_condT m (advS p)).len
      have cl := c9
      refine W.skip ?_
      refine thenK_n ?_
      refine W.block ?_
      refine W.seq ?_
      refine W.region ?_
      refine S.pure tOk zOk rfl rfl rfl ?_
      refine S.hcallD rfl rfl rfl rfl ((pc_adv s hs p f2_0).frameD [0] [] [] rfl rfl rfl rfl rfl rfl rfl rfl rfl) ?_
      refine thenK_n ?_
      refine W.regionS 7 mixed rfl (by kernel_rfl) ?_
      refine AnyZ.eager 0 rfl (by kernel_rfl) (Eag.pure tOk zOk rfl (fun _ _ _ => rfl) rfl rfl) ?_
      refine AnyZ.eager 2 rfl (by kernel_rfl) (Eag.pure tOk zOk rfl (fun _ _ _ => rfl) rfl rfl) ?_
      refine AnyZ.eager 3 rfl (by kernel_rfl) (Eag.pure tOk zOk rfl (fun _ _ _ => rfl) rfl rfl) ?_
      refine AnyZ.eager 4 rfl (by kernel_rfl) (Eag.pure tOk zOk rfl (fun _ _ _ => congrArg (fun x => some (_, x)) (inc_i64 (by omega))) rfl rfl) ?_
      refine AnyZ.two 1 5 (by kernel_rfl) rfl rfl ?_ ?_
      ·skip
       refine OpZ.d ?_
       refine D.pure tOk zOk rfl rfl rfl rfl ?_
       refine WD.nil ?_
       refine AnyZ.one 5 (by kernel_rfl) rfl ?_
       refine OpZ.hcall rfl rfl rfl rfl ((ih m rfl (lv + 1) (advS p) (step_n hl rfl) (f2_0.go (rch_adv p))).frameD [0] [] [] rfl rfl rfl rfl rfl rfl rfl rfl rfl) ?_
       refine AnyZ.one 6 (by kernel_rfl) rfl ?_
       refine OpZ.d ?_
       refine D.slice tOk rfl rfl ?_
       refine WD.nil ?_
       refine AnyZ.nil (by kernel_rfl) ?_
       refine S.append tOk rfl rfl rfl rfl rfl rfl rfl rfl rfl rfl rfl rfl (by show (l.map CT.d).length + 1 ≤ _; rw [List.length_map]; omega) rfl (ct_snoc l _) rfl ?_
       refine S.pure tOk zOk rfl rfl rfl ?_
       refine S.store tOk rfl rfl rfl rfl rfl rfl rfl rfl ?_
       refine blockK_n ?_
       refine loop_n (2 * (u - 1)) (by omega) ⟨u - 1, _, _, _, ((f2_0.go (rch_adv p)).go (rch_condT m _)), mo_go (by omega) cl f2_1, by omega, (by simp; omega), rfl, _, _, _, _, rfl, rfl, rfl, rfl, rfl, rfl, trivial⟩
      ·skip
       refine OpZ.hcall rfl rfl rfl rfl ((ih m rfl (lv + 1) (advS p) (step_n hl rfl) (f2_0.go (rch_adv p))).frameD [0] [] [] rfl rfl rfl rfl rfl rfl rfl rfl rfl) ?_
       refine AnyZ.two 1 6 (by kernel_rfl) rfl rfl ?_ ?_
       ·skip
        refine OpZ.d ?_
        refine D.pure tOk zOk rfl rfl rfl rfl ?_
        refine WD.nil ?_
        refine AnyZ.one 6 (by kernel_rfl) rfl ?_
        refine OpZ.d ?_
        refine D.slice tOk rfl rfl ?_
        refine WD.nil ?_
        refine AnyZ.nil (by kernel_rfl) ?_
        refine S.append tOk rfl rfl rfl rfl rfl rfl rfl rfl rfl rfl rfl rfl (by show (l.map CT.d).length + 1 ≤ _; rw [List.length_map]; omega) rfl (ct_snoc l _) rfl ?_
        refine S.pure tOk zOk rfl rfl rfl ?_
        refine S.store tOk rfl rfl rfl rfl rfl rfl rfl rfl ?_
        refine blockK_n ?_
        refine loop_n (2 * (u - 1)) (by omega) ⟨u - 1, _, _, _, ((f2_0.go (rch_adv p)).go (rch_condT m _)), mo_go (by omega) cl f2_1, by omega, (by simp; omega), rfl, _, _, _, _, rfl, rfl, rfl, rfl, rfl, rfl, trivial⟩
       ·skip
        refine OpZ.d ?_
        refine D.slice tOk rfl rfl ?_
        refine WD.nil ?_
        refine AnyZ.one 1 (by kernel_rfl) rfl ?_
        refine OpZ.d ?_
        refine D.pure tOk zOk rfl rfl rfl rfl ?_
        refine WD.nil ?_
        refine AnyZ.nil (by kernel_rfl) ?_
        refine S.append tOk rfl rfl rfl rfl rfl rfl rfl rfl rfl rfl rfl rfl (by show (l.map CT.d).length + 1 ≤ _; rw [List.length_map]; omega) rfl (ct_snoc l _) rfl ?_
        refine S.pure tOk zOk rfl rfl rfl ?_
        refine S.store tOk rfl rfl rfl rfl rfl rfl rfl rfl ?_
        refine blockK_n ?_
        refine loop_n (2 * (u - 1)) (by omega) ⟨u - 1, _, _, _, ((f2_0.go (rch_adv p)).go (rch_condT m _)), mo_go (by omega) cl f2_1, by omega, (by simp; omega), rfl, _, _, _, _, rfl, rfl, rfl, rfl, rfl, rfl, trivial⟩
     ·skip
      have hM := mo_stop c9 f2_1
      refine W.exit ?_
      refine thenK_e ?_
      refine thenK_e ?_
      refine blockK_x ?_
      refine thenK_n ?_
      refine W.seq ?_
      refine W.freezeB (ri := 0) (q := ⟨_, _, _, _, _⟩) 2 3 rfl rfl rfl rfl ?_
      refine W.region ?_
      refine S.pure tOk zOk rfl rfl rfl ?_
      refine S.hcallD rfl rfl rfl rfl ((pc_take s hs p f2_0 3 [41]).frameD [0] [] [] rfl rfl rfl rfl rfl rfl rfl rfl rfl) ?_
      refine thenK_n ?_
      refine W.seq ?_
      refine W.region ?_
      refine S.pure tOk zOk rfl rfl rfl ?_
      refine S.store tOk rfl rfl rfl rfl rfl rfl rfl rfl ?_
      refine thenK_n ?_
      refine W.ret ?_
      exact ⟨_, rfl, rfl, (by rw [show listG (m + 1 == 0) (condF (m + 1)) q = longG (condT m) (takeT 3 [40] q).2 from lg_long c3 c5, lo_eq hM]; exact LeG.of_force rfl (long_v _ _)), (by rw [show listG (m + 1 == 0) (condF (m + 1)) q = longG (condT m) (takeT 3 [40] q).2 from lg_long c3 c5, lo_eq hM]; rfl), rfl, rfl⟩
   ·skip
    refine W.skip ?_
    refine thenK_n ?_
    refine W.seq ?_
    refine W.region ?_
    refine S.pure tOk zOk rfl rfl rfl ?_
    refine S.hcallD rfl rfl rfl rfl ((pc_adv s hs (takeT 3 [40] q).2 (hg.go (rch_take 3 [40] q))).frameD [0] [] [] rfl rfl rfl rfl rfl rfl rfl rfl rfl) ?_
    refine thenK_n ?_
    refine W.seq ?_
    refine W.region ?_
    refine S.pure tOk zOk rfl rfl rfl ?_
    refine S.call rfl rfl rfl rfl rfl (pc_ver_kindOf [111, 114]) ?_
    refine S.pure tOk zOk rfl rfl rfl ?_
    refine S.alloc tOk rfl rfl rfl rfl ?_
    refine S.store tOk rfl rfl rfl rfl rfl rfl rfl rfl ?_
    refine thenK_n ?_
    refine W.seq ?_
    refine W.seq ?_
    refine W.region ?_
    refine S.pure tOk zOk rfl rfl rfl ?_
    refine S.hcallD rfl rfl rfl rfl ((pc_is s (advS (takeT 3 [40] q).2) 3 [41]).frameD [0] [] [] rfl rfl rfl rfl rfl rfl rfl rfl rfl) ?_
    refine S.pure tOk zOk rfl rfl rfl ?_
    refine thenK_n ?_
    refine W.cond rfl (fun c10 => ?_) (fun c10 => ?_)
    ·skip
     refine W.region ?_
     refine S.pure tOk zOk rfl rfl rfl ?_
     refine S.pure tOk zOk rfl rfl rfl ?_
     refine S.pureE tOk zOk rfl rfl (inc_i64 (by omega)) rfl ?_
     refine S.hcallD rfl rfl rfl rfl ((ih m rfl (lv + 1) (advS (takeT 3 [40] q).2) (step_n hl rfl) ((hg.go (rch_take 3 [40] q)).go (rch_adv (takeT 3 [40] q).2))).frameD [0] [] [] rfl rfl rfl rfl rfl rfl rfl rfl rfl) ?_
     refine S.slice tOk rfl rfl ?_
     refine S.pure tOk zOk rfl rfl rfl ?_
     refine S.store tOk rfl rfl rfl rfl rfl rfl rfl rfl ?_
     refine thenK_n ?_
     refine W.seq ?_
     refine W.region ?_
     refine S.pure tOk zOk rfl rfl rfl ?_
     refine S.hcallD rfl rfl rfl rfl ((pc_take s hs (condT m (advS (takeT 3 [40] q).2)).2 (((hg.go (rch_take 3 [40] q)).go (rch_adv (takeT 3 [40] q).2)).go (rch_condT m (advS (takeT 3 [40] q).2))) 3 [41]).frameD [0] [] [] rfl rfl rfl rfl rfl rfl rfl rfl rfl) ?_
     refine thenK_n ?_
     refine W.seq ?_
     refine W.region ?_
     refine S.pure tOk zOk rfl rfl rfl ?_
     refine S.store tOk rfl rfl rfl rfl rfl rfl rfl rfl ?_
     refine thenK_n ?_
     refine W.ret ?_
     refine blockK_r ?_
     refine thenK_r ?_
     refine thenK_r ?_
     refine blockK_r ?_
     refine thenK_r ?_
     exact ⟨_, rfl, rfl, (by rw [show listG (m + 1 == 0) (condF (m + 1)) q = shortG (condT m) 8 (advS (takeT 3 [40] q).2) from lg_or c3 c5, sh_1 c10]; exact LeG.of_force rfl (not_v 8 _)), (by rw [show listG (m + 1 == 0) (condF (m + 1)) q = shortG (condT m) 8 (advS (takeT 3 [40] q).2) from lg_or c3 c5, sh_1 c10]; rfl), rfl, rfl⟩
    ·skip
     refine W.skip ?_
     refine thenK_n ?_
     refine W.seq ?_
     refine W.region ?_
     refine S.pure tOk zOk rfl rfl rfl ?_
     refine S.hcallD rfl rfl rfl rfl ((pc_take s hs (advS (takeT 3 [40] q).2) ((hg.go (rch_take 3 [40] q)).go (rch_adv (takeT 3 [40] q).2)) 3 [41]).frameD [0] [] [] rfl rfl rfl rfl rfl rfl rfl rfl rfl) ?_
     refine thenK_n ?_
     refine W.seq ?_
     refine W.region ?_
     refine S.pure tOk zOk rfl rfl rfl ?_
     refine S.store tOk rfl rfl rfl rfl rfl rfl rfl rfl ?_
     refine thenK_n ?_
     refine W.ret ?_
     refine blockK_r ?_
     refine thenK_r ?_
     refine thenK_r ?_
     refine blockK_r ?_
     refine thenK_r ?_
     exact ⟨_, rfl, rfl, (by rw [show listG (m + 1 == 0) (condF (m + 1)) q = shortG (condT m) 8 (advS (takeT 3 [40] q).2) from lg_or c3 c5, sh_0 c10]; exact (LeG.aggLast _ _ _ 4)), (by rw [show listG (m + 1 == 0) (condF (m + 1)) q = shortG (condT m) 8 (advS (takeT 3 [40] q).2) from lg_or c3 c5, sh_0 c10]; rfl), rfl, rfl⟩
  ·skip
   refine W.skip ?_
   refine thenK_n ?_
   refine W.seq ?_
   refine W.region ?_
   refine S.pure tOk zOk rfl rfl rfl ?_
   refine S.hcallD rfl rfl rfl rfl ((pc_adv s hs (takeT 3 [40] q).2 (hg.go (rch_take 3 [40] q))).frameD [0] [] [] rfl rfl rfl rfl rfl rfl rfl rfl rfl) ?_
   refine thenK_n ?_
   refine W.seq ?_
   refine W.region ?_
   refine S.pure tOk zOk rfl rfl rfl ?_
   refine S.call rfl rfl rfl rfl rfl (pc_ver_kindOf [97, 110, 100]) ?_
   refine S.pure tOk zOk rfl rfl rfl ?_
   refine S.alloc tOk rfl rfl rfl rfl ?_
   refine S.store tOk rfl rfl rfl rfl rfl rfl rfl rfl ?_
   refine thenK_n ?_
   refine W.seq ?_
   refine W.seq ?_
   refine W.region ?_
   refine S.pure tOk zOk rfl rfl rfl ?_
   refine S.hcallD rfl rfl rfl rfl ((pc_is s (advS (takeT 3 [40] q).2) 3 [41]).frameD [0] [] [] rfl rfl rfl rfl rfl rfl rfl rfl rfl) ?_
   refine S.pure tOk zOk rfl rfl rfl ?_
   refine thenK_n ?_
   refine W.cond rfl (fun c11 => ?_) (fun c11 => ?_)
   ·skip
    refine W.region ?_
    refine S.pure tOk zOk rfl rfl rfl ?_
    refine S.pure tOk zOk rfl rfl rfl ?_
    refine S.pureE tOk zOk rfl rfl (inc_i64 (by omega)) rfl ?_
    refine S.hcallD rfl rfl rfl rfl ((ih m rfl (lv + 1) (advS (takeT 3 [40] q).2) (step_n hl rfl) ((hg.go (rch_take 3 [40] q)).go (rch_adv (takeT 3 [40] q).2))).frameD [0] [] [] rfl rfl rfl rfl rfl rfl rfl rfl rfl) ?_
    refine S.slice tOk rfl rfl ?_
    refine S.pure tOk zOk rfl rfl rfl ?_
    refine S.store tOk rfl rfl rfl rfl rfl rfl rfl rfl ?_
    refine thenK_n ?_
    refine W.seq ?_
    refine W.region ?_
    refine S.pure tOk zOk rfl rfl rfl ?_
    refine S.hcallD rfl rfl rfl rfl ((pc_take s hs (condT m (advS (takeT 3 [40] q).2)).2 (((hg.go (rch_take 3 [40] q)).go (rch_adv (takeT 3 [40] q).2)).go (rch_condT m (advS (takeT 3 [40] q).2))) 3 [41]).frameD [0] [] [] rfl rfl rfl rfl rfl rfl rfl rfl rfl) ?_
    refine thenK_n ?_
    refine W.seq ?_
    refine W.region ?_
    refine S.pure tOk zOk rfl rfl rfl ?_
    refine S.store tOk rfl rfl rfl rfl rfl rfl rfl rfl ?_
    refine thenK_n ?_
    refine W.ret ?_
    refine blockK_r ?_
    refine thenK_r ?_
    refine thenK_r ?_
    refine blockK_r ?_
    refine thenK_r ?_
    exact ⟨_, rfl, rfl, (by rw [show listG (m + 1 == 0) (condF (m + 1)) q = shortG (condT m) 7 (advS (takeT 3 [40] q).2) from lg_and c3, sh_1 c11]; exact LeG.of_force rfl (not_v 7 _)), (by rw [show listG (m + 1 == 0) (condF (m + 1)) q = shortG (condT m) 7 (advS (takeT 3 [40] q).2) from lg_and c3, sh_1 c11]; rfl), rfl, rfl⟩
   ·skip
    refine W.skip ?_
    refine thenK_n ?_
    refine W.seq ?_
    refine W.region ?_
    refine S.pure tOk zOk rfl rfl rfl ?_
    refine S.hcallD rfl rfl rfl rfl ((pc_take s hs (advS (takeT 3 [40] q).2) ((hg.go (rch_take 3 [40] q)).go (rch_adv (takeT 3 [40] q).2)) 3 [41]).frameD [0] [] [] rfl rfl rfl rfl rfl rfl rfl rfl rfl) ?_
    refine thenK_n ?_
    refine W.seq ?_
    refine W.region ?_
    refine S.pure tOk zOk rfl rfl rfl ?_
    refine S.store tOk rfl rfl rfl rfl rfl rfl rfl rfl ?_
    refine thenK_n ?_
    refine W.ret ?_
    refine blockK_r ?_
    refine thenK_r ?_
    refine thenK_r ?_
    refine blockK_r ?_
    refine thenK_r ?_
    exact ⟨_, rfl, rfl, (by rw [show listG (m + 1 == 0) (condF (m + 1)) q = shortG (condT m) 7 (advS (takeT 3 [40] q).2) from lg_and c3, sh_0 c11]; exact (LeG.aggLast _ _ _ 4)), (by rw [show listG (m + 1 == 0) (condF (m + 1)) q = shortG (condT m) 7 (advS (takeT 3 [40] q).2) from lg_and c3, sh_0 c11]; rfl), rfl, rfl⟩
theorem pc_condC (s : List UInt8) (hs : s.length ≤ 4000) : ∀ n, CondC s n
  | 0 => fun lv q hl hg => pc_conds s hs 0 (fun lv q hl hg => pc_lists s hs 0 (fun m h => by omega) lv q hl hg) (fun m h => by omega) lv q hl hg
  | n + 1 => by
    have ih : ∀ m, n + 1 = m + 1 → CondC s m := fun m h => by
      obtain rfl : n = m := by omega
      exact pc_condC s hs n
    exact fun lv q hl hg => pc_conds s hs (n + 1) (fun lv q hl hg => pc_lists s hs (n + 1) ih lv q hl hg) ih lv q hl hg
end Go.Proofs.YtjibdoagpegniaaGreatDoor

/- Plain words: all tokens of a text; what is read is no larger than the text; ParseCond. -/
set_option linter.unusedVariables false
set_option linter.unusedSimpArgs false
namespace Go.Proofs.YtjibdoagpegniaaGreatDoor
open Go
theorem qAt_le {s : List UInt8} {f : Nat} (hf : f < s.length) (h : (qAt s f).isSome = true) : f < qE (qAt s f) ∧ qE (qAt s f) ≤ s.length ∧ (qT (qAt s f)).length ≤ s.length := by
  obtain ⟨⟨x, e⟩, hq⟩ := Option.isSome_iff_exists.1 h
  have := qL_le _ _ _ _ _ _ (Nat.le_refl _) (show quoteL (s.drop (f + 1)) [] (f + 1) = some (x, e) from hq)
  rw [hq]
  simp at this
  simp [qE, qT]
  omega
theorem skip_nb {s : List UInt8} : ∀ (n p : Nat), s.length - p ≤ n → skipB s p < s.length → blk (s.getD (skipB s p) 0) = false
  | 0, p, hn, h => by have := skip_ge (s := s) (p := p); omega
  | n + 1, p, hn, h => by
    have h1 := skip_ge (s := s) (p := p)
    cases hb : blk (s.getD p 0) with
    | true =>
      have h2 := skip_go (i := p) (by omega) hb rfl
      rw [← h2] at h ⊢
      exact skip_nb n (p + 1) (by omega) h
    | false =>
      have h2 := skip_stop (i := p) (by omega) hb rfl
      rw [h2]; exact hb
theorem tok_facts {s : List UInt8} {f : Nat} (hf : f ≤ s.length) (hnb : f < s.length → blk (s.getD f 0) = false) : f ≤ (tokAt s f).e ∧ (tokAt s f).e ≤ s.length ∧ (tokAt s f).t.length ≤ s.length ∧ (tokAt s f).a = f ∧
    (((tokAt s f).k == 0 || (tokAt s f).k == 4) = false → f < (tokAt s f).e) ∧ (((tokAt s f).k == 0 || (tokAt s f).k == 4) = true → (tokAt s f).e = f ∧ (f = s.length ∨ (s.getD f 0 == 34) = true)) := by
  unfold tokAt
  split
  · rename_i h
    refine ⟨Nat.le_refl _, hf, by simp, rfl, fun h => by simp at h, fun _ => ⟨rfl, .inl (by omega)⟩⟩
  · rename_i h
    have hlt : f < s.length := by omega
    split
    · exact ⟨by simp, by simp; omega, by simp; omega, rfl, fun _ => by simp, fun h => by simp at h⟩
    · rename_i h1
      split
      · rename_i h2
        split
        · rename_i h3
          have := qAt_le hlt h3
          exact ⟨by simp; omega, by simp; omega, by simp; omega, rfl, fun _ => by simp; omega, fun h => by simp at h⟩
        · exact ⟨Nat.le_refl _, hf, by simp, rfl, fun h => by simp at h, fun _ => ⟨rfl, .inr h2⟩⟩
      · rename_i h2
        have hb := hnb hlt
        have hw : wch (s.getD f 0) = true := by
          unfold wch
          rw [hb, Bool.eq_false_iff.2 h1, Bool.eq_false_iff.2 h2]; rfl
        have h4 := word_go hlt hw rfl
        have h5 := word_ge (s := s) (p := f + 1)
        have h6 := word_le hf
        exact ⟨by simp; omega, h6, by simp; omega, rfl, fun _ => by simp; omega, fun h => by simp at h⟩
theorem next_facts {s : List UInt8} {p : Nat} (hp : p ≤ s.length) : p ≤ (nextT s p).e ∧ (nextT s p).e ≤ s.length ∧ (nextT s p).t.length ≤ s.length ∧
    (((nextT s p).k == 0 || (nextT s p).k == 4) = false → p < (nextT s p).e) ∧ (((nextT s p).k == 0 || (nextT s p).k == 4) = true → nextT s (nextT s p).e = nextT s p) := by
  have h1 := skip_ge (s := s) (p := p)
  have h2 := skip_le hp
  have h := tok_facts h2 (skip_nb _ p (Nat.le_refl _))
  unfold nextT
  refine ⟨by omega, h.2.1, h.2.2.1, fun hk => by have := h.2.2.2.2.1 hk; omega, fun hk => ?_⟩
  obtain ⟨he, hx⟩ := h.2.2.2.2.2 hk
  rw [he]
  have : skipB s (skipB s p) = skipB s p := by
    rcases hx with hx | hx
    · exact skip_end (by omega) h2 rfl
    · rcases Nat.lt_or_ge (skipB s p) s.length with hl | hl
      · refine skip_stop hl ?_ rfl
        have : s.getD (skipB s p) 0 = 34 := by simpa using hx
        rw [this]; rfl
      · exact skip_end hl h2 rfl
  rw [this]
/-- All tokens from a place on. -/
def toksN : Nat → List UInt8 → Nat → List Tok
  | 0, s, p => [nextT s p]
  | n + 1, s, p => if (nextT s p).k == 0 || (nextT s p).k == 4 then [nextT s p] else nextT s p :: toksN n s (nextT s p).e
def toks (s : List UInt8) : List Tok := toksN s.length s 0
theorem toks_hd (n : Nat) (s : List UInt8) (p : Nat) : ∃ l, toksN n s p = nextT s p :: l := by
  cases n with
  | zero => exact ⟨[], rfl⟩
  | succ n => unfold toksN; split; exact ⟨[], rfl⟩; exact ⟨_, rfl⟩
theorem toks_good {s : List UInt8} : ∀ (n p : Nat), p ≤ s.length → s.length - p ≤ n → Good s (toksN n s p)
  | n, p, hp, hn => by
    have hx := next_facts hp
    cases hk : ((nextT s p).k == 0 || (nextT s p).k == 4) with
    | true =>
      have : toksN n s p = [nextT s p] := by cases n with | zero => rfl | succ n => unfold toksN; rw [if_pos hk]
      rw [this]
      exact ⟨⟨hx.2.2.2.2 hk, hx.2.1⟩, hk⟩
    | false =>
      have h1 := hx.2.2.2.1 hk
      obtain ⟨m, rfl⟩ : ∃ m, n = m + 1 := ⟨n - 1, by omega⟩
      unfold toksN; rw [if_neg (by rw [hk]; simp)]
      have ih := toks_good m (nextT s p).e hx.2.1 (by omega)
      obtain ⟨l, hl⟩ := toks_hd m s (nextT s p).e
      rw [hl] at ih ⊢
      exact ⟨⟨rfl, hx.2.1⟩, hk, ih⟩
theorem toks_len : ∀ (n : Nat) (s : List UInt8) (p : Nat), (toksN n s p).length ≤ n + 1
  | 0, s, p => by simp [toksN]
  | n + 1, s, p => by
    unfold toksN; split
    · simp
    · have := toks_len n s (nextT s p).e; simp; omega
theorem toks_t {s : List UInt8} : ∀ (n p : Nat), p ≤ s.length → ∀ x ∈ toksN n s p, x.t.length ≤ s.length
  | 0, p, hp, x, h => by
    obtain rfl : x = nextT s p := by simpa [toksN] using h
    exact (next_facts hp).2.2.1
  | n + 1, p, hp, x, h => by
    have hx := next_facts hp
    unfold toksN at h; split at h
    · obtain rfl : x = nextT s p := by simpa using h
      exact hx.2.2.1
    · rcases List.mem_cons.1 h with rfl | h
      · exact hx.2.2.1
      · exact toks_t n _ hx.2.1 x h
theorem toks_gd {s : List UInt8} (hs : s.length ≤ 4000) : Gd s (toks s) := ⟨toks_good _ 0 (Nat.zero_le _) (by omega), by have := toks_len s.length s 0; unfold toks; omega⟩
theorem hd_toks (s : List UInt8) : hd (toks s) = nextT s 0 := by
  obtain ⟨l, hl⟩ := toks_hd s.length s 0
  unfold toks; rw [hl]; rfl
def TL (T : List Tok) : Prop := (∀ x ∈ T, x.t.length ≤ 4000) ∧ T.length ≤ 5000
theorem adv_mem {T : List Tok} {x : Tok} (h : x ∈ adv T) : x ∈ T := by
  match T, h with
  | [], h => exact h
  | [y], h => exact h
  | y :: z :: l, h => exact List.mem_cons_of_mem _ h
theorem Rch.mem {A B : List Tok} (h : Rch A B) {x : Tok} (hx : x ∈ B) : x ∈ A := by
  induction h with
  | refl => exact hx
  | step h ih => exact adv_mem (ih hx)
theorem TL.go {A B : List Tok} (t : TL A) (h : Rch A B) : TL B := ⟨fun x hx => t.1 x (h.mem hx), Nat.le_trans h.len t.2⟩
theorem TL.hd {T : List Tok} (t : TL T) : (hd T).t.length ≤ 4000 := by
  match T, t with
  | [], _ => simp [Go.Proofs.YtjibdoagpegniaaGreatDoor.hd, Tok.z]
  | x :: l, t => exact t.1 x (List.mem_cons_self ..)
theorem take_len {k : Int} {x : List UInt8} {q : PS} (t : TL q.T) : (takeT k x q).1.length < 4294967000 := by
  have := t.hd
  unfold takeT
  split
  · simp
  · split
    · simp
    · simp; omega
theorem big_z : CtBig CT.z := .mk _ _ _ _ (by decide) (by decide) (fun a ha => by cases ha) (by decide)
theorem big_leaf {k : Int} {n v : List UInt8} (hn : n.length < 4294967000) (hv : v.length < 4294967000) : CtBig (.mk k n v []) := .mk _ _ _ _ hn hv (fun a ha => by cases ha) (by decide)
theorem big_list {k : Int} {l : List CT} (h : ∀ a ∈ l, CtBig a) (hl : l.length < 4294967000) : CtBig (.mk k [] [] l) := .mk _ _ _ _ (by decide) (by decide) h hl
section
variable {f : PS → CT × PS} (hr : ∀ q, Rch q.T (f q).2.T) (hf : ∀ q, TL q.T → CtBig (f q).1)
include hr hf
theorem big_more (x : List UInt8) : ∀ (n : Nat) (l : List CT) (q : PS), TL q.T → (∀ a ∈ l, CtBig a) → (∀ a ∈ (moreG f x n l q).1, CtBig a) ∧ (moreG f x n l q).1.length ≤ l.length + n
  | 0, l, q, t, h => ⟨h, Nat.le_refl _⟩
  | n + 1, l, q, t, h => by
    unfold moreG; split
    · have h1 := big_more x n (l ++ [(f (advS q)).1]) (f (advS q)).2 ((t.go (rch_adv q)).go (hr _)) (fun a ha => by
        rcases List.mem_append.1 ha with ha | ha
        · exact h a ha
        · obtain rfl : a = (f (advS q)).1 := by simpa using ha
          exact hf _ (t.go (rch_adv q)))
      refine ⟨h1.1, Nat.le_trans h1.2 (by simp; omega)⟩
    · exact ⟨h, by simp⟩
omit hr in
theorem big_one {k : Int} {q : PS} (t : TL q.T) : CtBig (.mk k [] [] [(f q).1]) := big_list (fun a ha => by
  obtain rfl : a = (f q).1 := by simpa using ha
  exact hf q t) (by simp)
omit hr in
theorem big_short (k : Int) (q : PS) (t : TL q.T) : CtBig (shortG f k q).1 := by
  unfold shortG; split
  · exact big_one hf t
  · exact big_list (fun a ha => by cases ha) (by simp)
theorem big_long (q : PS) (t : TL q.T) : CtBig (longG f q).1 := by
  unfold longG
  have h1 := t.go (hr q)
  have h2 := big_more hr hf (hd (f q).2.T).t (hd (f q).2.T :: (f q).2.T).length [(f q).1] (signT (f q).2) (h1.go (rch_sign _)) (fun a ha => by
    obtain rfl : a = (f q).1 := by simpa using ha
    exact hf q t)
  refine big_list h2.1 ?_
  have h3 := h2.2
  have h4 := h1.2
  have h5 : (hd (f q).2.T :: (f q).2.T).length = (f q).2.T.length + 1 := rfl
  have h6 : [(f q).1].length = 1 := rfl
  omega
theorem big_lists (b : Bool) (q : PS) (t : TL q.T) : CtBig (listG b f q).1 := by
  have t1 := t.go (rch_take 3 [40] q)
  unfold listG
  split
  · exact big_z
  · split
    · exact big_short hf _ _ (t1.go (rch_adv _))
    · split
      · exact big_short hf _ _ (t1.go (rch_adv _))
      · exact big_long hr hf _ t1
theorem big_cond (b : Bool) (q : PS) (t : TL q.T) : CtBig (condG b f q).1 := by
  have t1 := t.go (rch_take 1 [] q)
  unfold condG
  split
  · exact big_lists hr hf b q t
  · dsimp only
    split
    · exact big_leaf (by decide) (by decide)
    · split
      · exact big_leaf (take_len t1) (take_len ((t1.go (rch_take _ _ _)).go (rch_take _ _ _)))
      · split
        · exact big_leaf (take_len t1) (by decide)
        · split
          · exact big_leaf (take_len t1) (take_len ((t1.go (rch_take _ _ _)).go (rch_take _ _ _)))
          · split
            · split
              · exact big_z
              · exact big_one hf t1
            · exact big_z
end
theorem big_condT : ∀ (n : Nat) (q : PS), TL q.T → CtBig (condT n q).1
  | 0, q, t => big_cond (f := fun q => (CT.z, q)) (fun q => .refl _) (fun q _ => big_z) true q t
  | n + 1, q, t => big_cond (rch_condT n) (big_condT n) false q t
theorem toks_tl {s : List UInt8} (hs : s.length ≤ 4000) : TL (toks s) := ⟨fun x hx => Nat.le_trans (toks_t _ 0 (Nat.zero_le _) x hx) hs, (toks_gd hs).2⟩
/-- ParseCond, in plain words. -/
def endS (q : PS) : PS := if decide (q.w < 0) && (hd q.T).k != 0 then failT (hd q.T).a q else q
def readP (s : List UInt8) : CT × PS := ((condT 100 ⟨toks s, -1⟩).1, endS (condT 100 ⟨toks s, -1⟩).2)
def parseP (s : List UInt8) : CT × Int × Int :=
  if decide ((s.length : Int) > 4000) then (CT.z, 0, 4)
  else if decide ((readP s).2.w ≥ 0) then (CT.z, (readP s).2.w, 8)
  else if checkP (readP s).1 != 0 then (CT.z, 0, checkP (readP s).1)
  else ((readP s).1, 0, 0)
theorem end_1 {q : PS} (h : (decide (q.w < 0) && (hd q.T).k != 0) = true) : endS q = failT (hd q.T).a q := if_pos h
theorem end_0 {q : PS} (h : (decide (q.w < 0) && (hd q.T).k != 0) = false) : endS q = q := if_neg (by rw [h]; simp)
theorem pp_0 {s : List UInt8} (h : decide ((s.length : Int) > 4000) = true) : parseP s = (CT.z, 0, 4) := if_pos h
section
variable {s : List UInt8} {q : PS} (h : decide ((s.length : Int) > 4000) = false) (hq : endS (condT 100 ⟨toks s, -1⟩).2 = q)
include h hq
theorem pp_1 (h1 : decide (q.w ≥ 0) = true) : parseP s = (CT.z, q.w, 8) := by
  have : (readP s).2 = q := hq
  unfold parseP; rw [if_neg (by rw [h]; simp), this, if_pos h1]
theorem pp_2 (h1 : decide (q.w ≥ 0) = false) (h2 : (checkP (condT 100 ⟨toks s, -1⟩).1 != 0) = true) : parseP s = (CT.z, 0, checkP (condT 100 ⟨toks s, -1⟩).1) := by
  have : (readP s).2 = q := hq
  unfold parseP; rw [if_neg (by rw [h]; simp), this, if_neg (by rw [h1]; simp)]; exact if_pos h2
theorem pp_3 (h1 : decide (q.w ≥ 0) = false) (h2 : (checkP (condT 100 ⟨toks s, -1⟩).1 != 0) = false) : parseP s = ((condT 100 ⟨toks s, -1⟩).1, 0, 0) := by
  have : (readP s).2 = q := hq
  unfold parseP; rw [if_neg (by rw [h]; simp), this, if_neg (by rw [h1]; simp)]; exact if_neg (by rw [show (checkP (readP s).1 != 0) = false from h2]; simp)
end
theorem LeV.tup3 {a a' b b' c c' : V} (h1 : LeV a a') (h2 : LeV b b') (h3 : LeV c c') : LeV (.tup [a, b, c]) (.tup [a', b', c']) := fun im w v h => by
  cases h with | tup _ vs hl hx =>
  refine .tup _ _ hl (fun i u v h4 h5 => ?_)
  match i with
  | 0 => obtain rfl : a' = u := by simpa using h4
         exact h1 _ _ _ (hx 0 a v rfl h5)
  | 1 => obtain rfl : b' = u := by simpa using h4
         exact h2 _ _ _ (hx 1 b v rfl h5)
  | 2 => obtain rfl : c' = u := by simpa using h4
         exact h3 _ _ _ (hx 2 c v rfl h5)
  | i + 3 => simp at h4
theorem LeV.aggEnd (a b c : C) (sz : Nat) : LeV (.agg [a, b, c, .d .nilsl]) (.agg [a, b, c, .d (.vec sz [])]) := fun im w v h => by
  cases h with | agg _ vs hl hx =>
  refine .agg _ _ hl (fun i q v hc hv => ?_)
  match i with
  | 0 => exact hx 0 q v hc hv
  | 1 => exact hx 1 q v hc hv
  | 2 => exact hx 2 q v hc hv
  | 3 =>
    simp at hc; subst hc
    have h1 := hx 3 _ v rfl hv
    cases h1 with | d _ _ h1 => cases h1 with | nilsl => exact .d _ _ (.empty _ _ _)
  | i + 4 => simp at hc
theorem le_ctNil {x : CT × Int × Int} {a b : Int} (h : x = (CT.z, a, b)) : LeV (.tup [.agg [.d (.int .i64 0), .d (.str []), .d (.str []), .d .nilsl], .one (.d (.int .i64 a)), .one (.d (.int .i64 b))]) (.tup [ctV x.1, .one (.d (.int .i64 x.2.1)), .one (.d (.int .i64 x.2.2))]) := by
  subst h; exact LeV.tup3 (LeV.aggEnd _ _ _ 4) (LeV.refl _) (LeV.refl _)
theorem le_ct {x : CT × Int × Int} {c : CT} {a b : Int} (h : x = (c, a, b)) : LeV (.tup [ctV c, .one (.d (.int .i64 a)), .one (.d (.int .i64 b))]) (.tup [ctV x.1, .one (.d (.int .i64 x.2.1)), .one (.d (.int .i64 x.2.2))]) := by
  subst h; exact LeV.refl _
end Go.Proofs.YtjibdoagpegniaaGreatDoor

set_option linter.unusedVariables false
set_option linter.unusedSimpArgs false
set_option maxRecDepth 100000
set_option maxHeartbeats 4000000
namespace Go.Proofs.YtjibdoagpegniaaGreatDoor
open Go
open Go.RowKit
attribute [local irreducible] rangeB pathB nameB valueB visit visits checkP quoteL qAt nextT skipB wordE takeT failT isT adv condT condG listG shortG longG moreG signT toks parseP
theorem pc_adv0 (s : List UInt8) (hs : s.length ≤ 4000) : HCall Tryz.prog J 14 [.one (.ptr 0 0)] [[.d (.str s), .d (.int .i64 0), .d (.int .i64 0), .d (.int .i64 0), .d (.str []), .d (.int .i64 (-1))]] [] [] (isH (.tup []) [[.d (.str s), .d (.int .i64 ((hd ((⟨toks s, -1⟩ : PS)).T).e : Int)), .d (.int .i64 (hd ((⟨toks s, -1⟩ : PS)).T).k), .d (.int .i64 ((hd ((⟨toks s, -1⟩ : PS)).T).a : Int)), .d (.str (hd ((⟨toks s, -1⟩ : PS)).T).t), .d (.int .i64 ((⟨toks s, -1⟩ : PS)).w)]] [] []) := by
  have h := pc_advance s 0 0 0 (-1) [] hs (Nat.zero_le _)
  rw [← hd_toks s] at h
  exact h
theorem pc_ver_ParseCond (s : List UInt8) (hs : s.length < 4294967281) :
  PureCall Tryz.prog J 5 [.one (.d (.str s))] (.tup [ctV (parseP s).1, .one (.d (.int .i64 (parseP s).2.1)), .one (.d (.int .i64 (parseP s).2.2))]) := by
 refine PureCall.of_body tOk (fn := Tryz.f5) Tryz.func5 (by kernel_rfl) rfl (Nat.le_of_ble_eq_true rfl) (fun E => ?_)
 refine W.seq ?_
 refine W.region ?_
 refine S.alloc tOk rfl rfl rfl rfl ?_
 refine S.pure tOk zOk rfl rfl rfl ?_
 refine S.pure tOk zOk rfl rfl rfl ?_
 refine thenK_n ?_
 refine W.seq ?_
 refine W.seq ?_
 refine W.region ?_
 refine S.pure tOk zOk rfl rfl rfl ?_
 refine S.pure tOk zOk rfl rfl rfl ?_
 refine S.pure tOk zOk rfl rfl rfl ?_
 refine thenK_n ?_
 refine W.cond rfl (fun c1 => ?_) (fun c1 => ?_)
 ·skip
  refine W.seq ?_
  refine W.region ?_
  refine S.pure tOk zOk rfl rfl rfl ?_
  refine S.store tOk rfl rfl rfl rfl rfl rfl rfl rfl ?_
  refine S.pure tOk zOk rfl rfl rfl ?_
  refine S.pure tOk zOk rfl rfl rfl ?_
  refine thenK_n ?_
  refine W.ret ?_
  refine thenK_r ?_
  exact ⟨_, rfl, rfl, le_ctNil (pp_0 c1)⟩
 ·skip
  have hsz : s.length ≤ 4000 := by have := c1; simp at this; omega
  refine W.skip ?_
  refine thenK_n ?_
  refine W.seq ?_
  refine W.region ?_
  refine S.pure tOk zOk rfl rfl rfl ?_
  refine S.pure tOk zOk rfl rfl rfl ?_
  refine S.box rfl rfl rfl rfl ?_
  refine S.pure tOk zOk rfl rfl rfl ?_
  refine thenK_n ?_
  refine W.seq ?_
  refine W.region ?_
  refine S.pure tOk zOk rfl rfl rfl ?_
  refine S.hcallD rfl rfl rfl rfl ((pc_adv0 s hsz).frameD [1] [] [] rfl rfl rfl rfl rfl rfl rfl rfl rfl) ?_
  refine thenK_n ?_
  refine W.seq ?_
  refine W.region ?_
  refine S.pure tOk zOk rfl rfl rfl ?_
  refine S.hcallD rfl rfl rfl rfl ((pc_condC s hsz 100 0 (⟨toks s, -1⟩ : PS) rfl (toks_gd hsz)).frameD [1] [] [] rfl rfl rfl rfl rfl rfl rfl rfl rfl) ?_
  refine S.alloc tOk rfl rfl rfl rfl ?_
  refine S.store tOk rfl rfl rfl rfl rfl rfl rfl rfl ?_
  refine thenK_n ?_
  refine W.seq ?_
  refine W.seq ?_
  refine W.region ?_
  refine S.pure tOk zOk rfl rfl rfl ?_
  refine S.pure tOk zOk rfl rfl rfl ?_
  refine S.pure tOk zOk rfl rfl rfl ?_
  refine S.pure tOk zOk rfl rfl rfl ?_
  refine S.pure tOk zOk rfl rfl rfl ?_
  refine S.pure tOk zOk rfl rfl rfl ?_
  refine S.pureG tOk zOk rfl rfl tg (fun _ => rfl) rfl ?_
  refine S.pureG tOk zOk rfl rfl tg (fun _ => rfl) rfl ?_
  refine S.pureG tOk zOk rfl rfl tg (fun _ => rfl) rfl ?_
  refine S.pureG tOk zOk rfl rfl tg (fun _ => rfl) rfl ?_
  refine S.pureG tOk zOk rfl rfl tg (fun _ => rfl) rfl ?_
  refine S.pureG tOk zOk rfl rfl tg (fun _ => rfl) rfl ?_
  refine S.pickAnd tOk zOk rfl rfl tg ?_
  refine thenK_n ?_
  refine W.cond rfl (fun c2 => ?_) (fun c2 => ?_)
  ·skip
   have he := end_1 c2
   refine W.region ?_
   refine S.pure tOk zOk rfl rfl rfl ?_
   refine S.pure tOk zOk rfl rfl rfl ?_
   refine S.pure tOk zOk rfl rfl rfl ?_
   refine S.pure tOk zOk rfl rfl rfl ?_
   refine S.pure tOk zOk rfl rfl rfl ?_
   refine S.pure tOk zOk rfl rfl rfl ?_
   refine S.hcallD rfl rfl rfl rfl ((pc_fail s (condT 100 (⟨toks s, -1⟩ : PS)).2 ((hd (condT 100 (⟨toks s, -1⟩ : PS)).2.T).a : Int)).frameD [1] [] [] rfl rfl rfl rfl rfl rfl rfl rfl rfl) ?_
   refine thenK_n ?_
   refine W.seq ?_
   refine W.seq ?_
   refine W.region ?_
   refine S.pure tOk zOk rfl rfl rfl ?_
   refine S.pure tOk zOk rfl rfl rfl ?_
   refine S.pure tOk zOk rfl rfl rfl ?_
   refine S.pure tOk zOk rfl rfl rfl ?_
   refine S.pure tOk zOk rfl rfl rfl ?_
   refine thenK_n ?_
   refine W.cond rfl (fun c3 => ?_) (fun c3 => ?_)
   ·skip
    refine W.seq ?_
    refine W.regionS 6 mixed rfl (by kernel_rfl) ?_
    refine AnyZ.eager 0 rfl (by kernel_rfl) (Eag.pure tOk zOk rfl (fun _ _ _ => rfl) rfl rfl) ?_
    refine AnyZ.eager 1 rfl (by kernel_rfl) (Eag.pure tOk zOk rfl (fun _ _ _ => rfl) rfl rfl) ?_
    refine AnyZ.eager 2 rfl (by kernel_rfl) (Eag.pure tOk zOk rfl (fun _ _ _ => rfl) rfl rfl) ?_
    refine AnyZ.eager 3 rfl (by kernel_rfl) (Eag.pure tOk zOk rfl (fun _ _ _ => rfl) rfl rfl) ?_
    refine AnyZ.two 4 5 (by kernel_rfl) rfl rfl ?_ ?_
    ·skip
     refine OpZ.d ?_
     refine D.pure tOk zOk rfl rfl rfl rfl ?_
     refine WD.nil ?_
     refine AnyZ.one 5 (by kernel_rfl) rfl ?_
     refine OpZ.d ?_
     refine D.store tOk rfl rfl rfl rfl rfl rfl rfl rfl ?_
     refine WD.nil ?_
     refine AnyZ.nil (by kernel_rfl) ?_
     refine S.pure tOk zOk rfl rfl rfl ?_
     refine S.pure tOk zOk rfl rfl rfl ?_
     refine thenK_n ?_
     refine W.ret ?_
     refine thenK_r ?_
     exact ⟨_, rfl, rfl, le_ctNil (pp_1 c1 he c3)⟩
    ·skip
     refine OpZ.d ?_
     refine D.store tOk rfl rfl rfl rfl rfl rfl rfl rfl ?_
     refine WD.nil ?_
     refine AnyZ.one 4 (by kernel_rfl) rfl ?_
     refine OpZ.d ?_
     refine D.pure tOk zOk rfl rfl rfl rfl ?_
     refine WD.nil ?_
     refine AnyZ.nil (by kernel_rfl) ?_
     refine S.pure tOk zOk rfl rfl rfl ?_
     refine S.pure tOk zOk rfl rfl rfl ?_
     refine thenK_n ?_
     refine W.ret ?_
     refine thenK_r ?_
     exact ⟨_, rfl, rfl, le_ctNil (pp_1 c1 he c3)⟩
   ·skip
    refine W.skip ?_
    refine thenK_n ?_
    refine W.seq ?_
    refine W.seq ?_
    refine W.region ?_
    refine S.pure tOk zOk rfl rfl rfl ?_
    refine S.call rfl rfl rfl rfl rfl (pc_ver_CheckCond (condT 100 (⟨toks s, -1⟩ : PS)).1 (big_condT 100 (⟨toks s, -1⟩ : PS) (toks_tl hsz))) ?_
    refine S.pure tOk zOk rfl rfl rfl ?_
    refine thenK_n ?_
    refine W.seq ?_
    refine W.region ?_
    refine S.pure tOk zOk rfl rfl rfl ?_
    refine S.pure tOk zOk rfl rfl rfl ?_
    refine thenK_n ?_
    refine W.cond rfl (fun c4 => ?_) (fun c4 => ?_)
    ·skip
     refine W.seq ?_
     refine W.region ?_
     refine S.pure tOk zOk rfl rfl rfl ?_
     refine S.pure tOk zOk rfl rfl rfl ?_
     refine S.store tOk rfl rfl rfl rfl rfl rfl rfl rfl ?_
     refine S.pure tOk zOk rfl rfl rfl ?_
     refine S.pure tOk zOk rfl rfl rfl ?_
     refine thenK_n ?_
     refine W.ret ?_
     refine thenK_r ?_
     exact ⟨_, rfl, rfl, le_ctNil (pp_2 c1 he c3 c4)⟩
    ·skip
     refine W.skip ?_
     refine thenK_n ?_
     refine W.seq ?_
     refine W.region ?_
     refine S.pure tOk zOk rfl rfl rfl ?_
     refine S.store tOk rfl rfl rfl rfl rfl rfl rfl rfl ?_
     refine S.pure tOk zOk rfl rfl rfl ?_
     refine S.pure tOk zOk rfl rfl rfl ?_
     refine thenK_n ?_
     refine W.ret ?_
     exact ⟨_, rfl, rfl, le_ct (pp_3 c1 he c3 c4)⟩
  ·skip
   have he := end_0 c2
   refine W.skip ?_
   refine thenK_n ?_
   refine W.seq ?_
   refine W.seq ?_
   refine W.region ?_
   refine S.pure tOk zOk rfl rfl rfl ?_
   refine S.pure tOk zOk rfl rfl rfl ?_
   refine S.pure tOk zOk rfl rfl rfl ?_
   refine S.pure tOk zOk rfl rfl rfl ?_
   refine S.pure tOk zOk rfl rfl rfl ?_
   refine thenK_n ?_
   refine W.cond rfl (fun c5 => ?_) (fun c5 => ?_)
   ·skip
    refine W.seq ?_
    refine W.regionS 6 mixed rfl (by kernel_rfl) ?_
    refine AnyZ.eager 0 rfl (by kernel_rfl) (Eag.pure tOk zOk rfl (fun _ _ _ => rfl) rfl rfl) ?_
    refine AnyZ.eager 1 rfl (by kernel_rfl) (Eag.pure tOk zOk rfl (fun _ _ _ => rfl) rfl rfl) ?_
    refine AnyZ.eager 2 rfl (by kernel_rfl) (Eag.pure tOk zOk rfl (fun _ _ _ => rfl) rfl rfl) ?_
    refine AnyZ.eager 3 rfl (by kernel_rfl) (Eag.pure tOk zOk rfl (fun _ _ _ => rfl) rfl rfl) ?_
    refine AnyZ.two 4 5 (by kernel_rfl) rfl rfl ?_ ?_
    ·skip
     refine OpZ.d ?_
     refine D.pure tOk zOk rfl rfl rfl rfl ?_
     refine WD.nil ?_
     refine AnyZ.one 5 (by kernel_rfl) rfl ?_
     refine OpZ.d ?_
     refine D.store tOk rfl rfl rfl rfl rfl rfl rfl rfl ?_
     refine WD.nil ?_
     refine AnyZ.nil (by kernel_rfl) ?_
     refine S.pure tOk zOk rfl rfl rfl ?_
     refine S.pure tOk zOk rfl rfl rfl ?_
     refine thenK_n ?_
     refine W.ret ?_
     refine thenK_r ?_
     exact ⟨_, rfl, rfl, le_ctNil (pp_1 c1 he c5)⟩
    ·skip
     refine OpZ.d ?_
     refine D.store tOk rfl rfl rfl rfl rfl rfl rfl rfl ?_
     refine WD.nil ?_
     refine AnyZ.one 4 (by kernel_rfl) rfl ?_
     refine OpZ.d ?_
     refine D.pure tOk zOk rfl rfl rfl rfl ?_
     refine WD.nil ?_
     refine AnyZ.nil (by kernel_rfl) ?_
     refine S.pure tOk zOk rfl rfl rfl ?_
     refine S.pure tOk zOk rfl rfl rfl ?_
     refine thenK_n ?_
     refine W.ret ?_
     refine thenK_r ?_
     exact ⟨_, rfl, rfl, le_ctNil (pp_1 c1 he c5)⟩
   ·skip
    refine W.skip ?_
    refine thenK_n ?_
    refine W.seq ?_
    refine W.seq ?_
    refine W.region ?_
    refine S.pure tOk zOk rfl rfl rfl ?_
    refine S.call rfl rfl rfl rfl rfl (pc_ver_CheckCond (condT 100 (⟨toks s, -1⟩ : PS)).1 (big_condT 100 (⟨toks s, -1⟩ : PS) (toks_tl hsz))) ?_
    refine S.pure tOk zOk rfl rfl rfl ?_
    refine thenK_n ?_
    refine W.seq ?_
    refine W.region ?_
    refine S.pure tOk zOk rfl rfl rfl ?_
    refine S.pure tOk zOk rfl rfl rfl ?_
    refine thenK_n ?_
    refine W.cond rfl (fun c6 => ?_) (fun c6 => ?_)
    ·skip
     refine W.seq ?_
     refine W.region ?_
     refine S.pure tOk zOk rfl rfl rfl ?_
     refine S.pure tOk zOk rfl rfl rfl ?_
     refine S.store tOk rfl rfl rfl rfl rfl rfl rfl rfl ?_
     refine S.pure tOk zOk rfl rfl rfl ?_
     refine S.pure tOk zOk rfl rfl rfl ?_
     refine thenK_n ?_
     refine W.ret ?_
     refine thenK_r ?_
     exact ⟨_, rfl, rfl, le_ctNil (pp_2 c1 he c5 c6)⟩
    ·skip
     refine W.skip ?_
     refine thenK_n ?_
     refine W.seq ?_
     refine W.region ?_
     refine S.pure tOk zOk rfl rfl rfl ?_
     refine S.store tOk rfl rfl rfl rfl rfl rfl rfl rfl ?_
     refine S.pure tOk zOk rfl rfl rfl ?_
     refine S.pure tOk zOk rfl rfl rfl ?_
     refine thenK_n ?_
     refine W.ret ?_
     exact ⟨_, rfl, rfl, le_ct (pp_3 c1 he c5 c6)⟩
end Go.Proofs.YtjibdoagpegniaaGreatDoor

/- Plain words: the reference's words of a condition's text, and its reader. -/
set_option linter.unusedVariables false
set_option linter.unusedSimpArgs false
namespace Go.Proofs.YtjibdoagpegniaaGreatDoor
open Go
/-- A word: its text, its kind, its place, its value. -/
structure Wd where
  t : List UInt8
  k : Int
  a : Nat
  v : List UInt8
def Wd.z : Wd := ⟨[], 0, 0, []⟩
def wdD (w : Wd) : List D := [.str w.t, .int .u8 w.k, .int .i64 (w.a : Int), .str w.v]
def wK (x : Tok) : Int := if x.k == 0 then 101 else if x.k == 1 then 119 else if x.k == 2 then 113 else if x.k == 3 then ((x.t.getD 0 0).toNat : Int) else 33
def wOf (x : Tok) : Wd := ⟨if x.k == 1 || x.k == 3 then x.t else [], wK x, x.a, if x.k == 2 then x.t else []⟩
def endW (s : List UInt8) : Wd := ⟨[], 101, s.length, []⟩
def refL (s : List UInt8) : List Tok → List Wd
  | [] => []
  | [x] => if x.k == 4 then [wOf x, endW s] else [wOf x]
  | x :: y :: l => wOf x :: refL s (y :: l)
theorem ref_hd {s : List UInt8} {T : List Tok} (g : Good s T) : ∃ l, refL s T = wOf (hd T) :: l := by
  match T, g with
  | [x], g => unfold refL; split; exact ⟨_, rfl⟩; exact ⟨_, rfl⟩
  | x :: y :: l, g => exact ⟨_, rfl⟩
theorem ref_len {s : List UInt8} : ∀ {T : List Tok}, (refL s T).length ≤ T.length + 1
  | [] => by simp [refL]
  | [x] => by unfold refL; split <;> simp
  | x :: y :: l => by
    have := ref_len (s := s) (T := y :: l)
    show (refL s (y :: l)).length + 1 ≤ _
    simp at this ⊢; omega
/-- What 'is' says, and 'next' hands back. -/
def isR (k : Int) (x : List UInt8) (q : PS) : Bool := (decide (q.w < 0) && (wOf (hd q.T)).k == k) && (x == [] || (wOf (hd q.T)).t == x)
def noR (k : Int) (x : List UInt8) (q : PS) : Bool := (decide (q.w ≥ 0) || (wOf (hd q.T)).k != k) || (!(x == []) && !((wOf (hd q.T)).t == x))
def nxR (k : Int) (x : List UInt8) (q : PS) : Wd × PS :=
  if noR k x q then (Wd.z, if decide (q.w < 0) then ⟨q.T, (hd q.T).a⟩ else q)
  else (wOf (hd q.T), if (wOf (hd q.T)).k != 101 then advS q else q)
def stopR (q : PS) : PS := if decide (q.w < 0) then ⟨q.T, (hd q.T).a⟩ else q
def shortR (f : PS → CT × PS) (k : Int) (q : PS) : CT × PS :=
  if !(isR 41 [] q) then (.mk k [] [] [(f q).1], (nxR 41 [] (f q).2).2) else (.mk k [] [] [], (nxR 41 [] q).2)
def moreR (f : PS → CT × PS) (x : List UInt8) : Nat → Bool → List CT → PS → List CT × PS
  | 0, _, l, q => (l, q)
  | n + 1, b, l, q =>
    if decide (q.w < 0) then
      if b && isR 41 [] q then (l, (nxR 41 [] q).2)
      else moreR f x n true (l ++ [(f (nxR 119 x q).2).1]) (f (nxR 119 x q).2).2
    else (l, q)
def signR (q : PS) : List UInt8 := if isR 119 wOr q then wOr else wAnd
def longR (f : PS → CT × PS) (q : PS) : CT × PS :=
  let r := f q
  let m := moreR f (signR r.2) (r.2.T.length + 1) false [r.1] r.2
  (.mk (kindT (signR r.2)) [] [] m.1, m.2)
def groupR (f : PS → CT × PS) (q : PS) : CT × PS :=
  if isR 119 wAnd (nxR 40 [] q).2 then shortR f 7 (nxR 119 wAnd (nxR 40 [] q).2).2
  else if isR 119 wOr (nxR 40 [] q).2 then shortR f 8 (nxR 119 wOr (nxR 40 [] q).2).2
  else longR f (nxR 40 [] q).2
def factR (k : Int) (q : PS) : CT × PS :=
  let n := nxR 119 [] q
  let v := nxR 113 [] (nxR 61 [] n.2).2
  (.mk k n.1.t v.1.v [], v.2)
def versionR (q : PS) : CT × PS :=
  let n := nxR 119 [] q
  let v := nxR 113 [] (nxR 119 wIn n.2).2
  (.mk 5 n.1.t v.1.v [], v.2)
def haveR (q : PS) : CT × PS := (.mk 4 (nxR 119 [] q).1.t [] [], (nxR 119 [] q).2)
def condRG (last : Bool) (f : PS → CT × PS) (q : PS) : CT × PS :=
  if (isR 40 [] q || isR 119 wNot q) && last then (CT.z, ⟨q.T, (hd q.T).a⟩)
  else if isR 40 [] q then groupR f q
  else if isR 119 wAlways q then (.mk 1 [] [] [], (nxR 119 wAlways q).2)
  else if isR 119 wFact q then factR 2 (nxR 119 wFact q).2
  else if isR 119 wSetting q then factR 3 (nxR 119 wSetting q).2
  else if isR 119 wHas q then haveR (nxR 119 wHas q).2
  else if isR 119 wVersion q then versionR (nxR 119 wVersion q).2
  else if isR 119 wNot q then (.mk 6 [] [] [(f (nxR 119 wNot q).2).1], (f (nxR 119 wNot q).2).2)
  else (CT.z, stopR q)
def condR : Nat → PS → CT × PS
  | 0, q => condRG true (fun q => (CT.z, q)) q
  | n + 1, q => condRG false (condR n) q
def condRF : Nat → PS → CT × PS
  | 0 => fun q => (CT.z, q)
  | n + 1 => condR n
theorem condR_eq (n : Nat) (q : PS) : condR n q = condRG (n == 0) (condRF n) q := by cases n <;> rfl
theorem rch_nx (k : Int) (x : List UInt8) (q : PS) : Rch q.T (nxR k x q).2.T := by
  unfold nxR
  split
  · dsimp only; split <;> exact .refl _
  · dsimp only; split
    · exact rch_adv q
    · exact .refl _
theorem rch_stop (q : PS) : Rch q.T (stopR q).T := by unfold stopR; split <;> exact .refl _
section
variable {f : PS → CT × PS} (hf : ∀ q, Rch q.T (f q).2.T)
include hf
theorem rch_shortR (k : Int) (q : PS) : Rch q.T (shortR f k q).2.T := by
  unfold shortR; split
  · exact (hf q).trans (rch_nx _ _ _)
  · exact rch_nx _ _ _
theorem rch_moreR (x : List UInt8) : ∀ (n : Nat) (b : Bool) (l : List CT) (q : PS), Rch q.T (moreR f x n b l q).2.T
  | 0, b, l, q => .refl _
  | n + 1, b, l, q => by
    unfold moreR; split
    · split
      · exact rch_nx _ _ _
      · exact (rch_nx _ _ _).trans ((hf _).trans (rch_moreR x n _ _ _))
    · exact .refl _
theorem rch_groupR (q : PS) : Rch q.T (groupR f q).2.T := by
  unfold groupR
  split
  · exact (rch_nx _ _ _).trans ((rch_nx _ _ _).trans (rch_shortR hf _ _))
  · split
    · exact (rch_nx _ _ _).trans ((rch_nx _ _ _).trans (rch_shortR hf _ _))
    · exact (rch_nx _ _ _).trans ((hf _).trans (rch_moreR hf _ _ _ _ _))
omit hf in
theorem rch_factR (k : Int) (q : PS) : Rch q.T (factR k q).2.T := (rch_nx _ _ _).trans ((rch_nx _ _ _).trans (rch_nx _ _ _))
omit hf in
theorem rch_versionR (q : PS) : Rch q.T (versionR q).2.T := (rch_nx _ _ _).trans ((rch_nx _ _ _).trans (rch_nx _ _ _))
theorem rch_condRG (b : Bool) (q : PS) : Rch q.T (condRG b f q).2.T := by
  unfold condRG
  split
  · exact .refl _
  · split
    · exact rch_groupR hf q
    · split
      · exact rch_nx _ _ _
      · split
        · exact (rch_nx _ _ _).trans (rch_factR _ _)
        · split
          · exact (rch_nx _ _ _).trans (rch_factR _ _)
          · split
            · exact (rch_nx _ _ _).trans (rch_nx _ _ _)
            · split
              · exact (rch_nx _ _ _).trans (rch_versionR _)
              · split
                · exact (rch_nx _ _ _).trans (hf _)
                · exact rch_stop q
end
theorem rch_condR : ∀ (n : Nat) (q : PS), Rch q.T (condR n q).2.T
  | 0, q => rch_condRG (f := fun q => (CT.z, q)) (fun q => .refl _) true q
  | n + 1, q => rch_condRG (rch_condR n) false q
end Go.Proofs.YtjibdoagpegniaaGreatDoor

/- Plain words: how the reference cuts a condition's text into words. -/
set_option linter.unusedVariables false
set_option linter.unusedSimpArgs false
namespace Go.Proofs.YtjibdoagpegniaaGreatDoor
open Go
section
variable {s o : List UInt8} {i : Nat}
theorem qcat (hi : i < s.length) : V.one (.d (.str (o ++ (s.take ((i + 1 : Nat) : Int).toNat).drop ((i : Nat) : Int).toNat))) = V.one (.d (.str (o ++ [s.getD i 0]))) := by
  have h : (s.take (i + 1)).drop i = [s.getD i 0] := by
    rw [List.getD_eq_getElem?_getD, List.getElem?_eq_getElem hi, List.take_succ_eq_append_getElem hi, List.drop_append_of_le_length (by simp; omega)]
    simp
  show V.one (.d (.str (o ++ (s.take (i + 1)).drop i))) = _
  rw [h]
def spI (c : Int) : Bool := ((((c == 32 || c == 9) || c == 40) || c == 41) || c == 61) || c == 34
theorem spI_eq (c : UInt8) : spI (c.toNat : Int) = !(wch c) := by
  unfold spI wch blk sgn
  rw [← u8e c 32, ← u8e c 9, ← u8e c 40, ← u8e c 41, ← u8e c 61, ← u8e c 34]
  show ((((((c.toNat : Int) == 32 || (c.toNat : Int) == 9) || (c.toNat : Int) == 40) || (c.toNat : Int) == 41) || (c.toNat : Int) == 61) || (c.toNat : Int) == 34) = !(!((c.toNat : Int) == 32 || (c.toNat : Int) == 9) && !((((c.toNat : Int) == 40 || (c.toNat : Int) == 41) || (c.toNat : Int) == 61) || (c.toNat : Int) == 34))
  simp [Bool.or_assoc]
theorem nlen (hi : i < s.length) : ((i : Int) == (s.length : Int)) = false := by simp; omega
theorem cwd_skip (hi : i < s.length) (h : (((s.getD i 0).toNat : Int) == 32 || ((s.getD i 0).toNat : Int) == 9) = false) : skipB s i = i := by
  rw [blkI_eq] at h; exact skip_stop hi h rfl
theorem cwd_blank (hi : i < s.length) (h : (((s.getD i 0).toNat : Int) == 32 || ((s.getD i 0).toNat : Int) == 9) = true) : nextT s i = nextT s (i + 1) := by
  rw [blkI_eq] at h; unfold nextT; rw [skip_go hi h rfl]
theorem cwd_sgn (hb : (((s.getD i 0).toNat : Int) == 32 || ((s.getD i 0).toNat : Int) == 9) = false) (hq : (s.getD i 0 == 34) = false) (h : spI ((s.getD i 0).toNat : Int) = true) : sgn (s.getD i 0) = true := by
  rw [spI_eq] at h; rw [blkI_eq] at hb
  unfold wch at h; rw [hb, hq] at h; simpa using h
theorem cwd_nsg (h : spI ((s.getD i 0).toNat : Int) = false) : sgn (s.getD i 0) = false ∧ wch (s.getD i 0) = true := by
  rw [spI_eq] at h
  have h2 : wch (s.getD i 0) = true := by simpa using h
  refine ⟨?_, h2⟩
  unfold wch at h2; simp only [Bool.and_eq_true, Bool.not_eq_true', Bool.or_eq_false_iff] at h2
  exact h2.2.1
theorem cwd_end {p : Nat} (hi : i ≤ s.length) (hk : wordE s i = wordE s p) (h : (decide ((i : Int) < (s.length : Int)) && !(spI ((s.getD i 0).toNat : Int))) = false) : wordE s p = i := by
  rw [spI_eq, Bool.not_not] at h
  rcases Nat.lt_or_ge i s.length with h1 | h1
  · exact word_stop h1 (by simpa [h1] using h) hk
  · exact word_end h1 hi hk
theorem cwd_t {b : Bool} {c : UInt8} (h : (b && !(spI (c.toNat : Int))) = true) : wch c = true := by
  rw [spI_eq, Bool.not_not] at h; exact (Bool.and_eq_true_iff.1 h).2
theorem sgn_34 {c : UInt8} (h : (c == 34) = true) : sgn c = false := by
  obtain rfl : c = 34 := by simpa using h
  rfl
theorem wd_snoc {l : List Wd} {w : Wd} {d : List D} (h : wdD w = d) : l.map wdD ++ [d] = (l ++ [w]).map wdD := by rw [List.map_append, ← h]; rfl
end
section
variable {s : List UInt8} {T : List Tok}
theorem ref_step (g : Good s T) (hk : ((hd T).k == 0 || (hd T).k == 4) = false) : refL s T = wOf (hd T) :: refL s (adv T) ∧ hd (adv T) = nextT s (hd T).e ∧ Good s (adv T) := by
  match T, g, hk with
  | [x], g, hk => have := g.2; rw [show (x.k == 0 || x.k == 4) = false from hk] at this; cases this
  | x :: y :: l, g, hk => exact ⟨rfl, g.1.1.symm, g.2.2⟩
theorem ref_end (g : Good s T) (hk : ((hd T).k == 0) = true) : refL s T = [wOf (hd T)] := by
  match T, g, hk with
  | [x], g, hk =>
    have : x.k = 0 := by simpa [hd] using hk
    unfold refL; rw [this]; rfl
  | x :: y :: l, g, hk => have := g.2.1; rw [show (x.k == 0) = true from hk] at this; cases this
theorem ref_bad (g : Good s T) (hk : ((hd T).k == 4) = true) : refL s T = [wOf (hd T), endW s] := by
  match T, g, hk with
  | [x], g, hk =>
    have : x.k = 4 := by simpa [hd] using hk
    unfold refL; rw [this]; rfl
  | x :: y :: l, g, hk => have := g.2.1; rw [show (x.k == 4) = true from hk] at this; simp at this
theorem end_tok : nextT s s.length = ⟨0, s.length, [], s.length⟩ := by
  have : skipB s s.length = s.length := skip_end (Nat.le_refl _) (Nat.le_refl _) rfl
  exact nx_end this (by simp)
theorem end_good : Good s [nextT s s.length] := by
  rw [end_tok]; exact ⟨⟨end_tok, Nat.le_refl _⟩, rfl⟩
theorem end_ref : refL s [nextT s s.length] = [endW s] := by rw [end_tok]; rfl
variable {l A : List Wd} (h : l ++ refL s T = A)
include h
theorem cwd_go (g : Good s T) (hk : ((hd T).k == 0 || (hd T).k == 4) = false) : (l ++ [wOf (hd T)]) ++ refL s (adv T) = A := by
  rw [← h, (ref_step g hk).1]; simp
theorem cwd_bad (g : Good s T) (hk : ((hd T).k == 4) = true) : (l ++ [wOf (hd T)]) ++ refL s [nextT s s.length] = A := by
  rw [← h, ref_bad g hk, end_ref]; simp
theorem cwd_all (g : Good s T) (hk : ((hd T).k == 0) = true) : l ++ [wOf (hd T)] = A := by rw [← h, ref_end g hk]
theorem cwd_len (hA : A.length ≤ 5001) : l.length ≤ 5001 := by
  have := congrArg List.length h
  simp at this; omega
end
theorem toks_ref {s : List UInt8} (hs : s.length ≤ 4000) : (refL s (toks s)).length ≤ 5001 := by
  have h1 := (toks_gd hs).2
  have h2 := ref_len (s := s) (T := toks s)
  omega
section
variable {s : List UInt8} {q : PS}
theorem r0_at (g : Good s q.T) : V.one (.eptr (((refL s q.T).map wdD).getD ((0 : Int)).toNat [])) = V.one (.eptr (wdD (wOf (hd q.T)))) := by
  obtain ⟨l, hl⟩ := ref_hd g; rw [hl]; rfl
theorem r0_ok (g : Good s q.T) : (decide (0 ≤ (0 : Int)) && decide ((0 : Int) < (((refL s q.T).map wdD).length : Int))) = true := by
  obtain ⟨l, hl⟩ := ref_hd g; rw [hl, List.map_cons, List.length_cons]
  exact idx_ok (by omega) (by omega)
theorem r0_pos (g : Good s q.T) : 1 ≤ (((refL s q.T).map wdD).length : Int) := by
  obtain ⟨l, hl⟩ := ref_hd g; rw [hl, List.map_cons, List.length_cons]; omega
theorem no_kind {k : Int} {x : List UInt8} (hk : k ≠ 33) (h : noR k x q = false) (h2 : ((wOf (hd q.T)).k != 101) = true) : ((hd q.T).k == 0 || (hd q.T).k == 4) = false := by
  have h1 : (wOf (hd q.T)).k = k := by
    unfold noR at h; simp only [Bool.or_eq_false_iff] at h; simpa using h.1.2
  have h3 : (wOf (hd q.T)).k = wK (hd q.T) := rfl
  rw [h3] at h1 h2
  have e0 : ((hd q.T).k == 0) = false := by
    cases h0 : ((hd q.T).k == 0) with
    | false => rfl
    | true => unfold wK at h2; rw [if_pos h0] at h2; cases h2
  have e4 : ((hd q.T).k == 4) = false := by
    cases h0 : ((hd q.T).k == 4) with
    | false => rfl
    | true =>
      have h4 : (hd q.T).k = 4 := by simpa using h0
      unfold wK at h1; rw [h4] at h1; exact absurd h1.symm hk
  rw [e0, e4]; rfl
theorem rest_at (g : Good s q.T) (hk : ((hd q.T).k == 0 || (hd q.T).k == 4) = false) : V.one (.d (.vec 4 ((((refL s q.T).map wdD).take ((((refL s q.T).map wdD).length : Int)).toNat).drop ((1 : Int)).toNat))) = V.one (.d (.vec 4 ((refL s (adv q.T)).map wdD))) := by
  have h1 : ((((refL s q.T).map wdD).length : Int)).toNat = ((refL s q.T).map wdD).length := by simp
  rw [h1, List.take_length, (ref_step g hk).1]
  rfl
theorem nx_err {k : Int} {x : List UInt8} (h : noR k x q = true) (h2 : decide (q.w < 0) = true) : nxR k x q = (Wd.z, ⟨q.T, (hd q.T).a⟩) := by unfold nxR; rw [if_pos h, if_pos h2]
theorem nx_old {k : Int} {x : List UInt8} (h : noR k x q = true) (h2 : decide (q.w < 0) = false) : nxR k x q = (Wd.z, q) := by unfold nxR; rw [if_pos h, if_neg (by rw [h2]; simp)]
theorem nx_go {k : Int} {x : List UInt8} (h : noR k x q = false) (h2 : ((wOf (hd q.T)).k != 101) = true) : nxR k x q = (wOf (hd q.T), advS q) := by unfold nxR; rw [if_neg (by rw [h]; simp), if_pos h2]
theorem nx_stay {k : Int} {x : List UInt8} (h : noR k x q = false) (h2 : ((wOf (hd q.T)).k != 101) = false) : nxR k x q = (wOf (hd q.T), q) := by unfold nxR; rw [if_neg (by rw [h]; simp), if_neg (by rw [h2]; simp)]
end
end Go.Proofs.YtjibdoagpegniaaGreatDoor
