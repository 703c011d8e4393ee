/- Part 1 of a proof: A17, A18, A19, Ty, A20, Shelf, P0, L1, V1, W1, V2, L2, W2, V3, W3, P1, V4. -/
import Derived.Laws.AppendOwn
import Derived.Laws.OwnMore
import Derived.Test.YtlkhdembbogcaaaGreatDoorProg
import Derived.KernelRfl
import Derived.Shelf.Strings.Builder1
import Derived.Shelf.Strings.Builder2
import Derived.Shelf.Strings.Trim
import Derived.Shelf.Small.Utf8
import Derived.Shelf.Small.Strs
import Derived.Shelf.Small.Wraps
import Derived.Shelf.Strings.BuilderF
import Derived.Shelf.Utf8.RuneCount
import Derived.Shelf.Strconv.Atoi
import Derived.Shelf.Strconv.Itoa0
import Derived.Shelf.Strconv.Itoa1
import Derived.Shelf.LaysM
import Derived.Shelf.Strconv.Itoa2
import Derived.Shelf.Strconv.Itoa3
import Derived.Shelf.Strconv.AtoiErrFast
import Derived.Shelf.Strconv.ParseIntEmpty
import Derived.Shelf.Strconv.AtoiFail
import Derived.Shelf.Strconv.Clone
import Derived.Shelf.Strconv.SyntaxError
import Derived.Shelf.LaysC
import Derived.Shelf.Strconv.ToError
import Derived.Shelf.Strconv.Lower
import Derived.Shelf.Strconv.ParseUint10
import Derived.Shelf.Strconv.ParseUint10Empty
import Derived.Shelf.Strconv.ParseUint10Any
import Derived.Shelf.Strconv.ParseInt10
import Derived.Shelf.Strconv.AtoiLong
import Derived.Shelf.Strconv.AtoiInnerAll
import Derived.Shelf.Strconv.RangeError
import Derived.Shelf.Strconv.ToErrorRange
import Derived.Shelf.Strconv.AtoiAll
import Derived.Shelf.Strconv.ErrVarAll
import Derived.Shelf.Strings.Search1
import Derived.Shelf.Strings.Search2
import Derived.Shelf.Strings.Search3
import Derived.Shelf.Strings.Cut
import Derived.Shelf.Strings.Count
import Derived.Shelf.Strings.Shaped
import Derived.Shelf.Strings.Prefix
import Derived.Shelf.Strings.Split
import Derived.Shelf.Strings.SplitShaped
import Derived.Shelf.Unicode.Decode
import Derived.Shelf.Strings.Runes
import Derived.Shelf.Strings.RuneCount
import Derived.Shelf.Strings.AsciiSet
import Derived.Shelf.Strings.Explode
import Derived.Shelf.Bits.Mul64
import Derived.Shelf.Strings.Repeat
import Derived.Shelf.Unicode.DecodeSlow
import Derived.Shelf.Unicode.DecodeAny
import Derived.Shelf.Unicode.DecodeLast
import Derived.Shelf.Slices.Equal
import Derived.Ground.Names2Prog
import Derived.Shelf.Slices.SearchI
import Derived.Shelf.Slices.Empties2
import Derived.Lib.SplitLaws
import Derived.Lib.ItoaNum
import Derived.Lib.AtoiAll
import Derived.Shelf.Strings.SlTrimAscii
import Derived.Lib.TrailingZeros
import Derived.Lib.Small
import Derived.Lib.Bytealg
import Derived.Lib.IndexMore
import Derived.Lib.ItoaLen
import Derived.Lib.SlTrimSet
import Derived.Lib.AtoiTie
import Derived.Test.YtlkhdembbogcaaaGreatDoorMCSharesMatch0
/- Own rows: append. -/
set_option linter.unusedVariables false
set_option linter.unusedSimpArgs false
namespace Go.Proofs.YtlkhdembbogcaaaGreatDoor
open Go Go.RowKit
variable {P : Program}
/-- Where an appended row lies: where it lay, or behind the heap's end. -/
theorem append_cases {w : World} (base : Nat) (t ty e : TypeId) (i : TypeInfo) (z : Value) (size bytes : Nat) (ht : P.underlying t = some (.slice e)) (hi : P.info? e = some i) (hz : i.zero = some z)
    (hsize : i.size = size) (hby : i.bytes = bytes) (hzs : z.cells.size = size) (hsz : 0 < size) (v : Value) (n : Nat) (xs : List Value) (hown : w.ownsRow base e size v n xs)
    (a : Addr) (m c : Nat) (news : List Value) (hl : news.length = m * size) (hnews : ∀ j u, news[j]? = some u → w.cell? (a.add j) = some u) (h1 : ∀ u ∈ news, u.oneCell' = true)
    (h63 : n + m ≤ maxLen) (hbytes : (n + m) * bytes ≤ 140737488355328) (hbase : base ≤ w.heap.size) :
    ∃ v' w', (Builtin.append_ #[t, t] ty #[v, .slice (some a) m c]).run P w = .ok v' w' ∧ w'.ownsRow base e size v' (n + m) (xs ++ news) ∧ w.grownBy w' v.ownBlock ∧
      (v' = .slice none 0 0 ∨ ∃ g cap, v' = .slice (some ⟨g, 0, none⟩) (n + m) cap ∧ (v.ownBlock = some g ∨ g = w.heap.size)) ∧ (v' = .slice none 0 0 ↔ v = .slice none 0 0 ∧ m = 0) := by
  obtain ⟨v', w', hr, ho', hg, hn⟩ := run_append_own w base t ty e i z size bytes ht hi hz hsize hby hzs hsz v n xs hown a m c news hl hnews h1 h63 hbytes hbase
  refine ⟨v', w', hr, ho', hg, ?_, hn⟩
  have h63' : ((n + m : Nat) : Int) ≤ 9223372036854775807 := by simp only [maxLen] at h63; omega
  subst hsize; subst hby
  rcases hown.2 with ⟨rfl, rfl⟩ | ⟨g, cap, cur, rfl, hb, hcell, hnc, hcm, hcs, htk⟩
  · by_cases hm : m = 0
    · exact .inl (hn.2 ⟨rfl, hm⟩)
    · have h2 := run_append_nil (P := P) w t ty e i z ht hi hz a m c news hl hnews (by omega) (by simpa using h63') (by rw [Nat.zero_add] at hbytes; omega)
      rw [h2] at hr
      injection hr with e1 e2
      exact .inr ⟨_, _, by rw [← e1, Nat.zero_add], .inr rfl⟩
  · by_cases hroom : n + m ≤ cap
    · obtain ⟨w2, h2, _⟩ := run_append_fits (P := P) w base t ty e i i.size ht hi rfl g n cap xs ⟨hown.1, .inr ⟨g, cap, cur, rfl, hb, hcell, hnc, hcm, hcs, htk⟩⟩ a m c news hl hnews h1 hroom
      rw [h2] at hr
      injection hr with e1 e2
      exact .inr ⟨_, _, e1.symm, .inl rfl⟩
    · have hold : ∀ j u, xs[j]? = some u → w.cell? ((⟨g, 0, none⟩ : Addr).add j) = some u := fun j u hj => by
        have hjl := (List.getElem?_eq_some_iff.1 hj).1
        rw [← htk, List.getElem?_take] at hj
        split at hj
        · have : w.cell? ((⟨g, 0, none⟩ : Addr).add j) = cur[j]? := by
            unfold Addr.add
            split
            · rename_i h0; subst h0; simp [World.cell?, hcell]
            · simp [World.cell?, hcell]
          rw [this]; simpa using hj
        · cases hj
      have h2 := run_append_grow (P := P) w t ty e i z ht hi hz ⟨g, 0, none⟩ n cap xs hown.1 hold a m c news hl hnews (by omega) h63' (growslice_fits (by omega) hbytes)
      rw [h2] at hr
      injection hr with e1 e2
      exact .inr ⟨_, _, e1.symm, .inr rfl⟩
/-- The ghost with a row's place told anew. -/
def Gh.row (g : Gh) (r at' cap' : Nat) : Gh := ⟨g.im, fun x => if x = .r r then at' else g.at_ x, fun l => if l = r then 0 else g.off l, fun l => if l = r then cap' else g.cap l⟩
def RowFit (im : Nat → Prop) (w : World) (o : RowO) (at' cap' : Nat) : Prop :=
  ∃ vs, w.heap[at']? = some (.cells vs o.ty (0, 0)) ∧ vs.size = cap' * o.sz ∧ cap' ≤ maxLen ∧ o.xs.length ≤ cap' ∧ (∀ x ∈ o.xs, x.length = o.sz) ∧ (∀ v ∈ vs, True) ∧
    (∀ (i j : Nat) (x : List D) (d : D) (v : Value), o.xs[i]? = some x → x[j]? = some d → vs[i * o.sz + j]? = some v → RD im w d v)
def St.withRow (s : St) (r : Nat) (o : RowO) : St := ⟨s.t, s.b, s.r.set r (some o), s.m⟩
theorem rows_get {s : St} {r : Nat} {o : RowO} (ho : s.r[r]? = some (some o)) : s.sh.rows[r]? = some (some o.form) := by simp [St.sh, ho]
theorem Rel.setRow {J : Inv} {k0 : Lens} {E : Env J k0} {n : Nat} {g : Gh} {s : St} {a : Act} {w w' : World} (rel : Rel E n g s a w) {r : Nat} {o o' : RowO} (ho : s.r[r]? = some (some o)) (hver : o.ver < o'.ver) {at' cap' : Nat}
    (hos : w'.os = w.os) (htape : w'.tape = w.tape) (hout : w'.output = w.output) (hsize : w.heap.size ≤ w'.heap.size)
    (hblk : ∀ k, k < w.heap.size → (o.al = true → k ≠ g.at_ (.r r)) → w'.heap[k]? = w.heap[k]?)
    (hnew : o'.al = true → (o.al = true ∧ at' = g.at_ (.r r)) ∨ (w.heap.size ≤ at')) (hfit : if o'.al then RowFit g.im w' o' at' cap' else o'.xs = []) :
    Rel E n (g.row r at' cap') (s.withRow r o') a w' ∧ Ext g s.sh w (g.row r at' cap') (s.withRow r o').sh w' := by
  have hr : r < s.r.length := (List.getElem?_eq_some_iff.1 ho).1
  have hrl : o.al = true → s.live (.r r) := fun h => ⟨o, ho, h⟩
  have hatr : (g.row r at' cap').at_ (.r r) = at' := by simp [Gh.row]
  have hato : ∀ x, x ≠ .r r → (g.row r at' cap').at_ x = g.at_ x := fun x hx => by simp [Gh.row, hx]
  have hin : at' < w'.heap.size ∨ o'.al = false := by
    cases hal : o'.al with
    | false => exact .inr rfl
    | true =>
      rw [hal, if_pos rfl] at hfit
      obtain ⟨vs, h, _⟩ := hfit
      exact .inl (Array.getElem?_eq_some_iff.1 h).1
  have hlive : ∀ x, (s.withRow r o').live x → x ≠ .r r → s.live x := fun x hx hne => by
    cases x with
    | b l => exact hx
    | m l => exact hx
    | r l =>
      obtain ⟨q, hq, hal⟩ := hx
      have hne' : r ≠ l := fun e => hne (by rw [e])
      refine ⟨q, ?_, hal⟩
      simpa [St.withRow, List.getElem?_set, hne'] using hq
  have hself : (s.withRow r o').live (.r r) → o'.al = true := fun ⟨q, hq, hal⟩ => by
    have : q = o' := by simpa [St.withRow, List.getElem?_set, hr] using hq.symm
    rw [← this]; exact hal
  have hsame : ∀ b, g.im b → w'.heap[b]? = w.heap[b]? := fun b hb => hblk b (rel.imlt b hb) (fun hal e => rel.heap.new _ (hrl hal) (e ▸ hb))
  have hkeep : ∀ x, s.live x → x ≠ .r r → w'.heap[g.at_ x]? = w.heap[g.at_ x]? := fun x hx hne => hblk _ (rel.heap.lt x hx) (fun hal e => hne (rel.heap.inj x (.r r) hx (hrl hal) e))
  have ext : Ext g s.sh w (g.row r at' cap') (s.withRow r o').sh w' := by
    refine ⟨fun b hb => hb, hsame, Nat.le_refl _, Nat.le_refl _, by simp [St.sh, St.withRow], fun l _ => hato _ (by simp), fun l _ => hato _ (by simp), fun q al ver sz len hq h => ?_⟩
    by_cases e : q = r
    · subst e
      refine ⟨_, _, _, _, rows_get ho, ?_, ?_⟩
      · simp [St.sh, St.withRow, List.getElem?_set, hr, RowO.form] at h
        obtain ⟨_, h, _⟩ := h
        omega
      · intro he
        simp [St.sh, St.withRow, List.getElem?_set, hr, RowO.form] at h
        obtain ⟨_, h, _⟩ := h
        omega
    · have hne : ¬ r = q := fun e' => e e'.symm
      have h' : s.sh.rows[q]? = some (some (al, ver, sz, len)) := by
        simpa [St.sh, St.withRow, List.getElem?_set, hne] using h
      exact ⟨al, ver, sz, len, h', Nat.le_refl _, fun _ => ⟨rfl, rfl, Nat.le_refl _, hato _ (by simp [e]), by simp [Gh.row, e], by simp [Gh.row, e]⟩⟩
  refine ⟨?_, ext⟩
  have hown : ∀ x, (s.withRow r o').live x → E.lent ((g.row r at' cap').at_ x) ∨ E.w0.heap.size ≤ (g.row r at' cap').at_ x := fun x hx => by
    by_cases e : x = .r r
    · subst e
      rw [hatr]
      rcases hnew (hself hx) with ⟨h1, h2⟩ | h
      · rw [h2]; exact rel.own _ (hrl h1)
      · exact .inr (Nat.le_trans rel.below.size h)
    · rw [hato x e]; exact rel.own x (hlive x hx e)
  have hbel : BelowX E.lent E.w0 w' := rel.below.trans (l2 := fun k => o.al = true ∧ k = g.at_ (.r r)) ⟨hos, htape, hout, hsize, fun k hk hn => hblk k hk (fun hal e => hn ⟨hal, e⟩)⟩ (fun k ⟨hal, e⟩ hk => by
    rcases rel.own _ (hrl hal) with h | h
    · rw [e]; exact h
    · omega)
  refine ⟨hbel, rel.ext.trans ext, fun b hb => Nat.lt_of_lt_of_le (rel.imlt b hb) hsize, rel.imold, hown, ⟨fun x hx => ?_, fun x hx => ?_, fun x y hx hy he => ?_, fun l cs hl => ?_, fun l q hq => ?_, fun l es hl => ?_⟩, rel.size, rel.defers, fun i hi => (rel.tmps i hi).mono ext⟩
  · by_cases e : x = .r r
    · subst e
      rw [hatr]
      exact hin.resolve_right (by rw [hself hx]; simp)
    · rw [hato x e]; exact Nat.lt_of_lt_of_le (rel.heap.lt x (hlive x hx e)) hsize
  · by_cases e : x = .r r
    · subst e
      rw [hatr]
      rcases hnew (hself hx) with ⟨h1, h2⟩ | h
      · rw [h2]; exact rel.heap.new _ (hrl h1)
      · intro hb; have := rel.imlt _ hb; omega
    · rw [hato x e]; exact rel.heap.new x (hlive x hx e)
  · have cross : ∀ z, (s.withRow r o').live z → z ≠ .r r → (s.withRow r o').live (.r r) → at' = g.at_ z → False := fun z hz hne hx he => by
      rcases hnew (hself hx) with ⟨h1, h2⟩ | h
      · exact hne (rel.heap.inj z (.r r) (hlive z hz hne) (hrl h1) (by rw [← he, h2]))
      · have := rel.heap.lt z (hlive z hz hne); omega
    by_cases e1 : x = .r r
    · by_cases e2 : y = .r r
      · rw [e1, e2]
      · subst e1
        rw [hatr, hato y e2] at he
        exact (cross y hy e2 hx he).elim
    · by_cases e2 : y = .r r
      · subst e2
        rw [hatr, hato x e1] at he
        exact (cross x hx e1 hy he.symm).elim
      · rw [hato x e1, hato y e2] at he
        exact rel.heap.inj x y (hlive x hx e1) (hlive y hy e2) he
  · have hl' : s.b[l]? = some cs := hl
    obtain ⟨vs, t, h1, h2, h3⟩ := rel.heap.box l cs hl'
    have hlv : s.live (.b l) := (List.getElem?_eq_some_iff.1 hl').1
    exact ⟨vs, t, by rw [hato _ (by simp), hkeep _ hlv (by simp)]; exact h1, h2, fun j c v hc hv => (h3 j c v hc hv).mono ext⟩
  · by_cases e : l = r
    · subst e
      have hq' : q = o' := by simpa [St.withRow, List.getElem?_set, hr] using hq.symm
      subst hq'
      by_cases hal : q.al = true
      · rw [if_pos hal] at hfit ⊢
        obtain ⟨vs, h1, h2, h3, h4, h5, h6, h7⟩ := hfit
        have ho0 : (g.row l at' cap').off l = 0 := by simp [Gh.row]
        have hc0 : (g.row l at' cap').cap l = cap' := by simp [Gh.row]
        rw [hatr, ho0, hc0]
        exact ⟨vs, q.ty, h1, ⟨by rw [Nat.zero_add]; exact h2, rfl, rfl, h3⟩, h4, h5, h6, fun i j x d v p1 p2 p3 => h7 i j x d v p1 p2 (by rwa [Nat.zero_add] at p3)⟩
      · rw [if_neg hal] at hfit ⊢; exact hfit
    · have hne : ¬ r = l := fun e' => e e'.symm
      have hq' : s.r[l]? = some (some q) := by simpa [St.withRow, List.getElem?_set, hne] using hq
      have h := rel.heap.row l q hq'
      by_cases hal : q.al = true
      · rw [if_pos hal] at h ⊢
        obtain ⟨vs, t, h1, h2, h3, h4, h5, h6⟩ := h
        have ho0 : (g.row r at' cap').off l = g.off l := by simp [Gh.row, e]
        have hc0 : (g.row r at' cap').cap l = g.cap l := by simp [Gh.row, e]
        have hlv : s.live (.r l) := ⟨q, hq', hal⟩
        rw [hato _ (by simp [e]), ho0, hc0]
        exact ⟨vs, t, by rw [hkeep _ hlv (by simp [e])]; exact h1, h2, h3, h4, h5, fun i j x d v p1 p2 p3 => (h6 i j x d v p1 p2 p3).mono ext.im ext.same⟩
      · rw [if_neg hal] at h ⊢; exact h
  · have hl' : s.m[l]? = some es := hl
    obtain ⟨arr, clock, h1, h2, h3⟩ := rel.heap.map l es hl'
    have hlv : s.live (.m l) := (List.getElem?_eq_some_iff.1 hl').1
    exact ⟨arr, clock, by rw [hato _ (by simp), hkeep _ hlv (by simp)]; exact h1, h2, fun i x y hx hy => ⟨(h3 i x y hx hy).1.mono ext, (h3 i x y hx hy).2.mono ext⟩⟩
theorem RD.of_im {im : Nat → Prop} {w w' : World} {d : D} {v : Value} (h : RD im w d v) (hs : ∀ b, im b → w'.heap[b]? = w.heap[b]?) : RD im w' d v := h.mono (fun _ h => h) hs
theorem row_form {J : Inv} {k0 : Lens} {E : Env J k0} {n : Nat} {g : Gh} {s : St} {a : Act} {w : World} (rel : Rel E n g s a w) {r : Nat} {o : RowO} (ho : s.r[r]? = some (some o)) {u : Value} (hu : RV g s.sh w (.one (.row r o.ver 0 o.xs.length)) u) :
    ∃ flat, w.ownsRow 0 o.ty o.sz u o.xs.length flat ∧ (u = .slice none 0 0 ↔ o.al = false) ∧ (o.al = true → u.ownBlock = some (g.at_ (.r r))) ∧
      (∀ (i j : Nat) (x : List D) (d : D) (v : Value), o.xs[i]? = some x → x[j]? = some d → flat[i * o.sz + j]? = some v → RD g.im w d v) ∧ (∀ x ∈ o.xs, x.length = o.sz) := by
  cases hu with | one _ _ hu => cases hu with | row _ _ _ _ _ h1 h2 hx =>
  obtain ⟨_, hx⟩ := hx _ _ _ _ (rows_get ho)
  obtain ⟨_, hx⟩ := hx rfl
  have hrow := rel.heap.row r o ho
  by_cases hal : o.al = true
  · rw [if_pos hal] at hrow hx
    obtain ⟨vs, t', q1, ⟨q2, q3, q4, q5⟩, q6, q7, _, q8⟩ := hrow
    rw [q4] at hx q2 q8
    simp only [Nat.zero_add, Nat.zero_mul, Nat.sub_zero] at hx q2 q8
    subst q3
    have hle : o.xs.length * o.sz ≤ vs.size := by rw [q2]; exact Nat.mul_le_mul_right _ q6
    refine ⟨vs.toList.take (o.xs.length * o.sz), ⟨by simp; omega, .inr ⟨g.at_ (.r r), g.cap r, vs, hx, Nat.zero_le _, q1, q6, q5, q2, rfl⟩⟩, ?_, fun _ => by rw [hx]; rfl, fun i j x d v p1 p2 p3 => ?_, q7⟩
    · rw [hx, hal]; simp
    · refine q8 i j x d v p1 p2 ?_
      rw [List.getElem?_take] at p3
      split at p3
      · simpa using p3
      · cases p3
  · have hf : o.al = false := by simpa using hal
    rw [if_neg hal] at hrow hx
    rw [hrow]
    exact ⟨[], ⟨by simp, .inl ⟨hx, rfl⟩⟩, by rw [hx, hf]; simp, fun h => absurd h hal, fun i j x d v p1 => by simp at p1, by simp⟩
theorem Rel.append {J : Inv} {k0 : Lens} {E : Env J k0} {T : TypeId → Option TI} (hT : TabOk P T) {n : Nat} {g : Gh} {s : St} {a : Act} {w : World} (rel : Rel E n g s a w) {t e ty : TypeId} {ti ei : TI} (hti : T t = some ti) (hd : ti.desc = .slice e)
    (hei : T e = some ei) (hz : ei.zero.cells.size = ei.size) (hpos : 0 < ei.size) {r : Nat} {o : RowO} (ho : s.r[r]? = some (some o)) (hsz : o.sz = ei.size) (hty : o.ty = e) {news : List (List D)} {u v : Value}
    (hu : RV g s.sh w (.one (.row r o.ver 0 o.xs.length)) u) (hv : RV g s.sh w (.one (.d (.vec ei.size news))) v) (h63 : o.xs.length + news.length ≤ maxLen) (hb : (o.xs.length + news.length) * ei.bytes ≤ 140737488355328) :
    ∃ v' w' g', (Builtin.append_ #[t, t] ty #[u, v]).run P w = .ok v' w' ∧ Rel E n g' (s.withRow r ⟨o.al || !news.isEmpty, o.ver + 1, o.sz, o.ty, o.xs ++ news⟩) a w' ∧
      Ext g s.sh w g' (s.withRow r ⟨o.al || !news.isEmpty, o.ver + 1, o.sz, o.ty, o.xs ++ news⟩).sh w' ∧
      RV g' (s.withRow r ⟨o.al || !news.isEmpty, o.ver + 1, o.sz, o.ty, o.xs ++ news⟩).sh w' (.one (.row r (o.ver + 1) 0 (o.xs ++ news).length)) v' := by
  have hr : r < s.r.length := (List.getElem?_eq_some_iff.1 ho).1
  obtain ⟨flat, hown, hnil, hblk, hcells, hrows⟩ := row_form rel ho hu
  obtain ⟨ht, _⟩ := hT t ti hti
  rw [hd] at ht
  obtain ⟨_, info, hi1, hi2, hi3, hi4, _⟩ := hT e ei hei
  have hu1 : u.oneCell' = true := by cases hu with | one _ _ hu => exact hu.one
  -- the state's new row, the value's relation
  have mkRV : ∀ (al : Bool) (at' cap' : Nat) (v' : Value) (w' : World), v'.oneCell' = true → (v' = if al then .slice (some ⟨at', 0, none⟩) (o.xs ++ news).length cap' else .slice none 0 0) →
      RV (g.row r at' cap') (s.withRow r ⟨al, o.ver + 1, o.sz, o.ty, o.xs ++ news⟩).sh w' (.one (.row r (o.ver + 1) 0 (o.xs ++ news).length)) v' := fun al at' cap' v' w' h1 h2 => by
    refine .one _ _ (.row _ _ _ _ _ h1 (by simpa [St.sh, St.withRow] using hr) (fun al' ver' sz len h => ?_))
    have hf := rows_get (s := s.withRow r ⟨al, o.ver + 1, o.sz, o.ty, o.xs ++ news⟩) (r := r) (o := ⟨al, o.ver + 1, o.sz, o.ty, o.xs ++ news⟩) (by simp [St.withRow, List.getElem?_set, hr])
    rw [hf] at h
    simp only [Option.some.injEq, RowO.form, Prod.mk.injEq] at h
    obtain ⟨rfl, rfl, rfl, rfl⟩ := h
    refine ⟨Nat.le_refl _, fun _ => ⟨by simp, ?_⟩⟩
    rw [h2]
    simp [Gh.row]
  -- the value that is appended
  have core : ∀ (ad : Addr) (c : Nat) (newsV : List Value), newsV.length = news.length * ei.size → (∀ j u, newsV[j]? = some u → w.cell? (ad.add j) = some u) → (∀ u ∈ newsV, u.oneCell' = true) →
      (∀ (i j : Nat) (x : List D) (d : D) (q : Value), news[i]? = some x → x[j]? = some d → newsV[i * ei.size + j]? = some q → RD g.im w d q) → (∀ x ∈ news, x.length = ei.size) → v = .slice (some ad) news.length c →
      ∃ v' w' g', (Builtin.append_ #[t, t] ty #[u, v]).run P w = .ok v' w' ∧ Rel E n g' (s.withRow r ⟨o.al || !news.isEmpty, o.ver + 1, o.sz, o.ty, o.xs ++ news⟩) a w' ∧
        Ext g s.sh w g' (s.withRow r ⟨o.al || !news.isEmpty, o.ver + 1, o.sz, o.ty, o.xs ++ news⟩).sh w' ∧
        RV g' (s.withRow r ⟨o.al || !news.isEmpty, o.ver + 1, o.sz, o.ty, o.xs ++ news⟩).sh w' (.one (.row r (o.ver + 1) 0 (o.xs ++ news).length)) v' := by
    intro ad c newsV l1 l2 l3 l4 l5 hv'
    subst hv'
    rw [hty, hsz] at hown
    obtain ⟨v', w', hrun, hown', hgr, hpl, hnn⟩ := append_cases (P := P) (w := w) 0 t ty e info ei.zero ei.size ei.bytes ht hi1 hi3 hi2 hi4 hz hpos u o.xs.length flat hown ad news.length c newsV l1 l2 l3 h63 hb (Nat.zero_le _)
    have hblk' : ∀ k, k < w.heap.size → (o.al = true → k ≠ g.at_ (.r r)) → w'.heap[k]? = w.heap[k]? := fun k hk hne => hgr.block k hk (fun e => by
      by_cases hal : o.al = true
      · rw [hblk hal] at e; exact hne hal (Option.some.inj e)
      · rw [hnil.2 (by simpa using hal)] at e; cases e)
    have hsame : ∀ b, g.im b → w'.heap[b]? = w.heap[b]? := fun b hb' => hblk' b (rel.imlt b hb') (fun hal e => rel.heap.new (.r r) ⟨o, ho, hal⟩ (e ▸ hb'))
    have hal' : v' = .slice none 0 0 ↔ (o.al || !news.isEmpty) = false := by
      rw [hnn, hnil]
      cases news with
      | nil => simp
      | cons x l => simp
    rcases hpl with hvn | ⟨g2, cap2, hv2, hpos2⟩
    · have hb1 := hal'.1 hvn
      have he : o.xs ++ news = [] := by
        have h1 := hown'.2
        rw [hvn] at h1
        rcases h1 with ⟨_, h⟩ | ⟨g', cap', cur, h, _⟩
        · have : (o.xs ++ news).length = 0 := by simpa using h
          exact List.length_eq_zero_iff.1 this
        · cases h
      obtain ⟨rel', ext⟩ := rel.setRow (o' := ⟨o.al || !news.isEmpty, o.ver + 1, o.sz, o.ty, o.xs ++ news⟩) (at' := 0) (cap' := 0) ho (Nat.lt_succ_self _) hgr.os hgr.tape hgr.output hgr.size hblk' (fun h => by simp only at h; rw [hb1] at h; cases h) (by simp only [hb1]; simpa using he)
      exact ⟨v', w', _, hrun, rel', ext, mkRV _ _ _ _ _ (by rw [hvn]; rfl) (by rw [hb1, hvn]; rfl)⟩
    · have hb1 : (o.al || !news.isEmpty) = true := by
        cases hh : (o.al || !news.isEmpty) with
        | true => rfl
        | false => have := hal'.2 hh; rw [hv2] at this; cases this
      obtain ⟨hlen, hcase⟩ := hown'
      rcases hcase with ⟨h, _⟩ | ⟨g', cap', cur, h, hb2, hc2, hn2, hm2, hs2, ht2⟩
      · rw [hv2] at h; cases h
      · rw [hv2] at h
        simp only [Value.slice.injEq, Option.some.injEq, Addr.mk.injEq, and_true, true_and] at h
        obtain ⟨rfl, rfl⟩ := h
        have hcur : ∀ k, k < (o.xs.length + news.length) * ei.size → cur[k]? = (flat ++ newsV)[k]? := fun k hk => by
          rw [← ht2, List.getElem?_take, if_pos hk]; simp
        have hfl : flat.length = o.xs.length * ei.size := hown.1
        obtain ⟨rel', ext⟩ := rel.setRow (o' := ⟨o.al || !news.isEmpty, o.ver + 1, o.sz, o.ty, o.xs ++ news⟩) (at' := g2) (cap' := cap2) ho (Nat.lt_succ_self _) hgr.os hgr.tape hgr.output hgr.size hblk'
          (fun _ => by
            rcases hpos2 with h | h
            · by_cases hal : o.al = true
              · rw [hblk hal] at h; exact .inl ⟨hal, (Option.some.inj h).symm⟩
              · rw [hnil.2 (by simpa using hal)] at h; cases h
            · exact .inr (by omega))
          (by
            rw [if_pos hb1]
            refine ⟨cur, by rw [hty]; exact hc2, by rw [hsz]; exact hs2, hm2, by simpa using hn2, fun x hx => ?_, fun _ _ => trivial, fun i j x d q p1 p2 p3 => ?_⟩
            · rcases List.mem_append.1 hx with h | h
              · exact hrows x h
              · rw [hsz]; exact l5 x h
            · refine RD.of_im ?_ hsame
              simp only at p1 p3
              rw [hsz] at p3
              by_cases hi : i < o.xs.length
              · rw [List.getElem?_append_left hi] at p1
                have hj : j < ei.size := by
                  have h1 := (List.getElem?_eq_some_iff.1 p2).1
                  rw [hrows x (List.mem_of_getElem? p1), hsz] at h1; exact h1
                have hk : i * ei.size + j < o.xs.length * ei.size := by
                  have := Nat.mul_le_mul_right ei.size (show i + 1 ≤ o.xs.length from hi)
                  rw [Nat.add_mul, Nat.one_mul] at this; omega
                have hk2 : i * ei.size + j < (o.xs.length + news.length) * ei.size := by rw [Nat.add_mul]; omega
                rw [hcur _ hk2, List.getElem?_append_left (by omega)] at p3
                exact hcells i j x d q p1 p2 (by rw [hsz]; exact p3)
              · rw [List.getElem?_append_right (by omega)] at p1
                have hin : i - o.xs.length < news.length := (List.getElem?_eq_some_iff.1 p1).1
                have hj : j < ei.size := by
                  have h1 := (List.getElem?_eq_some_iff.1 p2).1
                  rw [l5 x (List.mem_of_getElem? p1)] at h1; exact h1
                have e1 : i * ei.size = o.xs.length * ei.size + (i - o.xs.length) * ei.size := by rw [← Nat.add_mul]; congr 1; omega
                have hk2 : i * ei.size + j < (o.xs.length + news.length) * ei.size := by
                  have := Nat.mul_le_mul_right ei.size (show i + 1 ≤ o.xs.length + news.length by omega)
                  rw [Nat.add_mul i, Nat.one_mul] at this; omega
                rw [hcur _ hk2, List.getElem?_append_right (by omega)] at p3
                exact l4 (i - o.xs.length) j x d q p1 p2 (by rw [← p3]; congr 1; omega))
        exact ⟨v', w', _, hrun, rel', ext, mkRV _ _ _ _ _ (by rw [hv2]; rfl) (by rw [hb1, hv2]; simp)⟩
  cases hv with | one _ _ hv => cases hv with | d _ _ hv => cases hv with
  | empty _ A cap =>
    cases A with
    | some ad => exact core ad cap [] (by simp) (fun j u h => by simp at h) (fun u h => by simp at h) (fun i j x d q h => by simp at h) (by simp) rfl
    | none =>
      have hrun : (Builtin.append_ #[t, t] ty #[u, .slice none 0 cap]).run P w = .ok u w := by
        rw [hty, hsz] at hown
        rcases hown.2 with ⟨rfl, h0⟩ | ⟨g', cap', cur, rfl, _, _, hnc, _⟩
        · simp [Builtin.append_, run_underlying ht, sizeOf, typeInfo, hi1, Builtin.lenOf, Builtin.firstCells]
        · simp [Builtin.append_, run_underlying ht, sizeOf, typeInfo, hi1, Builtin.lenOf, Builtin.firstCells, hnc, storeCells]
      have hb1 : (o.al || !([] : List (List D)).isEmpty) = o.al := by simp
      have hrow := rel.heap.row r o ho
      obtain ⟨rel', ext⟩ := rel.setRow (w' := w) (o' := ⟨o.al || !([] : List (List D)).isEmpty, o.ver + 1, o.sz, o.ty, o.xs ++ []⟩) (at' := g.at_ (.r r)) (cap' := g.cap r) ho (Nat.lt_succ_self _) rfl rfl rfl (Nat.le_refl _) (fun _ _ _ => rfl)
        (fun h => .inl ⟨by simpa using h, rfl⟩)
        (by
          simp only [hb1, List.append_nil]
          by_cases hal : o.al = true
          · rw [if_pos hal] at hrow ⊢
            obtain ⟨vs, t', q1, ⟨q2, q3, q4, q5⟩, q6, q7, q8, q9⟩ := hrow
            rw [q4] at q2 q9
            subst q3
            exact ⟨vs, q1, by simpa using q2, q5, q6, q7, q8, fun i j x d v p1 p2 p3 => q9 i j x d v p1 p2 (by simpa using p3)⟩
          · rw [if_neg hal] at hrow ⊢; exact hrow)
      refine ⟨u, w, _, hrun, rel', ext, mkRV _ _ _ _ _ hu1 ?_⟩
      cases hu with | one _ _ hu => cases hu with | row _ _ _ _ _ h1 h2 hx =>
      obtain ⟨_, hx⟩ := hx _ _ _ _ (rows_get ho)
      obtain ⟨_, hx⟩ := hx rfl
      rw [hx, hb1]
      by_cases hal : o.al = true
      · rw [if_pos hal] at hrow
        obtain ⟨vs, t', q1, ⟨q2, q3, q4, q5⟩, _⟩ := hrow
        rw [if_pos hal, if_pos hal, q4]; simp
      · rw [if_neg hal, if_neg hal]
  | vec _ xs b oo cap uu hne hc hb' hsz' hcell hrd =>
    refine core ⟨b, oo, none⟩ cap ((List.range (news.length * ei.size)).map fun k => uu (k / ei.size) (k % ei.size)) (by simp) (fun j u h => ?_) (fun q h => ?_) (fun i j x d q p1 p2 p3 => ?_) hsz' rfl
    · simp only [List.getElem?_map, Option.map_eq_some_iff] at h
      obtain ⟨k, hk, rfl⟩ := h
      have hj := (List.getElem?_eq_some_iff.1 hk).1
      simp at hj
      have hkj : k = j := by simpa [hj] using hk.symm
      subst hkj
      have hi : k / ei.size < news.length := (Nat.div_lt_iff_lt_mul hpos).2 hj
      have hx : news[k / ei.size]? = some (news[k / ei.size]'hi) := List.getElem?_eq_getElem _
      have hxl := hsz' _ (List.getElem_mem hi)
      have hm : k % ei.size < (news[k / ei.size]'hi).length := by rw [hxl]; exact Nat.mod_lt _ hpos
      have := hcell (k / ei.size) (k % ei.size) _ _ hx (List.getElem?_eq_getElem hm)
      rw [← this]
      have e : oo + k / ei.size * ei.size + k % ei.size = oo + k := by
        have := Nat.div_add_mod k ei.size
        rw [Nat.mul_comm] at this; omega
      unfold Addr.add
      split
      · rename_i h0; subst h0; simp
      · rw [e]
    · simp only [List.mem_map, List.mem_range] at h
      obtain ⟨k, hj, rfl⟩ := h
      have hi : k / ei.size < news.length := (Nat.div_lt_iff_lt_mul hpos).2 hj
      have hx : news[k / ei.size]? = some (news[k / ei.size]'hi) := List.getElem?_eq_getElem _
      have hxl := hsz' _ (List.getElem_mem hi)
      have hm : k % ei.size < (news[k / ei.size]'hi).length := by rw [hxl]; exact Nat.mod_lt _ hpos
      exact (hrd (k / ei.size) (k % ei.size) _ _ hx (List.getElem?_eq_getElem hm)).one
    · have hj : j < ei.size := by
        have h1 := (List.getElem?_eq_some_iff.1 p2).1
        rw [hsz' x (List.mem_of_getElem? p1)] at h1; exact h1
      simp only [List.getElem?_map, Option.map_eq_some_iff] at p3
      obtain ⟨k, hk, rfl⟩ := p3
      have hkj : k = i * ei.size + j := by
        have hlt := (List.getElem?_eq_some_iff.1 hk).1
        simp at hlt
        simpa [hlt] using hk.symm
      have e1 : k / ei.size = i := by rw [hkj, Nat.mul_comm, Nat.mul_add_div hpos, Nat.div_eq_of_lt hj]; omega
      have e2 : k % ei.size = j := by rw [hkj, Nat.mul_comm, Nat.mul_add_mod, Nat.mod_eq_of_lt hj]
      rw [e1, e2]
      exact hrd i j x d p1 p2
end Go.Proofs.YtlkhdembbogcaaaGreatDoor

/- Own rows: a nil slice as a row; append as a step; a row that is written no more becomes pure data. -/
set_option linter.unusedVariables false
set_option linter.unusedSimpArgs false
namespace Go.Proofs.YtlkhdembbogcaaaGreatDoor
open Go Go.RowKit
variable {J : Inv} {k0 : Lens} {E : Env J k0} {P : Program} {T : TypeId → Option TI} {n : Nat} {t : Nat → V} {b : List (List C)} {r : List (Option RowO)} {m : List (List (DV × DV))} {ops : Array Oper} {l : List Oper} {K : St → Prop}
  {i : Nat} {ty : TypeId} {pos : String} {after : Array Edge}
theorem Step.append {s : St} {o : Oper} {tt e : TypeId} {ti ei : TI} {x y : Operand} {ri : Nat} {q : RowO} {news : List (List D)} (hT : TabOk P T) (ho : o.op = .call { callee := .builtin .append, args := #[x, y], argTypes := #[tt, tt] }) (hg : o.guard = none)
    (hti : T tt = some ti) (hd : ti.desc = .slice e) (hei : T e = some ei) (hz : ei.zero.cells.size = ei.size) (hpos : 0 < ei.size) (hx : opd n s x = (true, .one (.row ri q.ver 0 q.xs.length))) (hy : opd n s y = (true, .one (.d (.vec ei.size news))))
    (hq : s.r[ri]? = some (some q)) (hsz : q.sz = ei.size) (hty : q.ty = e) (h63 : q.xs.length + news.length ≤ maxLen) (hb : (q.xs.length + news.length) * ei.bytes ≤ 140737488355328)
    (k : K ((s.withRow ri ⟨q.al || !news.isEmpty, q.ver + 1, q.sz, q.ty, q.xs ++ news⟩).set o.dst (.one (.row ri (q.ver + 1) 0 (q.xs ++ news).length)))) : Step E P n ops o K s := by
  intro g a w rel next Q hn
  have hw : Region.wanted o (yielded ops a.tmps) = true := by simp [Region.wanted, hg]
  rw [if_pos hw]
  obtain ⟨v', w', g', hrun, rel', ext, hv'⟩ := rel.append (P := P) hT (ty := o.type) hti hd hei hz hpos hq hsz hty (opd_ok rel hx rfl) (opd_ok rel hy rfl) h63 hb
  have hrun' : (execOp a.eval o).run P w = .ok (.value v') w' := by
    unfold execOp
    simp only [ho, resolve, invoke, builtin, Sem.run_bind, Sem.run_pure, Result.andThen_ok, List.map_toArray, List.map_cons, List.map_nil, hrun]
  unfold Oper.wp
  rw [hrun']
  exact hn _ _ _ _ k (rel'.put_same o.dst hv')
/-- A row that has nothing yet. -/
theorem W.newRow {c : Code} {KK : Ex → St → Prop} (k sz : Nat) (e : TypeId) (hk : t k = .one (.d .nilsl)) (h : W E P n c KK ⟨upd t k (.one (.row r.length 0 0 0)), b, r ++ [some ⟨false, 0, sz, e, []⟩], m⟩) : W E P n c KK ⟨t, b, r, m⟩ := by
  have hlive : ∀ x, (⟨upd t k (.one (.row r.length 0 0 0)), b, r ++ [some ⟨false, 0, sz, e, []⟩], m⟩ : St).live x → (⟨t, b, r, m⟩ : St).live x := fun x hx => by
    cases x with
    | b l => exact hx
    | m l => exact hx
    | r l =>
      obtain ⟨o, ho, hal⟩ := hx
      have ho : (r ++ [some ⟨false, 0, sz, e, []⟩])[l]? = some (some o) := ho
      by_cases hl : l < r.length
      · rw [List.getElem?_append_left hl] at ho; exact ⟨o, ho, hal⟩
      · rw [List.getElem?_append_right (by omega)] at ho
        have : l - r.length = 0 := by have := (List.getElem?_eq_some_iff.1 ho).1; simp at this; omega
        rw [this] at ho
        simp at ho; rw [← ho] at hal; cases hal
  refine h.weaken fun g a w rel => ?_
  have ext : Ext g (⟨t, b, r, m⟩ : St).sh w g (⟨upd t k (.one (.row r.length 0 0 0)), b, r ++ [some ⟨false, 0, sz, e, []⟩], m⟩ : St).sh w := by
    refine ⟨fun _ h => h, fun _ _ => rfl, Nat.le_refl _, Nat.le_refl _, by simp [St.sh], fun _ _ => rfl, fun _ _ => rfl, fun q al ver sz' len hq hh => ⟨al, ver, sz', len, ?_, Nat.le_refl _, fun _ => ⟨rfl, rfl, Nat.le_refl _, rfl, rfl, rfl⟩⟩⟩
    have hq' : q < r.length := by simpa [St.sh] using hq
    simpa [St.sh, List.getElem?_append_left hq', List.getElem?_append_left (show q < (r.map (·.map RowO.form)).length by simpa using hq')] using hh
  refine ⟨g, rel.below, rel.ext.trans ext, rel.imlt, rel.imold, fun x hx => rel.own x (hlive x hx), ⟨fun x hx => rel.heap.lt x (hlive x hx), fun x hx => rel.heap.new x (hlive x hx), fun x y hx hy => rel.heap.inj x y (hlive x hx) (hlive y hy), fun q cs hq => ?_, fun q o hq => ?_, fun q es hq => ?_⟩, rel.size, rel.defers, fun j hj => ?_⟩
  · obtain ⟨vs, ty, h1, h2, h3⟩ := rel.heap.box q cs hq
    exact ⟨vs, ty, h1, h2, fun j c v hc hv => (h3 j c v hc hv).mono ext⟩
  · have hq : (r ++ [some ⟨false, 0, sz, e, []⟩])[q]? = some (some o) := hq
    by_cases hl : q < r.length
    · rw [List.getElem?_append_left hl] at hq; exact rel.heap.row q o hq
    · rw [List.getElem?_append_right (by omega)] at hq
      have : q - r.length = 0 := by have := (List.getElem?_eq_some_iff.1 hq).1; simp at this; omega
      rw [this] at hq
      simp at hq; rw [← hq]; simp
  · obtain ⟨arr, clock, h1, h2, h3⟩ := rel.heap.map q es hq
    exact ⟨arr, clock, h1, h2, fun i x e hx he => ⟨(h3 i x e hx he).1.mono ext, (h3 i x e hx he).2.mono ext⟩⟩
  · cases hjk : Nat.beq k j with
    | true =>
      have hjk' : j = k := (Nat.eq_of_beq_eq_true hjk).symm
      have hup : (⟨upd t k (.one (.row r.length 0 0 0)), b, r ++ [some ⟨false, 0, sz, e, []⟩], m⟩ : St).t j = .one (.row r.length 0 0 0) := by show upd t k _ j = _; simp [upd, hjk]
      rw [hup]
      have hv := rel.tmps j hj
      have e1 : (⟨t, b, r, m⟩ : St).t j = .one (.d .nilsl) := by show t j = _; rw [hjk']; exact hk
      rw [e1] at hv
      generalize a.tmps.getD j undef = vv at hv ⊢
      cases hv with | one _ _ hv => cases hv with | d _ _ hv => 
      have hva : vv = .slice none 0 0 := by cases hv; rfl
      rw [hva]
      refine .one _ _ (.row _ _ _ _ _ rfl (by simp [St.sh]) (fun al ver' sz' len hh => ?_))
      have : (some (some (al, ver', sz', len)) : Option (Option _)) = some (some (false, 0, sz, 0)) := by rw [← hh]; simp [St.sh, RowO.form]
      simp only [Option.some.injEq, Prod.mk.injEq] at this
      obtain ⟨rfl, rfl, rfl, rfl⟩ := this
      exact ⟨Nat.le_refl _, fun _ => ⟨Nat.le_refl _, by simp⟩⟩
    | false =>
      have hup : (⟨upd t k (.one (.row r.length 0 0 0)), b, r ++ [some ⟨false, 0, sz, e, []⟩], m⟩ : St).t j = t j := by show upd t k _ j = _; simp [upd, hjk]
      rw [hup]
      exact (rel.tmps j hj).mono ext
def updL (t : Nat → V) : List Nat → V → Nat → V
  | [], _ => t
  | k :: ks, v => upd (updL t ks v) k v
theorem updL_or (t : Nat → V) (v : V) : ∀ (ks : List Nat) (j : Nat), (updL t ks v j = v ∧ j ∈ ks) ∨ updL t ks v j = t j
  | [], j => .inr rfl
  | k :: ks, j => by
    cases h : Nat.beq k j with
    | true => exact .inl ⟨by simp [updL, upd, h], by rw [(Nat.eq_of_beq_eq_true h)]; exact List.mem_cons_self ..⟩
    | false =>
      have e : updL t (k :: ks) v j = updL t ks v j := by simp [updL, upd, h]
      rw [e]
      rcases updL_or t v ks j with ⟨h1, h2⟩ | h1
      · exact .inl ⟨h1, List.mem_cons_of_mem _ h2⟩
      · exact .inr h1
/-- A row that is written no more. -/
theorem W.freeze {c : Code} {KK : Ex → St → Prop} {ri : Nat} {q : RowO} (ks : List Nat) (hq : r[ri]? = some (some q)) (hk : ∀ k ∈ ks, t k = .one (.row ri q.ver 0 q.xs.length))
    (h : W E P n c KK ⟨updL t ks (.one (.d (.vec q.sz q.xs))), b, r.set ri none, m⟩) : W E P n c KK ⟨t, b, r, m⟩ := by
  have hr : ri < r.length := (List.getElem?_eq_some_iff.1 hq).1
  have hlive : ∀ x, (⟨updL t ks (.one (.d (.vec q.sz q.xs))), b, r.set ri none, m⟩ : St).live x → (⟨t, b, r, m⟩ : St).live x ∧ x ≠ .r ri := fun x hx => by
    cases x with
    | b l => exact ⟨hx, by simp⟩
    | m l => exact ⟨hx, by simp⟩
    | r l =>
      obtain ⟨o, ho, hal⟩ := hx
      have ho : (r.set ri none)[l]? = some (some o) := ho
      by_cases e : ri = l
      · subst e; simp [List.getElem?_set, hr] at ho
      · exact ⟨⟨o, by simpa [List.getElem?_set, e] using ho, hal⟩, fun h => e (by injection h with h; exact h.symm)⟩
  refine h.weaken fun g a w rel => ?_
  have ho : (⟨t, b, r, m⟩ : St).r[ri]? = some (some q) := hq
  have hrl : q.al = true → (⟨t, b, r, m⟩ : St).live (.r ri) := fun h => ⟨q, hq, h⟩
  have ext : Ext g (⟨t, b, r, m⟩ : St).sh w ⟨fun x => g.im x ∨ (q.al = true ∧ x = g.at_ (.r ri)), g.at_, g.off, g.cap⟩ (⟨updL t ks (.one (.d (.vec q.sz q.xs))), b, r.set ri none, m⟩ : St).sh w := by
    refine ⟨fun _ h => .inl h, fun _ _ => rfl, Nat.le_refl _, Nat.le_refl _, by simp [St.sh], fun _ _ => rfl, fun _ _ => rfl, fun k al ver sz' len hk' hh => ?_⟩
    by_cases e : ri = k
    · subst e; simp [St.sh, List.getElem?_set, hr] at hh
    · exact ⟨al, ver, sz', len, by simpa [St.sh, List.getElem?_set, e] using hh, Nat.le_refl _, fun _ => ⟨rfl, rfl, Nat.le_refl _, rfl, rfl, rfl⟩⟩
  refine ⟨⟨fun x => g.im x ∨ (q.al = true ∧ x = g.at_ (.r ri)), g.at_, g.off, g.cap⟩, rel.below, rel.ext.trans ext, fun x hx => ?_, fun x hx => ?_, fun x hx => rel.own x (hlive x hx).1, ⟨fun x hx => rel.heap.lt x (hlive x hx).1, fun x hx => ?_, fun x y hx hy => rel.heap.inj x y (hlive x hx).1 (hlive y hy).1, fun k cs hk' => ?_, fun k o hk' => ?_, fun k es hk' => ?_⟩, rel.size, rel.defers, fun j hj => ?_⟩
  · rcases hx with h | ⟨h1, h2⟩
    · exact rel.imlt x h
    · rw [h2]; exact rel.heap.lt _ (hrl h1)
  · rcases hx with h | ⟨h1, h2⟩
    · exact rel.imold x h
    · rw [h2]; exact .inr (rel.own _ (hrl h1))
  · rintro (h | ⟨h1, h2⟩)
    · exact rel.heap.new x (hlive x hx).1 h
    · exact (hlive x hx).2 (rel.heap.inj x _ (hlive x hx).1 (hrl h1) h2)
  · obtain ⟨vs, ty, h1, h2, h3⟩ := rel.heap.box k cs hk'
    exact ⟨vs, ty, h1, h2, fun j c v hc hv => (h3 j c v hc hv).mono ext⟩
  · have hk' : (r.set ri none)[k]? = some (some o) := hk'
    by_cases e : ri = k
    · subst e; simp [List.getElem?_set, hr] at hk'
    · have h1 := rel.heap.row k o (by simpa [List.getElem?_set, e] using hk')
      by_cases hal : o.al = true
      · rw [if_pos hal] at h1 ⊢
        obtain ⟨vs, t', q1, q2, q3, q4, q5, q6⟩ := h1
        exact ⟨vs, t', q1, q2, q3, q4, q5, fun i j x d v p1 p2 p3 => (q6 i j x d v p1 p2 p3).mono ext.im ext.same⟩
      · rw [if_neg hal] at h1 ⊢; exact h1
  · obtain ⟨arr, clock, h1, h2, h3⟩ := rel.heap.map k es hk'
    exact ⟨arr, clock, h1, h2, fun i x e hx he => ⟨(h3 i x e hx he).1.mono ext, (h3 i x e hx he).2.mono ext⟩⟩
  · rcases updL_or t (.one (.d (.vec q.sz q.xs))) ks j with ⟨h1, h2⟩ | h1
    · have hup : (⟨updL t ks (.one (.d (.vec q.sz q.xs))), b, r.set ri none, m⟩ : St).t j = .one (.d (.vec q.sz q.xs)) := h1
      rw [hup]
      have hv := rel.tmps j hj
      have e1 : (⟨t, b, r, m⟩ : St).t j = .one (.row ri q.ver 0 q.xs.length) := hk j h2
      rw [e1] at hv
      obtain ⟨flat, hown, hnil, hblk, hcells, hrows⟩ := row_form rel ho hv
      refine .one _ _ (.d _ _ ?_)
      rcases hown.2 with ⟨hv2, h0⟩ | ⟨bb, cap, cur, hv2, hb2, hc2, hn2, hm2, hs2, ht2⟩
      · rw [hv2, List.length_eq_zero_iff.1 h0]; exact .empty _ _ _
      · have hal : q.al = true := by
          cases hh : q.al with
          | true => rfl
          | false => have := hnil.2 hh; rw [this] at hv2; cases hv2
        have hbb : bb = g.at_ (.r ri) := by have := hblk hal; rw [hv2] at this; exact Option.some.inj this
        by_cases hne : q.xs = []
        · rw [hv2, hne]; exact .empty _ _ _
        · rw [hv2]
          have hat : ∀ (i j : Nat) (x : List D) (d : D), q.xs[i]? = some x → x[j]? = some d → ∃ v, w.cell? ⟨bb, 0 + i * q.sz + j, none⟩ = some v ∧ RD (fun x => g.im x ∨ (q.al = true ∧ x = g.at_ (.r ri))) w d v := fun i j x d p1 p2 => by
            have hj' : j < q.sz := by
              have h3 := (List.getElem?_eq_some_iff.1 p2).1
              rw [hrows x (List.mem_of_getElem? p1)] at h3; exact h3
            have hi := (List.getElem?_eq_some_iff.1 p1).1
            have hk2 : i * q.sz + j < q.xs.length * q.sz := by
              have := Nat.mul_le_mul_right q.sz (show i + 1 ≤ q.xs.length from hi)
              rw [Nat.add_mul, Nat.one_mul] at this; omega
            have hf : flat[i * q.sz + j]? = some (flat[i * q.sz + j]'(by rw [hown.1]; exact hk2)) := List.getElem?_eq_getElem _
            refine ⟨_, ?_, (hcells i j x d _ p1 p2 hf).mono (fun _ h => .inl h) (fun _ _ => rfl)⟩
            have hf2 : (cur.toList.take (q.xs.length * q.sz))[i * q.sz + j]? = some (flat[i * q.sz + j]'(by rw [hown.1]; exact hk2)) := by rw [ht2]; exact hf
            rw [List.getElem?_take, if_pos hk2] at hf2
            simp only [Nat.zero_add, World.cell?, hc2, Option.isSome_none, Bool.false_eq_true, if_false]
            simpa using hf2
          exact RD.vec q.sz q.xs bb 0 cap (fun i j => (w.cell? ⟨bb, 0 + i * q.sz + j, none⟩).getD undef) hne hn2 (.inr ⟨hal, hbb⟩) hrows
            (fun i j x d p1 p2 => by obtain ⟨v, h3, _⟩ := hat i j x d p1 p2; rw [h3]; rfl)
            (fun i j x d p1 p2 => by obtain ⟨v, h3, h4⟩ := hat i j x d p1 p2; simp only [h3, Option.getD_some]; exact h4)
    · have hup : (⟨updL t ks (.one (.d (.vec q.sz q.xs))), b, r.set ri none, m⟩ : St).t j = t j := h1
      rw [hup]
      exact (rel.tmps j hj).mono ext
theorem S.append (hT : TabOk P T) {tt e : TypeId} {ti ei : TI} {x y : Operand} {ri ver sz ln : Nat} {al al' : Bool} {te : TypeId} {xs news ys : List (List D)} {r' : List (Option RowO)} (hti : T tt = some ti) (hd : ti.desc = .slice e) (hei : T e = some ei)
    (hz : ei.zero.cells.size = ei.size) (hpos : Nat.blt 0 ei.size = true) (hby : Nat.ble ei.bytes 4096 = true) (hx : opd n ⟨t, b, r, m⟩ x = (true, .one (.row ri ver 0 ln))) (hy : opd n ⟨t, b, r, m⟩ y = (true, .one (.d (.vec sz news))))
    (hq : r[ri]? = some (some ⟨al, ver, sz, te, xs⟩)) (hln : ln = xs.length) (hsz : sz = ei.size) (hty : te = e) (hlen : xs.length + news.length ≤ 34359738368)
    (hal : (al || !news.isEmpty) = al') (hys : xs ++ news = ys) (hr : forceL (r.set ri (some ⟨al', ver + 1, sz, te, ys⟩)) = some r')
    (k : WL E P n ops l K ⟨upd t i (.one (.row ri (ver + 1) 0 ys.length)), b, r', m⟩) : WL E P n ops (⟨some i, .call ⟨.builtin .append, #[x, y], #[tt, tt]⟩, ty, pos, after, none⟩ :: l) K ⟨t, b, r, m⟩ := by
  subst hln; subst hsz; subst hal; subst hys
  obtain rfl := forceL_eq hr
  have hb : (xs.length + news.length) * ei.bytes ≤ 140737488355328 := by
    have h1 : ei.bytes ≤ 4096 := Nat.le_of_ble_eq_true hby
    have := Nat.mul_le_mul hlen h1
    omega
  exact Step.append (s := ⟨t, b, r, m⟩) (q := ⟨al, ver, ei.size, te, xs⟩) (o := ⟨some i, .call ⟨.builtin .append, #[x, y], #[tt, tt]⟩, ty, pos, after, none⟩) hT rfl rfl hti hd hei hz (by simpa [Nat.blt_eq] using hpos) hx hy hq rfl hty (by simp only [maxLen]; omega) hb k
theorem pred_nat {i : Nat} (hi : i ≤ 4611686018427387904) : (IntKind.i64.wrap ((i : Int) - 1)).toNat = i - 1 := by
  rw [wrap_i64 (by omega) (by omega)]; omega
theorem row_pred {α : Type} {f : α → List D} {l : List α} (d : α) {i : Nat} (h : i < l.length) (hi : i ≤ 4611686018427387904) : V.one (.eptr ((l.map f).getD (IntKind.i64.wrap ((i : Int) - 1)).toNat [])) = V.one (.eptr (f (l.getD (i - 1) d))) := by
  rw [pred_nat hi]
  have : i - 1 < l.length := by omega
  simp [List.getD, List.getElem?_eq_getElem this]
theorem pred_ok {α : Type} {f : α → List D} {l : List α} {i : Nat} (h0 : decide ((i : Int) > 0) = true) (h : i < l.length) (hi : i ≤ 4611686018427387904) :
    (decide (0 ≤ IntKind.i64.wrap ((i : Int) - 1)) && decide (IntKind.i64.wrap ((i : Int) - 1) < ((l.map f).length : Int))) = true := by
  have h1 := of_decide_eq_true h0
  rw [wrap_i64 (by omega) (by omega)]; simp; omega
theorem take_snoc {α β : Type} {f : α → β} {l : List α} {i : Nat} (d : α) (h : i < l.length) : (l.take i).map f ++ [f (l.getD i d)] = (l.take (i + 1)).map f := by
  rw [List.take_add_one, List.getElem?_eq_getElem h, List.map_append]
  simp [List.getD, List.getElem?_eq_getElem h]
end Go.Proofs.YtlkhdembbogcaaaGreatDoor

/- Rows that nobody needs any more are dropped with the boxes; a slice that lies in a box's cell as a row. -/
set_option linter.unusedVariables false
set_option linter.unusedSimpArgs false
namespace Go.Proofs.YtlkhdembbogcaaaGreatDoor
open Go Go.RowKit
mutual
def loC (L R M : Nat) : C → Bool
  | .ptr l _ => Nat.blt l L
  | .row r _ _ _ => Nat.blt r R
  | .rptr r _ _ _ => Nat.blt r R
  | .map m => Nat.blt m M
  | .clo _ cs => loCs L R M cs
  | _ => true
def loCs (L R M : Nat) : List C → Bool
  | [] => true
  | c :: l => loC L R M c && loCs L R M l
end
mutual
def loV (L R M : Nat) : V → Bool
  | .one c => loC L R M c
  | .agg cs => loCs L R M cs
  | .tup vs => loVs L R M vs
  | .when _ v => loV L R M v
  | .junk => true
def loVs (L R M : Nat) : List V → Bool
  | [] => true
  | c :: l => loV L R M c && loVs L R M l
end
theorem loCs_at {L R M : Nat} : ∀ {l : List C}, loCs L R M l = true → ∀ (i : Nat) (c : C), l[i]? = some c → loC L R M c = true
  | [], _, i, c, h => by simp at h
  | x :: l, h, 0, c, hc => by simp at hc; subst hc; exact (Bool.and_eq_true_iff.1 (by simpa [loCs] using h)).1
  | x :: l, h, i + 1, c, hc => by simp at hc; exact loCs_at (Bool.and_eq_true_iff.1 (by simpa [loCs] using h)).2 i c hc
theorem loVs_at {L R M : Nat} : ∀ {l : List V}, loVs L R M l = true → ∀ (i : Nat) (c : V), l[i]? = some c → loV L R M c = true
  | [], _, i, c, h => by simp at h
  | x :: l, h, 0, c, hc => by simp at hc; subst hc; exact (Bool.and_eq_true_iff.1 (by simpa [loVs] using h)).1
  | x :: l, h, i + 1, c, hc => by simp at hc; exact loVs_at (Bool.and_eq_true_iff.1 (by simpa [loVs] using h)).2 i c hc
theorem RC.lo {g : Gh} {h : Sh} {w : World} {c : C} {v : Value} (hx : RC g h w c v) (L R M : Nat) (hR : R ≤ h.rows.length) (hl : loC L R M c = true) : RC g ⟨L, h.rows.take R, M⟩ w c v := by
  induction hx with
  | d x v hx => exact .d _ _ hx
  | ptr l off _ => exact .ptr _ _ (by simpa [loC, Nat.blt_eq] using hl)
  | eptr cells b o u hb h1 h2 => exact .eptr cells b o u hb h1 h2
  | row r ver off n v hv hr hx =>
    have hlt : r < R := by simpa [loC, Nat.blt_eq] using hl
    exact .row _ _ _ _ _ hv (by simp; omega) (fun al ver' sz len h1 => hx al ver' sz len (by simpa [List.getElem?_take, hlt] using h1))
  | rptr r ver i fo v hv hr hx =>
    have hlt : r < R := by simpa [loC, Nat.blt_eq] using hl
    exact .rptr _ _ _ _ _ hv (by simp; omega) (fun al ver' sz len h1 => hx al ver' sz len (by simpa [List.getElem?_take, hlt] using h1))
  | map m hm => exact .map _ (by simpa [loC, Nat.blt_eq] using hl)
  | clo f caps vs hl' h ih => exact .clo f caps vs hl' (fun i c v h1 h2 => ih i c v h1 h2 (loCs_at (by simpa [loC] using hl) i c h1))
  | junk v h => exact .junk v h
theorem RV.lo {g : Gh} {h : Sh} {w : World} {c : V} {v : Value} (hx : RV g h w c v) (L R M : Nat) (hR : R ≤ h.rows.length) (hl : loV L R M c = true) : RV g ⟨L, h.rows.take R, M⟩ w c v := by
  induction hx with
  | one c v h => exact .one _ _ (h.lo L R M hR (by simpa [loV] using hl))
  | agg cs vs hl' h => exact .agg cs vs hl' (fun i c v h1 h2 => (h i c v h1 h2).lo L R M hR (loCs_at (by simpa [loV] using hl) i c h1))
  | tup us vs hl' h ih => exact .tup us vs hl' (fun i u v h1 h2 => ih i u v h1 h2 (loVs_at (by simpa [loV] using hl) i u h1))
  | whenT u v h ih => exact .whenT _ _ (ih (by simpa [loV] using hl))
  | whenF u => exact .whenF _
  | junk v => exact .junk v
def loL (L R M : Nat) : List (Nat × V) → Bool
  | [] => true
  | (_, v) :: l => loV L R M v && loL L R M l
def loB (L R M : Nat) : List (List C) → Bool
  | [] => true
  | c :: l => loCs L R M c && loB L R M l
theorem loL_of {L R M : Nat} : ∀ {l : List (Nat × V)}, loL L R M l = true → ∀ j, loV L R M (ofL l j) = true
  | [], _, j => rfl
  | (k, v) :: l, h, j => by
    simp only [loL, Bool.and_eq_true] at h
    unfold ofL
    cases k.beq j with
    | true => exact h.1
    | false => exact loL_of h.2 j
theorem loB_at {L R M : Nat} : ∀ {l : List (List C)}, loB L R M l = true → ∀ (i : Nat) (c : List C), l[i]? = some c → loCs L R M c = true
  | [], _, i, c, h => by simp at h
  | x :: l, h, 0, c, hc => by simp at hc; subst hc; exact (Bool.and_eq_true_iff.1 (by simpa [loB] using h)).1
  | x :: l, h, i + 1, c, hc => by simp at hc; exact loB_at (Bool.and_eq_true_iff.1 (by simpa [loB] using h)).2 i c hc
theorem loDV (L R M : Nat) (x : DV) : loV L R M x.v = true := by
  cases x with
  | one d => rfl
  | st _ _ d => rfl
  | agg ds =>
    show loCs L R M (ds.map .d) = true
    induction ds with
    | nil => rfl
    | cons d ds ih => simpa [loCs, loC] using ih
theorem Rel.keep {J : Inv} {k0 : Lens} {E : Env J k0} {n : Nat} {t : Nat → V} {g : Gh} {a : Act} {w : World} (l : List (Nat × V)) (b1 b2 : List (List C)) (r1 r2 : List (Option RowO)) (m1 m2 : List (List (DV × DV))) (hl : holdsL t l)
    (hlow : ((loL b1.length r1.length m1.length l && loB b1.length r1.length m1.length b1) && (Nat.ble k0.L b1.length && (Nat.ble k0.R r1.length && Nat.ble k0.M m1.length))) = true) (rel : Rel E n g ⟨t, b1 ++ b2, r1 ++ r2, m1 ++ m2⟩ a w) : Rel E n g ⟨ofL l, b1, r1, m1⟩ a w := by
  simp only [Bool.and_eq_true] at hlow
  obtain ⟨hlow, hkL, hkR, hkM⟩ := hlow
  have hget : ∀ q o, r1[q]? = some o → (r1 ++ r2)[q]? = some o := fun q o hq => by
    rw [List.getElem?_append_left (List.getElem?_eq_some_iff.1 hq).1]; exact hq
  have hlive : ∀ x, (⟨ofL l, b1, r1, m1⟩ : St).live x → (⟨t, b1 ++ b2, r1 ++ r2, m1 ++ m2⟩ : St).live x := fun x hx => by
    cases x with
    | b q => exact Nat.lt_of_lt_of_le hx (by simp)
    | r q => obtain ⟨o, ho, hal⟩ := hx; exact ⟨o, hget q _ ho, hal⟩
    | m q => exact Nat.lt_of_lt_of_le hx (by simp)
  have hsh : (⟨ofL l, b1, r1, m1⟩ : St).sh = ⟨b1.length, (⟨t, b1 ++ b2, r1 ++ r2, m1 ++ m2⟩ : St).sh.rows.take r1.length, m1.length⟩ := by simp [St.sh]
  have hR : r1.length ≤ (⟨t, b1 ++ b2, r1 ++ r2, m1 ++ m2⟩ : St).sh.rows.length := by simp [St.sh]
  refine ⟨rel.below, ?_, rel.imlt, rel.imold, fun x hx => rel.own x (hlive x hx), ⟨fun x hx => rel.heap.lt x (hlive x hx), fun x hx => rel.heap.new x (hlive x hx), fun x y hx hy => rel.heap.inj x y (hlive x hx) (hlive y hy), fun q cs hq => ?_, fun q o hq => rel.heap.row q o (hget q _ hq), fun q es hq => ?_⟩, rel.size, rel.defers, fun i hi => ?_⟩
  · have e := rel.ext
    refine ⟨e.im, e.same, ?_, ?_, ?_, e.atB, e.atM, fun r al ver sz len hr hx => e.rows r al ver sz len hr ?_⟩
    · rw [E.hL]; exact Nat.le_of_ble_eq_true hkL
    · rw [E.hM]; exact Nat.le_of_ble_eq_true hkM
    · rw [E.hR]; simpa [St.sh] using Nat.le_of_ble_eq_true hkR
    · rw [hsh] at hx
      simp only [List.getElem?_take] at hx
      split at hx
      · exact hx
      · cases hx
  · have hq' : (b1 ++ b2)[q]? = some cs := by
      rw [List.getElem?_append_left (List.getElem?_eq_some_iff.1 hq).1]; exact hq
    obtain ⟨vs, ty, h1, h2, h3⟩ := rel.heap.box q cs hq'
    refine ⟨vs, ty, h1, h2, fun j c v hc hv => ?_⟩
    rw [hsh]
    exact (h3 j c v hc hv).lo b1.length r1.length m1.length hR (loCs_at (loB_at hlow.2 q cs hq) j c hc)
  · have hq' : (m1 ++ m2)[q]? = some es := by
      rw [List.getElem?_append_left (List.getElem?_eq_some_iff.1 hq).1]; exact hq
    obtain ⟨arr, clock, h1, h2, h3⟩ := rel.heap.map q es hq'
    refine ⟨arr, clock, h1, h2, fun i x e hx he => ?_⟩
    rw [hsh]
    exact ⟨(h3 i x e hx he).1.lo b1.length r1.length m1.length hR (loDV _ _ _ x.1), (h3 i x e hx he).2.lo b1.length r1.length m1.length hR (loDV _ _ _ x.2)⟩
  · rw [hsh]
    show RV _ _ _ (ofL l i) _
    rcases ofL_or t l hl i with h | h
    · rw [h]; exact .junk _
    · have h1 := loL_of hlow.1 i
      rw [h] at h1 ⊢
      exact (rel.tmps i hi).lo b1.length r1.length m1.length hR h1
theorem W.keepR {J : Inv} {k0 : Lens} {E : Env J k0} {P : Program} {n : Nat} {t : Nat → V} {c : Code} {K : Ex → St → Prop} (l : List (Nat × V)) (b1 b2 : List (List C)) (r1 r2 : List (Option RowO)) (m1 m2 : List (List (DV × DV))) (hl : holdsL t l)
    (hlow : ((loL b1.length r1.length m1.length l && loB b1.length r1.length m1.length b1) && (Nat.ble k0.L b1.length && (Nat.ble k0.R r1.length && Nat.ble k0.M m1.length))) = true) (h : W E P n c K ⟨ofL l, b1, r1, m1⟩) : W E P n c K ⟨t, b1 ++ b2, r1 ++ r2, m1 ++ m2⟩ :=
  h.weaken fun g a w rel => ⟨g, Rel.keep l b1 b2 r1 r2 m1 m2 hl hlow rel⟩
end Go.Proofs.YtlkhdembbogcaaaGreatDoor

/- The types that are met, each with what the program's table says of it. Written by wip/tools/types.py. -/
namespace Go.Proofs.YtlkhdembbogcaaaGreatDoor
open Go
theorem tiOk_of {P : Program} {t : TypeId} {i : TI} (h1 : P.underlying t = some i.desc) (h2 : (P.info? t).map (fun x => (x.size, x.zero, x.bytes)) = some (i.size, some i.zero, i.bytes))
    (h3 : i.plain = true → P.eqGuardType P.depth t = false ∧ P.stoodInHeld t = false) : TiOk P t i := by
  refine ⟨h1, ?_⟩
  cases h : P.info? t with
  | none => rw [h] at h2; cases h2
  | some x =>
    rw [h] at h2
    simp only [Option.map_some, Option.some.injEq, Prod.mk.injEq] at h2
    exact ⟨x, rfl, h2.1, h2.2.1, h2.2.2, h3⟩
def ty2 : TI := { desc := .int .i64, size := 1, zero := .int .i64 0, bytes := 8, plain := false }
theorem ty2_ok : TiOk Tryz.prog 2 ty2 := tiOk_of (by kernel_rfl) (by kernel_rfl) (fun h => by cases h)
def ty3 : TI := { desc := .int .i64, size := 1, zero := .int .i64 0, bytes := 8, plain := false }
theorem ty3_ok : TiOk Tryz.prog 3 ty3 := tiOk_of (by kernel_rfl) (by kernel_rfl) (fun h => by cases h)
def ty4 : TI := { desc := .bool, size := 1, zero := .bool false, bytes := 1, plain := false }
theorem ty4_ok : TiOk Tryz.prog 4 ty4 := tiOk_of (by kernel_rfl) (by kernel_rfl) (fun h => by cases h)
def ty5 : TI := { desc := .int .u8, size := 1, zero := .int .u8 0, bytes := 1, plain := false }
theorem ty5_ok : TiOk Tryz.prog 5 ty5 := tiOk_of (by kernel_rfl) (by kernel_rfl) (fun h => by cases h)
def ty9 : TI := { desc := .string, size := 1, zero := .string ⟨#[]⟩, bytes := 16, plain := false }
theorem ty9_ok : TiOk Tryz.prog 9 ty9 := tiOk_of (by kernel_rfl) (by kernel_rfl) (fun h => by cases h)
def ty12 : TI := { desc := .int .u64, size := 1, zero := .int .u64 0, bytes := 8, plain := false }
theorem ty12_ok : TiOk Tryz.prog 12 ty12 := tiOk_of (by kernel_rfl) (by kernel_rfl) (fun h => by cases h)
def ty13 : TI := { desc := .struct #[{ name := "msg", type := 9, offset := 0, embedded := false, tag := "", pkgPath := "runtime", byteOffset := 0 }, { name := "addr", type := 12, offset := 1, embedded := false, tag := "", pkgPath := "runtime", byteOffset := 16 }], size := 2, zero := .agg #[.string ⟨#[]⟩, .int .u64 0], bytes := 24, plain := false }
theorem ty13_ok : TiOk Tryz.prog 13 ty13 := tiOk_of (by kernel_rfl) (by kernel_rfl) (fun h => by cases h)
def ty20 : TI := { desc := .interface #[], size := 1, zero := .nilIface, bytes := 16, plain := false }
theorem ty20_ok : TiOk Tryz.prog 20 ty20 := tiOk_of (by kernel_rfl) (by kernel_rfl) (fun h => by cases h)
def ty21 : TI := { desc := .int .i32, size := 1, zero := .int .i32 0, bytes := 4, plain := false }
theorem ty21_ok : TiOk Tryz.prog 21 ty21 := tiOk_of (by kernel_rfl) (by kernel_rfl) (fun h => by cases h)
def ty22 : TI := { desc := .slice 25, size := 1, zero := .slice none 0 0, bytes := 24, plain := false }
theorem ty22_ok : TiOk Tryz.prog 22 ty22 := tiOk_of (by kernel_rfl) (by kernel_rfl) (fun h => by cases h)
def ty23 : TI := { desc := .slice 43, size := 1, zero := .slice none 0 0, bytes := 24, plain := false }
theorem ty23_ok : TiOk Tryz.prog 23 ty23 := tiOk_of (by kernel_rfl) (by kernel_rfl) (fun h => by cases h)
def ty24 : TI := { desc := .struct #[{ name := "Channel", type := 9, offset := 0, embedded := false, tag := "", pkgPath := "", byteOffset := 0 }, { name := "Serial", type := 3, offset := 1, embedded := false, tag := "", pkgPath := "", byteOffset := 16 }, { name := "Time", type := 3, offset := 2, embedded := false, tag := "", pkgPath := "", byteOffset := 24 }, { name := "Offers", type := 23, offset := 3, embedded := false, tag := "", pkgPath := "", byteOffset := 32 }], size := 4, zero := .agg #[.string ⟨#[]⟩, .int .i64 0, .int .i64 0, .slice none 0 0], bytes := 56, plain := false }
theorem ty24_ok : TiOk Tryz.prog 24 ty24 := tiOk_of (by kernel_rfl) (by kernel_rfl) (fun h => by cases h)
def ty25 : TI := { desc := .struct #[{ name := "Channel", type := 9, offset := 0, embedded := false, tag := "", pkgPath := "", byteOffset := 0 }, { name := "Serial", type := 3, offset := 1, embedded := false, tag := "", pkgPath := "", byteOffset := 16 }, { name := "Time", type := 3, offset := 2, embedded := false, tag := "", pkgPath := "", byteOffset := 24 }, { name := "Offers", type := 23, offset := 3, embedded := false, tag := "", pkgPath := "", byteOffset := 32 }], size := 4, zero := .agg #[.string ⟨#[]⟩, .int .i64 0, .int .i64 0, .slice none 0 0], bytes := 56, plain := false }
theorem ty25_ok : TiOk Tryz.prog 25 ty25 := tiOk_of (by kernel_rfl) (by kernel_rfl) (fun h => by cases h)
def ty26 : TI := { desc := .int .i64, size := 1, zero := .int .i64 0, bytes := 8, plain := false }
theorem ty26_ok : TiOk Tryz.prog 26 ty26 := tiOk_of (by kernel_rfl) (by kernel_rfl) (fun h => by cases h)
def ty34 : TI := { desc := .struct #[{ name := "Major", type := 3, offset := 0, embedded := false, tag := "", pkgPath := "", byteOffset := 0 }, { name := "Minor", type := 3, offset := 1, embedded := false, tag := "", pkgPath := "", byteOffset := 8 }, { name := "Patch", type := 3, offset := 2, embedded := false, tag := "", pkgPath := "", byteOffset := 16 }, { name := "Early", type := 9, offset := 3, embedded := false, tag := "", pkgPath := "", byteOffset := 24 }], size := 4, zero := .agg #[.int .i64 0, .int .i64 0, .int .i64 0, .string ⟨#[]⟩], bytes := 40, plain := true }
theorem ty34_ok : TiOk Tryz.prog 34 ty34 := tiOk_of (by kernel_rfl) (by kernel_rfl) (fun _ => ⟨by kernel_rfl, by kernel_rfl⟩)
def ty35 : TI := { desc := .struct #[{ name := "Major", type := 3, offset := 0, embedded := false, tag := "", pkgPath := "", byteOffset := 0 }, { name := "Minor", type := 3, offset := 1, embedded := false, tag := "", pkgPath := "", byteOffset := 8 }, { name := "Patch", type := 3, offset := 2, embedded := false, tag := "", pkgPath := "", byteOffset := 16 }, { name := "Early", type := 9, offset := 3, embedded := false, tag := "", pkgPath := "", byteOffset := 24 }], size := 4, zero := .agg #[.int .i64 0, .int .i64 0, .int .i64 0, .string ⟨#[]⟩], bytes := 40, plain := true }
theorem ty35_ok : TiOk Tryz.prog 35 ty35 := tiOk_of (by kernel_rfl) (by kernel_rfl) (fun _ => ⟨by kernel_rfl, by kernel_rfl⟩)
def ty36 : TI := { desc := .slice 135, size := 1, zero := .slice none 0 0, bytes := 24, plain := false }
theorem ty36_ok : TiOk Tryz.prog 36 ty36 := tiOk_of (by kernel_rfl) (by kernel_rfl) (fun h => by cases h)
def ty37 : TI := { desc := .struct #[{ name := "Spans", type := 36, offset := 0, embedded := false, tag := "", pkgPath := "", byteOffset := 0 }], size := 1, zero := .agg #[.slice none 0 0], bytes := 24, plain := false }
theorem ty37_ok : TiOk Tryz.prog 37 ty37 := tiOk_of (by kernel_rfl) (by kernel_rfl) (fun h => by cases h)
def ty38 : TI := { desc := .struct #[{ name := "Spans", type := 36, offset := 0, embedded := false, tag := "", pkgPath := "", byteOffset := 0 }], size := 1, zero := .agg #[.slice none 0 0], bytes := 24, plain := false }
theorem ty38_ok : TiOk Tryz.prog 38 ty38 := tiOk_of (by kernel_rfl) (by kernel_rfl) (fun h => by cases h)
def ty39 : TI := { desc := .slice 41, size := 1, zero := .slice none 0 0, bytes := 24, plain := false }
theorem ty39_ok : TiOk Tryz.prog 39 ty39 := tiOk_of (by kernel_rfl) (by kernel_rfl) (fun h => by cases h)
def ty40 : TI := { desc := .struct #[{ name := "Kind", type := 3, offset := 0, embedded := false, tag := "", pkgPath := "", byteOffset := 0 }, { name := "Name", type := 9, offset := 1, embedded := false, tag := "", pkgPath := "", byteOffset := 8 }, { name := "Value", type := 9, offset := 2, embedded := false, tag := "", pkgPath := "", byteOffset := 24 }, { name := "Args", type := 39, offset := 3, embedded := false, tag := "", pkgPath := "", byteOffset := 40 }], size := 4, zero := .agg #[.int .i64 0, .string ⟨#[]⟩, .string ⟨#[]⟩, .slice none 0 0], bytes := 64, plain := false }
theorem ty40_ok : TiOk Tryz.prog 40 ty40 := tiOk_of (by kernel_rfl) (by kernel_rfl) (fun h => by cases h)
def ty41 : TI := { desc := .struct #[{ name := "Kind", type := 3, offset := 0, embedded := false, tag := "", pkgPath := "", byteOffset := 0 }, { name := "Name", type := 9, offset := 1, embedded := false, tag := "", pkgPath := "", byteOffset := 8 }, { name := "Value", type := 9, offset := 2, embedded := false, tag := "", pkgPath := "", byteOffset := 24 }, { name := "Args", type := 39, offset := 3, embedded := false, tag := "", pkgPath := "", byteOffset := 40 }], size := 4, zero := .agg #[.int .i64 0, .string ⟨#[]⟩, .string ⟨#[]⟩, .slice none 0 0], bytes := 64, plain := false }
theorem ty41_ok : TiOk Tryz.prog 41 ty41 := tiOk_of (by kernel_rfl) (by kernel_rfl) (fun h => by cases h)
def ty42 : TI := { desc := .struct #[{ name := "Name", type := 9, offset := 0, embedded := false, tag := "", pkgPath := "", byteOffset := 0 }, { name := "Version", type := 35, offset := 1, embedded := false, tag := "", pkgPath := "", byteOffset := 16 }, { name := "Sum", type := 9, offset := 5, embedded := false, tag := "", pkgPath := "", byteOffset := 56 }, { name := "From", type := 38, offset := 6, embedded := false, tag := "", pkgPath := "", byteOffset := 72 }, { name := "New", type := 4, offset := 7, embedded := false, tag := "", pkgPath := "", byteOffset := 96 }, { name := "When", type := 41, offset := 8, embedded := false, tag := "", pkgPath := "", byteOffset := 104 }, { name := "Begin", type := 3, offset := 12, embedded := false, tag := "", pkgPath := "", byteOffset := 168 }, { name := "Start", type := 3, offset := 13, embedded := false, tag := "", pkgPath := "", byteOffset := 176 }, { name := "Grow", type := 3, offset := 14, embedded := false, tag := "", pkgPath := "", byteOffset := 184 }, { name := "Hold", type := 4, offset := 15, embedded := false, tag := "", pkgPath := "", byteOffset := 192 }, { name := "Urgent", type := 4, offset := 16, embedded := false, tag := "", pkgPath := "", byteOffset := 193 }, { name := "Back", type := 4, offset := 17, embedded := false, tag := "", pkgPath := "", byteOffset := 194 }], size := 18, zero := .agg #[.string ⟨#[]⟩, .int .i64 0, .int .i64 0, .int .i64 0, .string ⟨#[]⟩, .string ⟨#[]⟩, .slice none 0 0, .bool false, .int .i64 0, .string ⟨#[]⟩, .string ⟨#[]⟩, .slice none 0 0, .int .i64 0, .int .i64 0, .int .i64 0, .bool false, .bool false, .bool false], bytes := 200, plain := false }
theorem ty42_ok : TiOk Tryz.prog 42 ty42 := tiOk_of (by kernel_rfl) (by kernel_rfl) (fun h => by cases h)
def ty43 : TI := { desc := .struct #[{ name := "Name", type := 9, offset := 0, embedded := false, tag := "", pkgPath := "", byteOffset := 0 }, { name := "Version", type := 35, offset := 1, embedded := false, tag := "", pkgPath := "", byteOffset := 16 }, { name := "Sum", type := 9, offset := 5, embedded := false, tag := "", pkgPath := "", byteOffset := 56 }, { name := "From", type := 38, offset := 6, embedded := false, tag := "", pkgPath := "", byteOffset := 72 }, { name := "New", type := 4, offset := 7, embedded := false, tag := "", pkgPath := "", byteOffset := 96 }, { name := "When", type := 41, offset := 8, embedded := false, tag := "", pkgPath := "", byteOffset := 104 }, { name := "Begin", type := 3, offset := 12, embedded := false, tag := "", pkgPath := "", byteOffset := 168 }, { name := "Start", type := 3, offset := 13, embedded := false, tag := "", pkgPath := "", byteOffset := 176 }, { name := "Grow", type := 3, offset := 14, embedded := false, tag := "", pkgPath := "", byteOffset := 184 }, { name := "Hold", type := 4, offset := 15, embedded := false, tag := "", pkgPath := "", byteOffset := 192 }, { name := "Urgent", type := 4, offset := 16, embedded := false, tag := "", pkgPath := "", byteOffset := 193 }, { name := "Back", type := 4, offset := 17, embedded := false, tag := "", pkgPath := "", byteOffset := 194 }], size := 18, zero := .agg #[.string ⟨#[]⟩, .int .i64 0, .int .i64 0, .int .i64 0, .string ⟨#[]⟩, .string ⟨#[]⟩, .slice none 0 0, .bool false, .int .i64 0, .string ⟨#[]⟩, .string ⟨#[]⟩, .slice none 0 0, .int .i64 0, .int .i64 0, .int .i64 0, .bool false, .bool false, .bool false], bytes := 200, plain := false }
theorem ty43_ok : TiOk Tryz.prog 43 ty43 := tiOk_of (by kernel_rfl) (by kernel_rfl) (fun h => by cases h)
def ty52 : TI := { desc := .slice 9, size := 1, zero := .slice none 0 0, bytes := 24, plain := false }
theorem ty52_ok : TiOk Tryz.prog 52 ty52 := tiOk_of (by kernel_rfl) (by kernel_rfl) (fun h => by cases h)
def ty69 : TI := { desc := .slice 114, size := 1, zero := .slice none 0 0, bytes := 24, plain := false }
theorem ty69_ok : TiOk Tryz.prog 69 ty69 := tiOk_of (by kernel_rfl) (by kernel_rfl) (fun h => by cases h)
def ty70 : TI := { desc := .slice 155, size := 1, zero := .slice none 0 0, bytes := 24, plain := false }
theorem ty70_ok : TiOk Tryz.prog 70 ty70 := tiOk_of (by kernel_rfl) (by kernel_rfl) (fun h => by cases h)
def ty71 : TI := { desc := .slice 117, size := 1, zero := .slice none 0 0, bytes := 24, plain := false }
theorem ty71_ok : TiOk Tryz.prog 71 ty71 := tiOk_of (by kernel_rfl) (by kernel_rfl) (fun h => by cases h)
def ty72 : TI := { desc := .struct #[{ name := "Name", type := 9, offset := 0, embedded := false, tag := "", pkgPath := "", byteOffset := 0 }, { name := "Installed", type := 69, offset := 1, embedded := false, tag := "", pkgPath := "", byteOffset := 16 }, { name := "Facts", type := 70, offset := 2, embedded := false, tag := "", pkgPath := "", byteOffset := 40 }, { name := "Settings", type := 70, offset := 3, embedded := false, tag := "", pkgPath := "", byteOffset := 64 }, { name := "Pins", type := 71, offset := 4, embedded := false, tag := "", pkgPath := "", byteOffset := 88 }], size := 5, zero := .agg #[.string ⟨#[]⟩, .slice none 0 0, .slice none 0 0, .slice none 0 0, .slice none 0 0], bytes := 112, plain := false }
theorem ty72_ok : TiOk Tryz.prog 72 ty72 := tiOk_of (by kernel_rfl) (by kernel_rfl) (fun h => by cases h)
def ty73 : TI := { desc := .struct #[{ name := "Name", type := 9, offset := 0, embedded := false, tag := "", pkgPath := "", byteOffset := 0 }, { name := "Installed", type := 69, offset := 1, embedded := false, tag := "", pkgPath := "", byteOffset := 16 }, { name := "Facts", type := 70, offset := 2, embedded := false, tag := "", pkgPath := "", byteOffset := 40 }, { name := "Settings", type := 70, offset := 3, embedded := false, tag := "", pkgPath := "", byteOffset := 64 }, { name := "Pins", type := 71, offset := 4, embedded := false, tag := "", pkgPath := "", byteOffset := 88 }], size := 5, zero := .agg #[.string ⟨#[]⟩, .slice none 0 0, .slice none 0 0, .slice none 0 0, .slice none 0 0], bytes := 112, plain := false }
theorem ty73_ok : TiOk Tryz.prog 73 ty73 := tiOk_of (by kernel_rfl) (by kernel_rfl) (fun h => by cases h)
def ty89 : TI := { desc := .slice 26, size := 1, zero := .slice none 0 0, bytes := 24, plain := false }
theorem ty89_ok : TiOk Tryz.prog 89 ty89 := tiOk_of (by kernel_rfl) (by kernel_rfl) (fun h => by cases h)
def ty90 : TI := { desc := .int .u64, size := 1, zero := .int .u64 0, bytes := 8, plain := false }
theorem ty90_ok : TiOk Tryz.prog 90 ty90 := tiOk_of (by kernel_rfl) (by kernel_rfl) (fun h => by cases h)
def ty95 : TI := { desc := .interface #[("Error", 200)], size := 1, zero := .nilIface, bytes := 16, plain := false }
theorem ty95_ok : TiOk Tryz.prog 95 ty95 := tiOk_of (by kernel_rfl) (by kernel_rfl) (fun h => by cases h)
def ty96 : TI := { desc := .interface #[("Error", 200)], size := 1, zero := .nilIface, bytes := 16, plain := false }
theorem ty96_ok : TiOk Tryz.prog 96 ty96 := tiOk_of (by kernel_rfl) (by kernel_rfl) (fun h => by cases h)
def ty104 : TI := { desc := .slice 35, size := 1, zero := .slice none 0 0, bytes := 24, plain := false }
theorem ty104_ok : TiOk Tryz.prog 104 ty104 := tiOk_of (by kernel_rfl) (by kernel_rfl) (fun h => by cases h)
def ty105 : TI := { desc := .slice 3, size := 1, zero := .slice none 0 0, bytes := 24, plain := false }
theorem ty105_ok : TiOk Tryz.prog 105 ty105 := tiOk_of (by kernel_rfl) (by kernel_rfl) (fun h => by cases h)
def ty106 : TI := { desc := .int .u64, size := 1, zero := .int .u64 0, bytes := 8, plain := false }
theorem ty106_ok : TiOk Tryz.prog 106 ty106 := tiOk_of (by kernel_rfl) (by kernel_rfl) (fun h => by cases h)
def ty113 : TI := { desc := .struct #[{ name := "Name", type := 9, offset := 0, embedded := false, tag := "", pkgPath := "", byteOffset := 0 }, { name := "Version", type := 35, offset := 1, embedded := false, tag := "", pkgPath := "", byteOffset := 16 }, { name := "Components", type := 52, offset := 5, embedded := false, tag := "", pkgPath := "", byteOffset := 56 }, { name := "Wanted", type := 4, offset := 6, embedded := false, tag := "", pkgPath := "", byteOffset := 80 }], size := 7, zero := .agg #[.string ⟨#[]⟩, .int .i64 0, .int .i64 0, .int .i64 0, .string ⟨#[]⟩, .slice none 0 0, .bool false], bytes := 88, plain := false }
theorem ty113_ok : TiOk Tryz.prog 113 ty113 := tiOk_of (by kernel_rfl) (by kernel_rfl) (fun h => by cases h)
def ty114 : TI := { desc := .struct #[{ name := "Name", type := 9, offset := 0, embedded := false, tag := "", pkgPath := "", byteOffset := 0 }, { name := "Version", type := 35, offset := 1, embedded := false, tag := "", pkgPath := "", byteOffset := 16 }, { name := "Components", type := 52, offset := 5, embedded := false, tag := "", pkgPath := "", byteOffset := 56 }, { name := "Wanted", type := 4, offset := 6, embedded := false, tag := "", pkgPath := "", byteOffset := 80 }], size := 7, zero := .agg #[.string ⟨#[]⟩, .int .i64 0, .int .i64 0, .int .i64 0, .string ⟨#[]⟩, .slice none 0 0, .bool false], bytes := 88, plain := false }
theorem ty114_ok : TiOk Tryz.prog 114 ty114 := tiOk_of (by kernel_rfl) (by kernel_rfl) (fun h => by cases h)
def ty116 : TI := { desc := .struct #[{ name := "Name", type := 9, offset := 0, embedded := false, tag := "", pkgPath := "", byteOffset := 0 }, { name := "Range", type := 38, offset := 1, embedded := false, tag := "", pkgPath := "", byteOffset := 16 }], size := 2, zero := .agg #[.string ⟨#[]⟩, .slice none 0 0], bytes := 40, plain := false }
theorem ty116_ok : TiOk Tryz.prog 116 ty116 := tiOk_of (by kernel_rfl) (by kernel_rfl) (fun h => by cases h)
def ty117 : TI := { desc := .struct #[{ name := "Name", type := 9, offset := 0, embedded := false, tag := "", pkgPath := "", byteOffset := 0 }, { name := "Range", type := 38, offset := 1, embedded := false, tag := "", pkgPath := "", byteOffset := 16 }], size := 2, zero := .agg #[.string ⟨#[]⟩, .slice none 0 0], bytes := 40, plain := false }
theorem ty117_ok : TiOk Tryz.prog 117 ty117 := tiOk_of (by kernel_rfl) (by kernel_rfl) (fun h => by cases h)
def ty125 : TI := { desc := .map 9 9, size := 1, zero := .map none, bytes := 8, plain := false }
theorem ty125_ok : TiOk Tryz.prog 125 ty125 := tiOk_of (by kernel_rfl) (by kernel_rfl) (fun h => by cases h)
def ty134 : TI := { desc := .struct #[{ name := "HasFrom", type := 4, offset := 0, embedded := false, tag := "", pkgPath := "", byteOffset := 0 }, { name := "HasTo", type := 4, offset := 1, embedded := false, tag := "", pkgPath := "", byteOffset := 1 }, { name := "From", type := 35, offset := 2, embedded := false, tag := "", pkgPath := "", byteOffset := 8 }, { name := "To", type := 35, offset := 6, embedded := false, tag := "", pkgPath := "", byteOffset := 48 }], size := 10, zero := .agg #[.bool false, .bool false, .int .i64 0, .int .i64 0, .int .i64 0, .string ⟨#[]⟩, .int .i64 0, .int .i64 0, .int .i64 0, .string ⟨#[]⟩], bytes := 88, plain := true }
theorem ty134_ok : TiOk Tryz.prog 134 ty134 := tiOk_of (by kernel_rfl) (by kernel_rfl) (fun _ => ⟨by kernel_rfl, by kernel_rfl⟩)
def ty135 : TI := { desc := .struct #[{ name := "HasFrom", type := 4, offset := 0, embedded := false, tag := "", pkgPath := "", byteOffset := 0 }, { name := "HasTo", type := 4, offset := 1, embedded := false, tag := "", pkgPath := "", byteOffset := 1 }, { name := "From", type := 35, offset := 2, embedded := false, tag := "", pkgPath := "", byteOffset := 8 }, { name := "To", type := 35, offset := 6, embedded := false, tag := "", pkgPath := "", byteOffset := 48 }], size := 10, zero := .agg #[.bool false, .bool false, .int .i64 0, .int .i64 0, .int .i64 0, .string ⟨#[]⟩, .int .i64 0, .int .i64 0, .int .i64 0, .string ⟨#[]⟩], bytes := 88, plain := true }
theorem ty135_ok : TiOk Tryz.prog 135 ty135 := tiOk_of (by kernel_rfl) (by kernel_rfl) (fun _ => ⟨by kernel_rfl, by kernel_rfl⟩)
def ty147 : TI := { desc := .array 3 3, size := 3, zero := .agg #[.int .i64 0, .int .i64 0, .int .i64 0], bytes := 24, plain := false }
theorem ty147_ok : TiOk Tryz.prog 147 ty147 := tiOk_of (by kernel_rfl) (by kernel_rfl) (fun h => by cases h)
def ty154 : TI := { desc := .struct #[{ name := "Key", type := 9, offset := 0, embedded := false, tag := "", pkgPath := "", byteOffset := 0 }, { name := "Value", type := 9, offset := 1, embedded := false, tag := "", pkgPath := "", byteOffset := 16 }], size := 2, zero := .agg #[.string ⟨#[]⟩, .string ⟨#[]⟩], bytes := 32, plain := true }
theorem ty154_ok : TiOk Tryz.prog 154 ty154 := tiOk_of (by kernel_rfl) (by kernel_rfl) (fun _ => ⟨by kernel_rfl, by kernel_rfl⟩)
def ty155 : TI := { desc := .struct #[{ name := "Key", type := 9, offset := 0, embedded := false, tag := "", pkgPath := "", byteOffset := 0 }, { name := "Value", type := 9, offset := 1, embedded := false, tag := "", pkgPath := "", byteOffset := 16 }], size := 2, zero := .agg #[.string ⟨#[]⟩, .string ⟨#[]⟩], bytes := 32, plain := true }
theorem ty155_ok : TiOk Tryz.prog 155 ty155 := tiOk_of (by kernel_rfl) (by kernel_rfl) (fun _ => ⟨by kernel_rfl, by kernel_rfl⟩)
def ty160 : TI := { desc := .func #[4, 35] #[4] false, size := 1, zero := .nilFunc, bytes := 8, plain := false }
theorem ty160_ok : TiOk Tryz.prog 160 ty160 := tiOk_of (by kernel_rfl) (by kernel_rfl) (fun h => by cases h)
def ty170 : TI := { desc := .func #[41] #[4] false, size := 1, zero := .nilFunc, bytes := 8, plain := false }
theorem ty170_ok : TiOk Tryz.prog 170 ty170 := tiOk_of (by kernel_rfl) (by kernel_rfl) (fun h => by cases h)
def ty177 : TI := { desc := .array 256 4, size := 256, zero := .agg #[.bool false, .bool false, .bool false, .bool false, .bool false, .bool false, .bool false, .bool false, .bool false, .bool false, .bool false, .bool false, .bool false, .bool false, .bool false, .bool false, .bool false, .bool false, .bool false, .bool false, .bool false, .bool false, .bool false, .bool false, .bool false, .bool false, .bool false, .bool false, .bool false, .bool false, .bool false, .bool false, .bool false, .bool false, .bool false, .bool false, .bool false, .bool false, .bool false, .bool false, .bool false, .bool false, .bool false, .bool false, .bool false, .bool false, .bool false, .bool false, .bool false, .bool false, .bool false, .bool false, .bool false, .bool false, .bool false, .bool false, .bool false, .bool false, .bool false, .bool false, .bool false, .bool false, .bool false, .bool false, .bool false, .bool false, .bool false, .bool false, .bool false, .bool false, .bool false, .bool false, .bool false, .bool false, .bool false, .bool false, .bool false, .bool false, .bool false, .bool false, .bool false, .bool false, .bool false, .bool false, .bool false, .bool false, .bool false, .bool false, .bool false, .bool false, .bool false, .bool false, .bool false, .bool false, .bool false, .bool false, .bool false, .bool false, .bool false, .bool false, .bool false, .bool false, .bool false, .bool false, .bool false, .bool false, .bool false, .bool false, .bool false, .bool false, .bool false, .bool false, .bool false, .bool false, .bool false, .bool false, .bool false, .bool false, .bool false, .bool false, .bool false, .bool false, .bool false, .bool false, .bool false, .bool false, .bool false, .bool false, .bool false, .bool false, .bool false, .bool false, .bool false, .bool false, .bool false, .bool false, .bool false, .bool false, .bool false, .bool false, .bool false, .bool false, .bool false, .bool false, .bool false, .bool false, .bool false, .bool false, .bool false, .bool false, .bool false, .bool false, .bool false, .bool false, .bool false, .bool false, .bool false, .bool false, .bool false, .bool false, .bool false, .bool false, .bool false, .bool false, .bool false, .bool false, .bool false, .bool false, .bool false, .bool false, .bool false, .bool false, .bool false, .bool false, .bool false, .bool false, .bool false, .bool false, .bool false, .bool false, .bool false, .bool false, .bool false, .bool false, .bool false, .bool false, .bool false, .bool false, .bool false, .bool false, .bool false, .bool false, .bool false, .bool false, .bool false, .bool false, .bool false, .bool false, .bool false, .bool false, .bool false, .bool false, .bool false, .bool false, .bool false, .bool false, .bool false, .bool false, .bool false, .bool false, .bool false, .bool false, .bool false, .bool false, .bool false, .bool false, .bool false, .bool false, .bool false, .bool false, .bool false, .bool false, .bool false, .bool false, .bool false, .bool false, .bool false, .bool false, .bool false, .bool false, .bool false, .bool false, .bool false, .bool false, .bool false, .bool false, .bool false, .bool false, .bool false, .bool false, .bool false, .bool false, .bool false, .bool false, .bool false, .bool false, .bool false, .bool false, .bool false, .bool false, .bool false, .bool false, .bool false, .bool false, .bool false, .bool false], bytes := 256, plain := false }
theorem ty177_ok : TiOk Tryz.prog 177 ty177 := tiOk_of (by kernel_rfl) (by kernel_rfl) (fun h => by cases h)
def ty178 : TI := { desc := .array 256 4, size := 256, zero := .agg #[.bool false, .bool false, .bool false, .bool false, .bool false, .bool false, .bool false, .bool false, .bool false, .bool false, .bool false, .bool false, .bool false, .bool false, .bool false, .bool false, .bool false, .bool false, .bool false, .bool false, .bool false, .bool false, .bool false, .bool false, .bool false, .bool false, .bool false, .bool false, .bool false, .bool false, .bool false, .bool false, .bool false, .bool false, .bool false, .bool false, .bool false, .bool false, .bool false, .bool false, .bool false, .bool false, .bool false, .bool false, .bool false, .bool false, .bool false, .bool false, .bool false, .bool false, .bool false, .bool false, .bool false, .bool false, .bool false, .bool false, .bool false, .bool false, .bool false, .bool false, .bool false, .bool false, .bool false, .bool false, .bool false, .bool false, .bool false, .bool false, .bool false, .bool false, .bool false, .bool false, .bool false, .bool false, .bool false, .bool false, .bool false, .bool false, .bool false, .bool false, .bool false, .bool false, .bool false, .bool false, .bool false, .bool false, .bool false, .bool false, .bool false, .bool false, .bool false, .bool false, .bool false, .bool false, .bool false, .bool false, .bool false, .bool false, .bool false, .bool false, .bool false, .bool false, .bool false, .bool false, .bool false, .bool false, .bool false, .bool false, .bool false, .bool false, .bool false, .bool false, .bool false, .bool false, .bool false, .bool false, .bool false, .bool false, .bool false, .bool false, .bool false, .bool false, .bool false, .bool false, .bool false, .bool false, .bool false, .bool false, .bool false, .bool false, .bool false, .bool false, .bool false, .bool false, .bool false, .bool false, .bool false, .bool false, .bool false, .bool false, .bool false, .bool false, .bool false, .bool false, .bool false, .bool false, .bool false, .bool false, .bool false, .bool false, .bool false, .bool false, .bool false, .bool false, .bool false, .bool false, .bool false, .bool false, .bool false, .bool false, .bool false, .bool false, .bool false, .bool false, .bool false, .bool false, .bool false, .bool false, .bool false, .bool false, .bool false, .bool false, .bool false, .bool false, .bool false, .bool false, .bool false, .bool false, .bool false, .bool false, .bool false, .bool false, .bool false, .bool false, .bool false, .bool false, .bool false, .bool false, .bool false, .bool false, .bool false, .bool false, .bool false, .bool false, .bool false, .bool false, .bool false, .bool false, .bool false, .bool false, .bool false, .bool false, .bool false, .bool false, .bool false, .bool false, .bool false, .bool false, .bool false, .bool false, .bool false, .bool false, .bool false, .bool false, .bool false, .bool false, .bool false, .bool false, .bool false, .bool false, .bool false, .bool false, .bool false, .bool false, .bool false, .bool false, .bool false, .bool false, .bool false, .bool false, .bool false, .bool false, .bool false, .bool false, .bool false, .bool false, .bool false, .bool false, .bool false, .bool false, .bool false, .bool false, .bool false, .bool false, .bool false, .bool false, .bool false, .bool false, .bool false, .bool false, .bool false, .bool false, .bool false, .bool false, .bool false, .bool false], bytes := 256, plain := false }
theorem ty178_ok : TiOk Tryz.prog 178 ty178 := tiOk_of (by kernel_rfl) (by kernel_rfl) (fun h => by cases h)
def ty185 : TI := { desc := .slice 5, size := 1, zero := .slice none 0 0, bytes := 24, plain := false }
theorem ty185_ok : TiOk Tryz.prog 185 ty185 := tiOk_of (by kernel_rfl) (by kernel_rfl) (fun h => by cases h)
def ty195 : TI := { desc := .pointer 197, size := 1, zero := .pointer none, bytes := 8, plain := false }
theorem ty195_ok : TiOk Tryz.prog 195 ty195 := tiOk_of (by kernel_rfl) (by kernel_rfl) (fun h => by cases h)
def ty196 : TI := { desc := .struct #[{ name := "addr", type := 195, offset := 0, embedded := false, tag := "", pkgPath := "strings", byteOffset := 0 }, { name := "buf", type := 185, offset := 1, embedded := false, tag := "", pkgPath := "strings", byteOffset := 8 }], size := 2, zero := .agg #[.pointer none, .slice none 0 0], bytes := 32, plain := false }
theorem ty196_ok : TiOk Tryz.prog 196 ty196 := tiOk_of (by kernel_rfl) (by kernel_rfl) (fun h => by cases h)
def ty197 : TI := { desc := .struct #[{ name := "addr", type := 195, offset := 0, embedded := false, tag := "", pkgPath := "strings", byteOffset := 0 }, { name := "buf", type := 185, offset := 1, embedded := false, tag := "", pkgPath := "strings", byteOffset := 8 }], size := 2, zero := .agg #[.pointer none, .slice none 0 0], bytes := 32, plain := false }
theorem ty197_ok : TiOk Tryz.prog 197 ty197 := tiOk_of (by kernel_rfl) (by kernel_rfl) (fun h => by cases h)
def ty205 : TI := { desc := .func #[9] #[9, 4] false, size := 1, zero := .nilFunc, bytes := 8, plain := false }
theorem ty205_ok : TiOk Tryz.prog 205 ty205 := tiOk_of (by kernel_rfl) (by kernel_rfl) (fun h => by cases h)
def ty221 : TI := { desc := .struct #[{ name := "Func", type := 9, offset := 0, embedded := false, tag := "", pkgPath := "", byteOffset := 0 }, { name := "Num", type := 9, offset := 1, embedded := false, tag := "", pkgPath := "", byteOffset := 16 }, { name := "Err", type := 96, offset := 2, embedded := false, tag := "", pkgPath := "", byteOffset := 32 }], size := 3, zero := .agg #[.string ⟨#[]⟩, .string ⟨#[]⟩, .nilIface], bytes := 48, plain := false }
theorem ty221_ok : TiOk Tryz.prog 221 ty221 := tiOk_of (by kernel_rfl) (by kernel_rfl) (fun h => by cases h)
def ty224 : TI := { desc := .array 24 5, size := 24, zero := .agg #[.int .u8 0, .int .u8 0, .int .u8 0, .int .u8 0, .int .u8 0, .int .u8 0, .int .u8 0, .int .u8 0, .int .u8 0, .int .u8 0, .int .u8 0, .int .u8 0, .int .u8 0, .int .u8 0, .int .u8 0, .int .u8 0, .int .u8 0, .int .u8 0, .int .u8 0, .int .u8 0, .int .u8 0, .int .u8 0, .int .u8 0, .int .u8 0], bytes := 24, plain := false }
theorem ty224_ok : TiOk Tryz.prog 224 ty224 := tiOk_of (by kernel_rfl) (by kernel_rfl) (fun h => by cases h)
def ty229 : TI := { desc := .int .u32, size := 1, zero := .int .u32 0, bytes := 4, plain := false }
theorem ty229_ok : TiOk Tryz.prog 229 ty229 := tiOk_of (by kernel_rfl) (by kernel_rfl) (fun h => by cases h)
def ty234 : TI := { desc := .pointer 5, size := 1, zero := .pointer none, bytes := 8, plain := false }
theorem ty234_ok : TiOk Tryz.prog 234 ty234 := tiOk_of (by kernel_rfl) (by kernel_rfl) (fun h => by cases h)
def ty245 : TI := { desc := .struct #[{ name := "s", type := 9, offset := 0, embedded := false, tag := "", pkgPath := "errors", byteOffset := 0 }], size := 1, zero := .agg #[.string ⟨#[]⟩], bytes := 16, plain := true }
theorem ty245_ok : TiOk Tryz.prog 245 ty245 := tiOk_of (by kernel_rfl) (by kernel_rfl) (fun _ => ⟨by kernel_rfl, by kernel_rfl⟩)
def ty248 : TI := { desc := .array 20 106, size := 20, zero := .agg #[.int .u64 0, .int .u64 0, .int .u64 0, .int .u64 0, .int .u64 0, .int .u64 0, .int .u64 0, .int .u64 0, .int .u64 0, .int .u64 0, .int .u64 0, .int .u64 0, .int .u64 0, .int .u64 0, .int .u64 0, .int .u64 0, .int .u64 0, .int .u64 0, .int .u64 0, .int .u64 0], bytes := 160, plain := false }
theorem ty248_ok : TiOk Tryz.prog 248 ty248 := tiOk_of (by kernel_rfl) (by kernel_rfl) (fun h => by cases h)
def ty249 : TI := { desc := .array 65 5, size := 65, zero := .agg #[.int .u8 0, .int .u8 0, .int .u8 0, .int .u8 0, .int .u8 0, .int .u8 0, .int .u8 0, .int .u8 0, .int .u8 0, .int .u8 0, .int .u8 0, .int .u8 0, .int .u8 0, .int .u8 0, .int .u8 0, .int .u8 0, .int .u8 0, .int .u8 0, .int .u8 0, .int .u8 0, .int .u8 0, .int .u8 0, .int .u8 0, .int .u8 0, .int .u8 0, .int .u8 0, .int .u8 0, .int .u8 0, .int .u8 0, .int .u8 0, .int .u8 0, .int .u8 0, .int .u8 0, .int .u8 0, .int .u8 0, .int .u8 0, .int .u8 0, .int .u8 0, .int .u8 0, .int .u8 0, .int .u8 0, .int .u8 0, .int .u8 0, .int .u8 0, .int .u8 0, .int .u8 0, .int .u8 0, .int .u8 0, .int .u8 0, .int .u8 0, .int .u8 0, .int .u8 0, .int .u8 0, .int .u8 0, .int .u8 0, .int .u8 0, .int .u8 0, .int .u8 0, .int .u8 0, .int .u8 0, .int .u8 0, .int .u8 0, .int .u8 0, .int .u8 0, .int .u8 0], bytes := 65, plain := false }
theorem ty249_ok : TiOk Tryz.prog 249 ty249 := tiOk_of (by kernel_rfl) (by kernel_rfl) (fun h => by cases h)
def ty254 : TI := { desc := .slice 256, size := 1, zero := .slice none 0 0, bytes := 24, plain := false }
theorem ty254_ok : TiOk Tryz.prog 254 ty254 := tiOk_of (by kernel_rfl) (by kernel_rfl) (fun h => by cases h)
def ty255 : TI := { desc := .struct #[{ name := "sign", type := 5, offset := 0, embedded := false, tag := "", pkgPath := "outfitter/ver", byteOffset := 0 }, { name := "first", type := 9, offset := 1, embedded := false, tag := "", pkgPath := "outfitter/ver", byteOffset := 8 }, { name := "last", type := 9, offset := 2, embedded := false, tag := "", pkgPath := "outfitter/ver", byteOffset := 24 }], size := 3, zero := .agg #[.int .u8 0, .string ⟨#[]⟩, .string ⟨#[]⟩], bytes := 40, plain := true }
theorem ty255_ok : TiOk Tryz.prog 255 ty255 := tiOk_of (by kernel_rfl) (by kernel_rfl) (fun _ => ⟨by kernel_rfl, by kernel_rfl⟩)
def ty256 : TI := { desc := .struct #[{ name := "sign", type := 5, offset := 0, embedded := false, tag := "", pkgPath := "outfitter/ver", byteOffset := 0 }, { name := "first", type := 9, offset := 1, embedded := false, tag := "", pkgPath := "outfitter/ver", byteOffset := 8 }, { name := "last", type := 9, offset := 2, embedded := false, tag := "", pkgPath := "outfitter/ver", byteOffset := 24 }], size := 3, zero := .agg #[.int .u8 0, .string ⟨#[]⟩, .string ⟨#[]⟩], bytes := 40, plain := true }
theorem ty256_ok : TiOk Tryz.prog 256 ty256 := tiOk_of (by kernel_rfl) (by kernel_rfl) (fun _ => ⟨by kernel_rfl, by kernel_rfl⟩)
def ty261 : TI := { desc := .array 256 5, size := 256, zero := .agg #[.int .u8 0, .int .u8 0, .int .u8 0, .int .u8 0, .int .u8 0, .int .u8 0, .int .u8 0, .int .u8 0, .int .u8 0, .int .u8 0, .int .u8 0, .int .u8 0, .int .u8 0, .int .u8 0, .int .u8 0, .int .u8 0, .int .u8 0, .int .u8 0, .int .u8 0, .int .u8 0, .int .u8 0, .int .u8 0, .int .u8 0, .int .u8 0, .int .u8 0, .int .u8 0, .int .u8 0, .int .u8 0, .int .u8 0, .int .u8 0, .int .u8 0, .int .u8 0, .int .u8 0, .int .u8 0, .int .u8 0, .int .u8 0, .int .u8 0, .int .u8 0, .int .u8 0, .int .u8 0, .int .u8 0, .int .u8 0, .int .u8 0, .int .u8 0, .int .u8 0, .int .u8 0, .int .u8 0, .int .u8 0, .int .u8 0, .int .u8 0, .int .u8 0, .int .u8 0, .int .u8 0, .int .u8 0, .int .u8 0, .int .u8 0, .int .u8 0, .int .u8 0, .int .u8 0, .int .u8 0, .int .u8 0, .int .u8 0, .int .u8 0, .int .u8 0, .int .u8 0, .int .u8 0, .int .u8 0, .int .u8 0, .int .u8 0, .int .u8 0, .int .u8 0, .int .u8 0, .int .u8 0, .int .u8 0, .int .u8 0, .int .u8 0, .int .u8 0, .int .u8 0, .int .u8 0, .int .u8 0, .int .u8 0, .int .u8 0, .int .u8 0, .int .u8 0, .int .u8 0, .int .u8 0, .int .u8 0, .int .u8 0, .int .u8 0, .int .u8 0, .int .u8 0, .int .u8 0, .int .u8 0, .int .u8 0, .int .u8 0, .int .u8 0, .int .u8 0, .int .u8 0, .int .u8 0, .int .u8 0, .int .u8 0, .int .u8 0, .int .u8 0, .int .u8 0, .int .u8 0, .int .u8 0, .int .u8 0, .int .u8 0, .int .u8 0, .int .u8 0, .int .u8 0, .int .u8 0, .int .u8 0, .int .u8 0, .int .u8 0, .int .u8 0, .int .u8 0, .int .u8 0, .int .u8 0, .int .u8 0, .int .u8 0, .int .u8 0, .int .u8 0, .int .u8 0, .int .u8 0, .int .u8 0, .int .u8 0, .int .u8 0, .int .u8 0, .int .u8 0, .int .u8 0, .int .u8 0, .int .u8 0, .int .u8 0, .int .u8 0, .int .u8 0, .int .u8 0, .int .u8 0, .int .u8 0, .int .u8 0, .int .u8 0, .int .u8 0, .int .u8 0, .int .u8 0, .int .u8 0, .int .u8 0, .int .u8 0, .int .u8 0, .int .u8 0, .int .u8 0, .int .u8 0, .int .u8 0, .int .u8 0, .int .u8 0, .int .u8 0, .int .u8 0, .int .u8 0, .int .u8 0, .int .u8 0, .int .u8 0, .int .u8 0, .int .u8 0, .int .u8 0, .int .u8 0, .int .u8 0, .int .u8 0, .int .u8 0, .int .u8 0, .int .u8 0, .int .u8 0, .int .u8 0, .int .u8 0, .int .u8 0, .int .u8 0, .int .u8 0, .int .u8 0, .int .u8 0, .int .u8 0, .int .u8 0, .int .u8 0, .int .u8 0, .int .u8 0, .int .u8 0, .int .u8 0, .int .u8 0, .int .u8 0, .int .u8 0, .int .u8 0, .int .u8 0, .int .u8 0, .int .u8 0, .int .u8 0, .int .u8 0, .int .u8 0, .int .u8 0, .int .u8 0, .int .u8 0, .int .u8 0, .int .u8 0, .int .u8 0, .int .u8 0, .int .u8 0, .int .u8 0, .int .u8 0, .int .u8 0, .int .u8 0, .int .u8 0, .int .u8 0, .int .u8 0, .int .u8 0, .int .u8 0, .int .u8 0, .int .u8 0, .int .u8 0, .int .u8 0, .int .u8 0, .int .u8 0, .int .u8 0, .int .u8 0, .int .u8 0, .int .u8 0, .int .u8 0, .int .u8 0, .int .u8 0, .int .u8 0, .int .u8 0, .int .u8 0, .int .u8 0, .int .u8 0, .int .u8 0, .int .u8 0, .int .u8 0, .int .u8 0, .int .u8 0, .int .u8 0, .int .u8 0, .int .u8 0, .int .u8 0, .int .u8 0, .int .u8 0, .int .u8 0, .int .u8 0, .int .u8 0, .int .u8 0, .int .u8 0, .int .u8 0, .int .u8 0, .int .u8 0, .int .u8 0, .int .u8 0, .int .u8 0, .int .u8 0, .int .u8 0, .int .u8 0, .int .u8 0, .int .u8 0], bytes := 256, plain := false }
theorem ty261_ok : TiOk Tryz.prog 261 ty261 := tiOk_of (by kernel_rfl) (by kernel_rfl) (fun h => by cases h)
def ty262 : TI := { desc := .struct #[{ name := "lo", type := 5, offset := 0, embedded := false, tag := "", pkgPath := "unicode/utf8", byteOffset := 0 }, { name := "hi", type := 5, offset := 1, embedded := false, tag := "", pkgPath := "unicode/utf8", byteOffset := 1 }], size := 2, zero := .agg #[.int .u8 0, .int .u8 0], bytes := 2, plain := true }
theorem ty262_ok : TiOk Tryz.prog 262 ty262 := tiOk_of (by kernel_rfl) (by kernel_rfl) (fun _ => ⟨by kernel_rfl, by kernel_rfl⟩)
def ty263 : TI := { desc := .struct #[{ name := "lo", type := 5, offset := 0, embedded := false, tag := "", pkgPath := "unicode/utf8", byteOffset := 0 }, { name := "hi", type := 5, offset := 1, embedded := false, tag := "", pkgPath := "unicode/utf8", byteOffset := 1 }], size := 2, zero := .agg #[.int .u8 0, .int .u8 0], bytes := 2, plain := true }
theorem ty263_ok : TiOk Tryz.prog 263 ty263 := tiOk_of (by kernel_rfl) (by kernel_rfl) (fun _ => ⟨by kernel_rfl, by kernel_rfl⟩)
def ty264 : TI := { desc := .array 16 263, size := 32, zero := .agg #[.int .u8 0, .int .u8 0, .int .u8 0, .int .u8 0, .int .u8 0, .int .u8 0, .int .u8 0, .int .u8 0, .int .u8 0, .int .u8 0, .int .u8 0, .int .u8 0, .int .u8 0, .int .u8 0, .int .u8 0, .int .u8 0, .int .u8 0, .int .u8 0, .int .u8 0, .int .u8 0, .int .u8 0, .int .u8 0, .int .u8 0, .int .u8 0, .int .u8 0, .int .u8 0, .int .u8 0, .int .u8 0, .int .u8 0, .int .u8 0, .int .u8 0, .int .u8 0], bytes := 32, plain := false }
theorem ty264_ok : TiOk Tryz.prog 264 ty264 := tiOk_of (by kernel_rfl) (by kernel_rfl) (fun h => by cases h)
def ty269 : TI := { desc := .array 32 5, size := 32, zero := .agg #[.int .u8 0, .int .u8 0, .int .u8 0, .int .u8 0, .int .u8 0, .int .u8 0, .int .u8 0, .int .u8 0, .int .u8 0, .int .u8 0, .int .u8 0, .int .u8 0, .int .u8 0, .int .u8 0, .int .u8 0, .int .u8 0, .int .u8 0, .int .u8 0, .int .u8 0, .int .u8 0, .int .u8 0, .int .u8 0, .int .u8 0, .int .u8 0, .int .u8 0, .int .u8 0, .int .u8 0, .int .u8 0, .int .u8 0, .int .u8 0, .int .u8 0, .int .u8 0], bytes := 32, plain := false }
theorem ty269_ok : TiOk Tryz.prog 269 ty269 := tiOk_of (by kernel_rfl) (by kernel_rfl) (fun h => by cases h)
def ty270 : TI := { desc := .array 64 5, size := 64, zero := .agg #[.int .u8 0, .int .u8 0, .int .u8 0, .int .u8 0, .int .u8 0, .int .u8 0, .int .u8 0, .int .u8 0, .int .u8 0, .int .u8 0, .int .u8 0, .int .u8 0, .int .u8 0, .int .u8 0, .int .u8 0, .int .u8 0, .int .u8 0, .int .u8 0, .int .u8 0, .int .u8 0, .int .u8 0, .int .u8 0, .int .u8 0, .int .u8 0, .int .u8 0, .int .u8 0, .int .u8 0, .int .u8 0, .int .u8 0, .int .u8 0, .int .u8 0, .int .u8 0, .int .u8 0, .int .u8 0, .int .u8 0, .int .u8 0, .int .u8 0, .int .u8 0, .int .u8 0, .int .u8 0, .int .u8 0, .int .u8 0, .int .u8 0, .int .u8 0, .int .u8 0, .int .u8 0, .int .u8 0, .int .u8 0, .int .u8 0, .int .u8 0, .int .u8 0, .int .u8 0, .int .u8 0, .int .u8 0, .int .u8 0, .int .u8 0, .int .u8 0, .int .u8 0, .int .u8 0, .int .u8 0, .int .u8 0, .int .u8 0, .int .u8 0, .int .u8 0], bytes := 64, plain := false }
theorem ty270_ok : TiOk Tryz.prog 270 ty270 := tiOk_of (by kernel_rfl) (by kernel_rfl) (fun h => by cases h)
def tyL : List (Nat × TI) := [(2, ty2), (3, ty3), (4, ty4), (5, ty5), (9, ty9), (12, ty12), (13, ty13), (20, ty20), (21, ty21), (22, ty22), (23, ty23), (24, ty24), (25, ty25), (26, ty26), (34, ty34), (35, ty35), (36, ty36), (37, ty37), (38, ty38), (39, ty39), (40, ty40), (41, ty41), (42, ty42), (43, ty43), (52, ty52), (69, ty69), (70, ty70), (71, ty71), (72, ty72), (73, ty73), (89, ty89), (90, ty90), (95, ty95), (96, ty96), (104, ty104), (105, ty105), (106, ty106), (113, ty113), (114, ty114), (116, ty116), (117, ty117), (125, ty125), (134, ty134), (135, ty135), (147, ty147), (154, ty154), (155, ty155), (160, ty160), (170, ty170), (177, ty177), (178, ty178), (185, ty185), (195, ty195), (196, ty196), (197, ty197), (205, ty205), (221, ty221), (224, ty224), (229, ty229), (234, ty234), (245, ty245), (248, ty248), (249, ty249), (254, ty254), (255, ty255), (256, ty256), (261, ty261), (262, ty262), (263, ty263), (264, ty264), (269, ty269), (270, ty270)]
def T : TypeId → Option TI := tabFind tyL
theorem tOk : TabOk Tryz.prog T := tabOk_of ⟨ty2_ok, ty3_ok, ty4_ok, ty5_ok, ty9_ok, ty12_ok, ty13_ok, ty20_ok, ty21_ok, ty22_ok, ty23_ok, ty24_ok, ty25_ok, ty26_ok, ty34_ok, ty35_ok, ty36_ok, ty37_ok, ty38_ok, ty39_ok, ty40_ok, ty41_ok, ty42_ok, ty43_ok, ty52_ok, ty69_ok, ty70_ok, ty71_ok, ty72_ok, ty73_ok, ty89_ok, ty90_ok, ty95_ok, ty96_ok, ty104_ok, ty105_ok, ty106_ok, ty113_ok, ty114_ok, ty116_ok, ty117_ok, ty125_ok, ty134_ok, ty135_ok, ty147_ok, ty154_ok, ty155_ok, ty160_ok, ty170_ok, ty177_ok, ty178_ok, ty185_ok, ty195_ok, ty196_ok, ty197_ok, ty205_ok, ty221_ok, ty224_ok, ty229_ok, ty234_ok, ty245_ok, ty248_ok, ty249_ok, ty254_ok, ty255_ok, ty256_ok, ty261_ok, ty262_ok, ty263_ok, ty264_ok, ty269_ok, ty270_ok, trivial⟩
theorem zeroOk_of : ∀ {l : List (Nat × TI)}, (l.all fun p => constOk p.2.zero) = true → ZeroOk (tabFind l)
  | [], _, t, i, h => by cases h
  | (k, j) :: l, h, t, i, hf => by
    simp only [List.all_cons, Bool.and_eq_true] at h
    unfold tabFind at hf
    cases hb : Nat.beq k t <;> rw [hb] at hf
    · exact zeroOk_of h.2 t i hf
    · obtain rfl : j = i := by simpa using hf
      exact h.1
theorem zOk : ZeroOk T := zeroOk_of (by kernel_rfl)
theorem mixed : Tryz.prog.follows .mixedOrders = true := by kernel_rfl
end Go.Proofs.YtlkhdembbogcaaaGreatDoor

/- Library contracts that take a row of texts. -/
set_option linter.unusedVariables false
set_option linter.unusedSimpArgs false
namespace Go.Proofs.YtlkhdembbogcaaaGreatDoor
open Go Go.RowKit
end Go.Proofs.YtlkhdembbogcaaaGreatDoor

/- The library's contracts that this claim needs, at this seat. -/
namespace Go.Proofs
open Go.Shelf
def Tryz.lays160_ren : Go.Shelf.Ren := ⟨fun | 160 => 91 | 232 => 142 | 231 => 141 | 227 => 143 | 234 => 145 | 233 => 144 | 236 => 147 | 235 => 146 | 228 => 192 | 271 => 194 | 151 => 193 | 197 => 189 | 120 => 228 | 152 => 227 | 260 => 223 | 137 => 148 | 119 => 244 | 224 => 225 | 225 => 224 | 217 => 195 | 266 => 229 | n => n, fun | 9 => 9 | 4 => 4 | 3 => 3 | 5 => 5 | 117 => 179 | 116 => 178 | 0 => 0 | 124 => 182 | 21 => 21 | 105 => 218 | 46 => 90 | 119 => 261 | 139 => 264 | 138 => 263 | n => n, fun | 3 => 4 | 4 => 5 | n => n⟩
theorem Tryz.lays160 : Go.Proofs.Lays.n160 Tryz.prog Tryz.lays160_ren := {
  mixed := by kernel_rfl
  f119 := Tryz.func244.trans (congrArg some (by kernel_rfl))
  f120 := Tryz.func228.trans (congrArg some (by kernel_rfl))
  f137 := Tryz.func148.trans (congrArg some (by kernel_rfl))
  f151 := Tryz.func193.trans (congrArg some (by kernel_rfl))
  f152 := Tryz.func227.trans (congrArg some (by kernel_rfl))
  f160 := Tryz.func91.trans (congrArg some (by kernel_rfl))
  f197 := Tryz.func189.trans (congrArg some (by kernel_rfl))
  f217 := Tryz.func195.trans (congrArg some (by kernel_rfl))
  f224 := Tryz.func225.trans (congrArg some (by kernel_rfl))
  f225 := Tryz.func224.trans (congrArg some (by kernel_rfl))
  f227 := Tryz.func143.trans (congrArg some (by kernel_rfl))
  f228 := Tryz.func192.trans (congrArg some (by kernel_rfl))
  f231 := Tryz.func141.trans (congrArg some (by kernel_rfl))
  f232 := Tryz.func142.trans (congrArg some (by kernel_rfl))
  f233 := Tryz.func144.trans (congrArg some (by kernel_rfl))
  f234 := Tryz.func145.trans (congrArg some (by kernel_rfl))
  f235 := Tryz.func146.trans (congrArg some (by kernel_rfl))
  f236 := Tryz.func147.trans (congrArg some (by kernel_rfl))
  f260 := Tryz.func223.trans (congrArg some (by kernel_rfl))
  f266 := Tryz.func229.trans (congrArg some (by kernel_rfl))
  f271 := Tryz.func194.trans (congrArg some (by kernel_rfl))
  t0 := Tryz.underlying0
  a0 := Tryz.isAgg0
  z0 := Tryz.sizeOf0
  v0 := Tryz.zeroValue0
  t3 := Tryz.underlying3
  a3 := Tryz.isAgg3
  z3 := Tryz.sizeOf3
  v3 := Tryz.zeroValue3
  t4 := Tryz.underlying4
  a4 := Tryz.isAgg4
  z4 := Tryz.sizeOf4
  v4 := Tryz.zeroValue4
  t5 := Tryz.underlying5
  a5 := Tryz.isAgg5
  z5 := Tryz.sizeOf5
  v5 := Tryz.zeroValue5
  t9 := Tryz.underlying9
  a9 := Tryz.isAgg9
  z9 := Tryz.sizeOf9
  v9 := Tryz.zeroValue9
  t21 := Tryz.underlying21
  a21 := Tryz.isAgg21
  z21 := Tryz.sizeOf21
  v21 := Tryz.zeroValue21
  t46 := Tryz.underlying90
  a46 := Tryz.isAgg90
  z46 := Tryz.sizeOf90
  v46 := Tryz.zeroValue90
  t105 := Tryz.underlying218
  a105 := Tryz.isAgg218
  z105 := Tryz.sizeOf218
  v105 := Tryz.zeroValue218
  t116 := Tryz.underlying178
  a116 := Tryz.isAgg178
  z116 := Tryz.sizeOf178
  t117 := Tryz.underlying179
  a117 := Tryz.isAgg179
  z117 := Tryz.sizeOf179
  v117 := Tryz.zeroValue179
  t119 := Tryz.underlying261
  a119 := Tryz.isAgg261
  z119 := Tryz.sizeOf261
  t124 := Tryz.underlying182
  a124 := Tryz.isAgg182
  z124 := Tryz.sizeOf182
  v124 := Tryz.zeroValue182
  t138 := Tryz.underlying263
  a138 := Tryz.isAgg263
  z138 := Tryz.sizeOf263
  v138 := Tryz.zeroValue263
  t139 := Tryz.underlying264
  a139 := Tryz.isAgg264
  z139 := Tryz.sizeOf264
  v139 := Tryz.zeroValue264
  g3 := by kernel_rfl
  g4 := by kernel_rfl }
def Tryz.lays106_ren : Go.Shelf.Ren := ⟨fun | 106 => 14 | 213 => 43 | 265 => 88 | n => n, fun | 9 => 9 | 3 => 3 | n => n, fun | n => n⟩
theorem Tryz.lays106 : Go.Proofs.Lays.n106 Tryz.prog Tryz.lays106_ren := {
  mixed := by kernel_rfl
  f106 := Tryz.func14.trans (congrArg some (by kernel_rfl))
  f213 := Tryz.func43.trans (congrArg some (by kernel_rfl))
  f265 := Tryz.func88.trans (congrArg some (by kernel_rfl))
  t3 := Tryz.underlying3
  a3 := Tryz.isAgg3
  z3 := Tryz.sizeOf3
  v3 := Tryz.zeroValue3
  t9 := Tryz.underlying9
  a9 := Tryz.isAgg9
  z9 := Tryz.sizeOf9
  v9 := Tryz.zeroValue9 }
open Go.RowKit in
theorem Tryz.strings_Compare (a b : ByteArray) (w : World) :
    Calls Tryz.prog 14 #[.string a, .string b] w fun e w' => e = .returned (.int .i64 (Lib.compareBytes a.data.toList b.data.toList)) ∧ w' = w := Any.strings_Compare Tryz.lays106 a b w
def Tryz.lays137_ren : Go.Shelf.Ren := ⟨fun | 137 => 148 | 217 => 195 | 266 => 229 | n => n, fun | 9 => 9 | 5 => 5 | 3 => 3 | n => n, fun | n => n⟩
theorem Tryz.lays137 : Go.Proofs.Lays.n137 Tryz.prog Tryz.lays137_ren := {
  mixed := by kernel_rfl
  f137 := Tryz.func148.trans (congrArg some (by kernel_rfl))
  f217 := Tryz.func195.trans (congrArg some (by kernel_rfl))
  f266 := Tryz.func229.trans (congrArg some (by kernel_rfl))
  t3 := Tryz.underlying3
  a3 := Tryz.isAgg3
  z3 := Tryz.sizeOf3
  v3 := Tryz.zeroValue3
  t5 := Tryz.underlying5
  a5 := Tryz.isAgg5
  z5 := Tryz.sizeOf5
  v5 := Tryz.zeroValue5
  t9 := Tryz.underlying9
  a9 := Tryz.isAgg9
  z9 := Tryz.sizeOf9
  v9 := Tryz.zeroValue9 }
open Go.RowKit in
theorem Tryz.strings_IndexByte (s : ByteArray) (c : Int) (w : World) :
    Calls Tryz.prog 148 #[.string s, .int .u8 c] w fun e w' => e = .returned (.int .i64 (Lib.indexByte s.data.toList c.toNat.toUInt8)) ∧ w' = w := Any.strings_IndexByte Tryz.lays137 s c w
def Tryz.lays103_ren : Go.Shelf.Ren := ⟨fun | 103 => 183 | 210 => 219 | 206 => 204 | n => n, fun | 9 => 9 | 4 => 4 | 24 => 164 | 3 => 3 | n => n, fun | n => n⟩
theorem Tryz.lays103 : Go.Proofs.Lays.n103 Tryz.prog Tryz.lays103_ren := {
  mixed := by kernel_rfl
  f103 := Tryz.func183.trans (congrArg some (by kernel_rfl))
  f206 := Tryz.func204.trans (congrArg some (by kernel_rfl))
  f210 := Tryz.func219.trans (congrArg some (by kernel_rfl))
  t3 := Tryz.underlying3
  a3 := Tryz.isAgg3
  z3 := Tryz.sizeOf3
  v3 := Tryz.zeroValue3
  t4 := Tryz.underlying4
  a4 := Tryz.isAgg4
  z4 := Tryz.sizeOf4
  v4 := Tryz.zeroValue4
  t9 := Tryz.underlying9
  a9 := Tryz.isAgg9
  z9 := Tryz.sizeOf9
  v9 := Tryz.zeroValue9
  t24 := Tryz.underlying164
  a24 := Tryz.isAgg164
  z24 := Tryz.sizeOf164
  v24 := Tryz.zeroValue164 }
open Go.RowKit in
theorem Tryz.strings_CutPrefix (s p : ByteArray) (w : World) :
    Calls Tryz.prog 183 #[.string s, .string p] w fun e w' => e = .returned (.tuple #[.string ⟨(Lib.trimPrefix s.data.toList p.data.toList).toArray⟩, .bool (Lib.hasPrefix s.data.toList p.data.toList)]) ∧ w' = w := Any.strings_CutPrefix Tryz.lays103 s p w
def Tryz.lays122_ren : Go.Shelf.Ren := ⟨fun | 122 => 45 | 215 => 89 | n => n, fun | 3 => 3 | 4 => 4 | n => n, fun | n => n⟩
theorem Tryz.lays122 : Go.Proofs.Lays.n122 Tryz.prog Tryz.lays122_ren := {
  mixed := by kernel_rfl
  f122 := Tryz.func45.trans (congrArg some (by kernel_rfl))
  f215 := Tryz.func89.trans (congrArg some (by kernel_rfl))
  t3 := Tryz.underlying3
  a3 := Tryz.isAgg3
  z3 := Tryz.sizeOf3
  v3 := Tryz.zeroValue3
  t4 := Tryz.underlying4
  a4 := Tryz.isAgg4
  z4 := Tryz.sizeOf4
  v4 := Tryz.zeroValue4 }
open Go.RowKit in
theorem Tryz.cmp_Compare_int (x y : Int) (w : World) :
    Calls Tryz.prog 45 #[.int .i64 x, .int .i64 y] w fun e w' => e = .returned (.int .i64 (Lib.compareInt x y)) ∧ w' = w := Any.cmp_Compare_int Tryz.lays122 x y w
def Tryz.laysM171_ren : Go.Shelf.Ren := ⟨fun | 171 => 111 | 243 => 167 | 246 => 207 | 283 => 198 | 284 => 199 | 285 => 200 | 286 => 201 | 129 => 231 | 317 => 230 | 318 => 232 | 319 => 233 | 320 => 234 | 337 => 245 | 338 => 246 | n => n, fun | 3 => 3 | 9 => 9 | 2 => 2 | 4 => 4 | 171 => 224 | 0 => 0 | 53 => 106 | 37 => 185 | 5 => 5 | 173 => 227 | 212 => 248 | 51 => 229 | 20 => 20 | 213 => 249 | 46 => 90 | 232 => 269 | 233 => 270 | n => n, fun | 17 => 3 | 18 => 6 | 19 => 7 | n => n⟩
theorem Tryz.laysM171 : Go.Proofs.LaysM.n171 Tryz.prog Tryz.laysM171_ren := {
  mixed := by kernel_rfl
  f129 := Tryz.func231.trans (congrArg some (by kernel_rfl))
  f171 := Tryz.func111.trans (congrArg some (by kernel_rfl))
  f243 := Tryz.func167.trans (congrArg some (by kernel_rfl))
  f246 := Tryz.func207.trans (congrArg some (by kernel_rfl))
  f283 := Tryz.func198.trans (congrArg some (by kernel_rfl))
  f284 := Tryz.func199.trans (congrArg some (by kernel_rfl))
  f285 := Tryz.func200.trans (congrArg some (by kernel_rfl))
  f286 := Tryz.func201.trans (congrArg some (by kernel_rfl))
  f317 := Tryz.func230.trans (congrArg some (by kernel_rfl))
  f318 := Tryz.func232.trans (congrArg some (by kernel_rfl))
  f319 := Tryz.func233.trans (congrArg some (by kernel_rfl))
  f320 := Tryz.func234.trans (congrArg some (by kernel_rfl))
  f337 := Tryz.func245.trans (congrArg some (by kernel_rfl))
  f338 := Tryz.func246.trans (congrArg some (by kernel_rfl))
  t0 := Tryz.underlying0
  a0 := Tryz.isAgg0
  z0 := Tryz.sizeOf0
  v0 := Tryz.zeroValue0
  t2 := Tryz.underlying2
  a2 := Tryz.isAgg2
  z2 := Tryz.sizeOf2
  v2 := Tryz.zeroValue2
  t3 := Tryz.underlying3
  a3 := Tryz.isAgg3
  z3 := Tryz.sizeOf3
  v3 := Tryz.zeroValue3
  t4 := Tryz.underlying4
  a4 := Tryz.isAgg4
  z4 := Tryz.sizeOf4
  v4 := Tryz.zeroValue4
  t5 := Tryz.underlying5
  a5 := Tryz.isAgg5
  z5 := Tryz.sizeOf5
  v5 := Tryz.zeroValue5
  t9 := Tryz.underlying9
  a9 := Tryz.isAgg9
  z9 := Tryz.sizeOf9
  v9 := Tryz.zeroValue9
  t20 := Tryz.underlying20
  a20 := Tryz.isAgg20
  z20 := Tryz.sizeOf20
  v20 := Tryz.zeroValue20
  t37 := Tryz.underlying185
  a37 := Tryz.isAgg185
  z37 := Tryz.sizeOf185
  v37 := Tryz.zeroValue185
  t46 := Tryz.underlying90
  a46 := Tryz.isAgg90
  z46 := Tryz.sizeOf90
  v46 := Tryz.zeroValue90
  t51 := Tryz.underlying229
  a51 := Tryz.isAgg229
  z51 := Tryz.sizeOf229
  v51 := Tryz.zeroValue229
  t53 := Tryz.underlying106
  a53 := Tryz.isAgg106
  z53 := Tryz.sizeOf106
  v53 := Tryz.zeroValue106
  t171 := Tryz.underlying224
  a171 := Tryz.isAgg224
  z171 := Tryz.sizeOf224
  v171 := Tryz.zeroValue224
  t173 := Tryz.underlying227
  a173 := Tryz.isAgg227
  z173 := Tryz.sizeOf227
  v173 := Tryz.zeroValue227
  t212 := Tryz.underlying248
  a212 := Tryz.isAgg248
  z212 := Tryz.sizeOf248
  v212 := Tryz.zeroValue248
  t213 := Tryz.underlying249
  a213 := Tryz.isAgg249
  z213 := Tryz.sizeOf249
  t232 := Tryz.underlying269
  a232 := Tryz.isAgg269
  z232 := Tryz.sizeOf269
  v232 := Tryz.zeroValue269
  t233 := Tryz.underlying270
  a233 := Tryz.isAgg270
  z233 := Tryz.sizeOf270
  v233 := Tryz.zeroValue270
  g17 := by kernel_rfl
  g18 := by kernel_rfl
  g19 := by kernel_rfl
  i0 := by kernel_rfl
  i2 := by kernel_rfl
  i3 := by kernel_rfl
  i4 := by kernel_rfl
  i5 := by kernel_rfl
  i9 := by kernel_rfl
  i20 := by kernel_rfl
  i37 := by kernel_rfl
  i46 := by kernel_rfl
  i51 := by kernel_rfl
  i53 := by kernel_rfl
  i171 := by kernel_rfl
  i173 := by kernel_rfl
  i212 := by kernel_rfl
  i232 := by kernel_rfl
  i233 := by kernel_rfl
  m17 := by kernel_rfl
  m18 := by kernel_rfl
  m19 := by kernel_rfl }
open Go.RowKit Go.Sort Go.Lib in
theorem Tryz.strconv_Itoa (n : Int) (h0 : -9223372036854775808 ≤ n) (h1 : n ≤ 9223372036854775807) (w : World) (htab : Lib.TabIs Tryz.prog w "internal/strconv.uint64pow10" .u64 Lib.pow10Tab) :
    Calls Tryz.prog 111 #[.int .i64 n] w fun e w' => e = .returned (.string ⟨(Lib.itoa n).toArray⟩) ∧ ∃ k os, w' = grow (w.drewN k) os := Any.strconv_Itoa Tryz.laysM171 n h0 h1 w htab
def Tryz.laysC172_ren : Go.Shelf.Ren := ⟨fun | 172 => 48 | 244 => 93 | 245 => 94 | 247 => 149 | 279 => 150 | 280 => 151 | 281 => 152 | 282 => 153 | 287 => 108 | 316 => 196 | 171 => 111 | 205 => 197 | 321 => 158 | 322 => 159 | 243 => 167 | 246 => 207 | 283 => 198 | 284 => 199 | 285 => 200 | 286 => 201 | 129 => 231 | 317 => 230 | 318 => 232 | 319 => 233 | 320 => 234 | 337 => 245 | 338 => 246 | n => n, fun | 9 => 9 | 3 => 3 | 75 => 96 | 76 => 97 | 4 => 4 | 5 => 5 | 167 => 184 | 37 => 185 | 0 => 0 | 85 => 186 | 2 => 2 | 168 => 188 | 53 => 106 | 175 => 107 | 46 => 90 | 210 => 222 | 127 => 234 | 145 => 246 | 143 => 244 | 21 => 21 | 171 => 224 | 173 => 227 | 212 => 248 | 51 => 229 | 20 => 20 | 213 => 249 | 232 => 269 | 233 => 270 | 80 => 200 | n => n, fun | 15 => 1 | 16 => 2 | 17 => 3 | 18 => 6 | 19 => 7 | n => n⟩
theorem Tryz.laysC172 : Go.Proofs.LaysC.n172 Tryz.prog Tryz.laysC172_ren := {
  mixed := by kernel_rfl
  f129 := Tryz.func231.trans (congrArg some (by kernel_rfl))
  f171 := Tryz.func111.trans (congrArg some (by kernel_rfl))
  f172 := Tryz.func48.trans (congrArg some (by kernel_rfl))
  f205 := Tryz.func197.trans (congrArg some (by kernel_rfl))
  f243 := Tryz.func167.trans (congrArg some (by kernel_rfl))
  f244 := Tryz.func93.trans (congrArg some (by kernel_rfl))
  f245 := Tryz.func94.trans (congrArg some (by kernel_rfl))
  f246 := Tryz.func207.trans (congrArg some (by kernel_rfl))
  f247 := Tryz.func149.trans (congrArg some (by kernel_rfl))
  f279 := Tryz.func150.trans (congrArg some (by kernel_rfl))
  f280 := Tryz.func151.trans (congrArg some (by kernel_rfl))
  f281 := Tryz.func152.trans (congrArg some (by kernel_rfl))
  f282 := Tryz.func153.trans (congrArg some (by kernel_rfl))
  f283 := Tryz.func198.trans (congrArg some (by kernel_rfl))
  f284 := Tryz.func199.trans (congrArg some (by kernel_rfl))
  f285 := Tryz.func200.trans (congrArg some (by kernel_rfl))
  f286 := Tryz.func201.trans (congrArg some (by kernel_rfl))
  f287 := Tryz.func108.trans (congrArg some (by kernel_rfl))
  f316 := Tryz.func196.trans (congrArg some (by kernel_rfl))
  f317 := Tryz.func230.trans (congrArg some (by kernel_rfl))
  f318 := Tryz.func232.trans (congrArg some (by kernel_rfl))
  f319 := Tryz.func233.trans (congrArg some (by kernel_rfl))
  f320 := Tryz.func234.trans (congrArg some (by kernel_rfl))
  f321 := Tryz.func158.trans (congrArg some (by kernel_rfl))
  f322 := Tryz.func159.trans (congrArg some (by kernel_rfl))
  f337 := Tryz.func245.trans (congrArg some (by kernel_rfl))
  f338 := Tryz.func246.trans (congrArg some (by kernel_rfl))
  t0 := Tryz.underlying0
  a0 := Tryz.isAgg0
  z0 := Tryz.sizeOf0
  v0 := Tryz.zeroValue0
  t2 := Tryz.underlying2
  a2 := Tryz.isAgg2
  z2 := Tryz.sizeOf2
  v2 := Tryz.zeroValue2
  t3 := Tryz.underlying3
  a3 := Tryz.isAgg3
  z3 := Tryz.sizeOf3
  v3 := Tryz.zeroValue3
  t4 := Tryz.underlying4
  a4 := Tryz.isAgg4
  z4 := Tryz.sizeOf4
  v4 := Tryz.zeroValue4
  t5 := Tryz.underlying5
  a5 := Tryz.isAgg5
  z5 := Tryz.sizeOf5
  v5 := Tryz.zeroValue5
  t9 := Tryz.underlying9
  a9 := Tryz.isAgg9
  z9 := Tryz.sizeOf9
  v9 := Tryz.zeroValue9
  t20 := Tryz.underlying20
  a20 := Tryz.isAgg20
  z20 := Tryz.sizeOf20
  v20 := Tryz.zeroValue20
  t21 := Tryz.underlying21
  a21 := Tryz.isAgg21
  z21 := Tryz.sizeOf21
  v21 := Tryz.zeroValue21
  t37 := Tryz.underlying185
  a37 := Tryz.isAgg185
  z37 := Tryz.sizeOf185
  v37 := Tryz.zeroValue185
  t46 := Tryz.underlying90
  a46 := Tryz.isAgg90
  z46 := Tryz.sizeOf90
  v46 := Tryz.zeroValue90
  t51 := Tryz.underlying229
  a51 := Tryz.isAgg229
  z51 := Tryz.sizeOf229
  v51 := Tryz.zeroValue229
  t53 := Tryz.underlying106
  a53 := Tryz.isAgg106
  z53 := Tryz.sizeOf106
  v53 := Tryz.zeroValue106
  t75 := Tryz.underlying96
  a75 := Tryz.isAgg96
  z75 := Tryz.sizeOf96
  v75 := Tryz.zeroValue96
  t76 := Tryz.underlying97
  a76 := Tryz.isAgg97
  z76 := Tryz.sizeOf97
  v76 := Tryz.zeroValue97
  t85 := Tryz.underlying186
  a85 := Tryz.isAgg186
  z85 := Tryz.sizeOf186
  v85 := Tryz.zeroValue186
  t127 := Tryz.underlying234
  a127 := Tryz.isAgg234
  z127 := Tryz.sizeOf234
  v127 := Tryz.zeroValue234
  t143 := Tryz.underlying244
  a143 := Tryz.isAgg244
  z143 := Tryz.sizeOf244
  v143 := Tryz.zeroValue244
  t145 := Tryz.underlying246
  a145 := Tryz.isAgg246
  z145 := Tryz.sizeOf246
  v145 := Tryz.zeroValue246
  t167 := Tryz.underlying184
  a167 := Tryz.isAgg184
  z167 := Tryz.sizeOf184
  v167 := Tryz.zeroValue184
  t168 := Tryz.underlying188
  a168 := Tryz.isAgg188
  z168 := Tryz.sizeOf188
  v168 := Tryz.zeroValue188
  t171 := Tryz.underlying224
  a171 := Tryz.isAgg224
  z171 := Tryz.sizeOf224
  v171 := Tryz.zeroValue224
  t173 := Tryz.underlying227
  a173 := Tryz.isAgg227
  z173 := Tryz.sizeOf227
  v173 := Tryz.zeroValue227
  t175 := Tryz.underlying107
  a175 := Tryz.isAgg107
  z175 := Tryz.sizeOf107
  v175 := Tryz.zeroValue107
  t210 := Tryz.underlying222
  a210 := Tryz.isAgg222
  z210 := Tryz.sizeOf222
  v210 := Tryz.zeroValue222
  t212 := Tryz.underlying248
  a212 := Tryz.isAgg248
  z212 := Tryz.sizeOf248
  v212 := Tryz.zeroValue248
  t213 := Tryz.underlying249
  a213 := Tryz.isAgg249
  z213 := Tryz.sizeOf249
  t232 := Tryz.underlying269
  a232 := Tryz.isAgg269
  z232 := Tryz.sizeOf269
  v232 := Tryz.zeroValue269
  t233 := Tryz.underlying270
  a233 := Tryz.isAgg270
  z233 := Tryz.sizeOf270
  v233 := Tryz.zeroValue270
  g15 := by kernel_rfl
  g16 := by kernel_rfl
  g17 := by kernel_rfl
  g18 := by kernel_rfl
  g19 := by kernel_rfl
  t80 := Tryz.underlying200
  a80 := Tryz.isAgg200
  z80 := Tryz.sizeOf200
  v80 := Tryz.zeroValue200
  i0 := by kernel_rfl
  i2 := by kernel_rfl
  i3 := by kernel_rfl
  i4 := by kernel_rfl
  i5 := by kernel_rfl
  i9 := by kernel_rfl
  i20 := by kernel_rfl
  i21 := by kernel_rfl
  i37 := by kernel_rfl
  i46 := by kernel_rfl
  i51 := by kernel_rfl
  i53 := by kernel_rfl
  i75 := by kernel_rfl
  i76 := by kernel_rfl
  i80 := by kernel_rfl
  i85 := by kernel_rfl
  i127 := by kernel_rfl
  i143 := by kernel_rfl
  i145 := by kernel_rfl
  i167 := by kernel_rfl
  i168 := by kernel_rfl
  i171 := by kernel_rfl
  i173 := by kernel_rfl
  i175 := by kernel_rfl
  i210 := by kernel_rfl
  i212 := by kernel_rfl
  i232 := by kernel_rfl
  i233 := by kernel_rfl
  m15 := by kernel_rfl
  m16 := by kernel_rfl
  m17 := by kernel_rfl
  m18 := by kernel_rfl
  m19 := by kernel_rfl
  c0 := by kernel_rfl
  c2 := by kernel_rfl
  c3 := by kernel_rfl
  c4 := by kernel_rfl
  c5 := by kernel_rfl
  c9 := by kernel_rfl
  c20 := by kernel_rfl
  c21 := by kernel_rfl
  c37 := by kernel_rfl
  c46 := by kernel_rfl
  c51 := by kernel_rfl
  c53 := by kernel_rfl
  c75 := by kernel_rfl
  c76 := by kernel_rfl
  c80 := by kernel_rfl
  c85 := by kernel_rfl
  c127 := by kernel_rfl
  c143 := by kernel_rfl
  c145 := by kernel_rfl
  c167 := by kernel_rfl
  c168 := by kernel_rfl
  c171 := by kernel_rfl
  c173 := by kernel_rfl
  c175 := by kernel_rfl
  c210 := by kernel_rfl
  c212 := by kernel_rfl
  c213 := by kernel_rfl
  c232 := by kernel_rfl
  c233 := by kernel_rfl }
open Go.RowKit in
theorem Tryz.strconv_Atoi_ok (s : ByteArray) (hmax : s.size ≤ 9223372036854775806) (v : Int) (h : Lib.atoiAll s.data.toList = .ok v) (w : World) :
    Calls Tryz.prog 48 #[.string s] w fun e w' => e = .returned (.tuple #[.int .i64 v, .nilIface]) ∧ (w' = w ∨ ∃ t, w' = Lib.bytesWorld w 5 t) := Any.strconv_Atoi_ok Tryz.laysC172 s hmax v h w
open Go.RowKit in
theorem Tryz.strconv_Atoi_syntax_var (s : ByteArray) (hlim : s.size ≤ 281474976710656) (h : Lib.atoiAll s.data.toList = Lib.atoiAll []) (tp : TypeId) (p : Value) (w : World) (hvar : w.var? Tryz.prog "strconv.ErrSyntax" = some #[.iface tp p]) :
    Calls Tryz.prog 48 #[.string s] w fun e w' => ∃ N, e = .returned (.tuple #[.int .i64 0, .iface 188 (.pointer (some ⟨N, 0, none⟩))]) ∧ w.heap.size ≤ N ∧ w'.heap[N]? = some (.cells #[.string ⟨#[65, 116, 111, 105]⟩, .string s, .iface tp p] 222 (0, 0)) ∧ Below w.heap.size w w' := Any.strconv_Atoi_syntax_var Tryz.laysC172 s hlim h tp p w hvar
open Go.RowKit in
theorem Tryz.strconv_Atoi_range_var (s : ByteArray) (hlim : s.size ≤ 281474976710656) (h : Lib.atoiAll s.data.toList = .range) (tp : TypeId) (p : Value) (w : World) (hvar : w.var? Tryz.prog "strconv.ErrRange" = some #[.iface tp p]) :
    Calls Tryz.prog 48 #[.string s] w fun e w' => ∃ N, e = .returned (.tuple #[.int .i64 (Lib.atoiSat s.data.toList), .iface 188 (.pointer (some ⟨N, 0, none⟩))]) ∧ w.heap.size ≤ N ∧ w'.heap[N]? = some (.cells #[.string ⟨#[65, 116, 111, 105]⟩, .string s, .iface tp p] 222 (0, 0)) ∧ Below w.heap.size w w' := Any.strconv_Atoi_range_var Tryz.laysC172 s hlim h tp p w hvar
def Tryz.lays144_ren : Go.Shelf.Ren := ⟨fun | 144 => 249 | 143 => 140 | 219 => 191 | 217 => 195 | 225 => 224 | 224 => 225 | 267 => 226 | 266 => 229 | 314 => 243 | n => n, fun | 9 => 9 | 4 => 4 | 3 => 3 | 5 => 5 | 46 => 90 | 146 => 230 | 51 => 229 | n => n, fun | 1 => 0 | n => n⟩
theorem Tryz.lays144 : Go.Proofs.Lays.n144 Tryz.prog Tryz.lays144_ren := {
  mixed := by kernel_rfl
  f143 := Tryz.func140.trans (congrArg some (by kernel_rfl))
  f144 := Tryz.func249.trans (congrArg some (by kernel_rfl))
  f217 := Tryz.func195.trans (congrArg some (by kernel_rfl))
  f219 := Tryz.func191.trans (congrArg some (by kernel_rfl))
  f224 := Tryz.func225.trans (congrArg some (by kernel_rfl))
  f225 := Tryz.func224.trans (congrArg some (by kernel_rfl))
  f266 := Tryz.func229.trans (congrArg some (by kernel_rfl))
  f267 := Tryz.func226.trans (congrArg some (by kernel_rfl))
  f314 := Tryz.func243.trans (congrArg some (by kernel_rfl))
  t3 := Tryz.underlying3
  a3 := Tryz.isAgg3
  z3 := Tryz.sizeOf3
  v3 := Tryz.zeroValue3
  t4 := Tryz.underlying4
  a4 := Tryz.isAgg4
  z4 := Tryz.sizeOf4
  v4 := Tryz.zeroValue4
  t5 := Tryz.underlying5
  a5 := Tryz.isAgg5
  z5 := Tryz.sizeOf5
  v5 := Tryz.zeroValue5
  t9 := Tryz.underlying9
  a9 := Tryz.isAgg9
  z9 := Tryz.sizeOf9
  v9 := Tryz.zeroValue9
  t46 := Tryz.underlying90
  a46 := Tryz.isAgg90
  z46 := Tryz.sizeOf90
  v46 := Tryz.zeroValue90
  t51 := Tryz.underlying229
  a51 := Tryz.isAgg229
  z51 := Tryz.sizeOf229
  v51 := Tryz.zeroValue229
  t146 := Tryz.underlying230
  a146 := Tryz.isAgg230
  z146 := Tryz.sizeOf230
  v146 := Tryz.zeroValue230
  g1 := by kernel_rfl }
open Go.RowKit Go.Lib in
theorem Tryz.strings_Contains (s sub : ByteArray) (m : Int) (w : World) (hs : s.size < 4294967281) (hm : w.cell? ⟨0, 0, none⟩ = some (.int .i64 m)) :
    Calls Tryz.prog 249 #[.string s, .string sub] w fun e w' => e = .returned (.bool (Lib.contains s.data.toList sub.data.toList)) ∧ w' = w := Any.strings_Contains Tryz.lays144 s sub m w hs hm
def Tryz.lays145_ren : Go.Shelf.Ren := ⟨fun | 145 => 181 | 220 => 218 | 219 => 191 | 217 => 195 | 225 => 224 | 224 => 225 | 267 => 226 | 266 => 229 | 314 => 243 | n => n, fun | 9 => 9 | 4 => 4 | 59 => 210 | 3 => 3 | 5 => 5 | 46 => 90 | 146 => 230 | 51 => 229 | n => n, fun | 1 => 0 | n => n⟩
theorem Tryz.lays145 : Go.Proofs.Lays.n145 Tryz.prog Tryz.lays145_ren := {
  mixed := by kernel_rfl
  f145 := Tryz.func181.trans (congrArg some (by kernel_rfl))
  f217 := Tryz.func195.trans (congrArg some (by kernel_rfl))
  f219 := Tryz.func191.trans (congrArg some (by kernel_rfl))
  f220 := Tryz.func218.trans (congrArg some (by kernel_rfl))
  f224 := Tryz.func225.trans (congrArg some (by kernel_rfl))
  f225 := Tryz.func224.trans (congrArg some (by kernel_rfl))
  f266 := Tryz.func229.trans (congrArg some (by kernel_rfl))
  f267 := Tryz.func226.trans (congrArg some (by kernel_rfl))
  f314 := Tryz.func243.trans (congrArg some (by kernel_rfl))
  t3 := Tryz.underlying3
  a3 := Tryz.isAgg3
  z3 := Tryz.sizeOf3
  v3 := Tryz.zeroValue3
  t4 := Tryz.underlying4
  a4 := Tryz.isAgg4
  z4 := Tryz.sizeOf4
  v4 := Tryz.zeroValue4
  t5 := Tryz.underlying5
  a5 := Tryz.isAgg5
  z5 := Tryz.sizeOf5
  v5 := Tryz.zeroValue5
  t9 := Tryz.underlying9
  a9 := Tryz.isAgg9
  z9 := Tryz.sizeOf9
  v9 := Tryz.zeroValue9
  t46 := Tryz.underlying90
  a46 := Tryz.isAgg90
  z46 := Tryz.sizeOf90
  v46 := Tryz.zeroValue90
  t51 := Tryz.underlying229
  a51 := Tryz.isAgg229
  z51 := Tryz.sizeOf229
  v51 := Tryz.zeroValue229
  t59 := Tryz.underlying210
  a59 := Tryz.isAgg210
  z59 := Tryz.sizeOf210
  v59 := Tryz.zeroValue210
  t146 := Tryz.underlying230
  a146 := Tryz.isAgg230
  z146 := Tryz.sizeOf230
  v146 := Tryz.zeroValue230
  g1 := by kernel_rfl }
open Go.RowKit Go.Lib in
theorem Tryz.strings_Cut (s sep : ByteArray) (m : Int) (w : World) (hs : s.size < 4294967281) (hm : w.cell? ⟨0, 0, none⟩ = some (.int .i64 m)) :
    Calls Tryz.prog 181 #[.string s, .string sep] w fun e w' => e = .returned (.tuple #[.string ⟨(Lib.cut s.data.toList sep.data.toList).1.toArray⟩, .string ⟨(Lib.cut s.data.toList sep.data.toList).2.1.toArray⟩, .bool (Lib.cut s.data.toList sep.data.toList).2.2]) ∧ ∃ n, w' = w.drewN n := Any.strings_Cut Tryz.lays145 s sep m w hs hm
def Tryz.lays146_ren : Go.Shelf.Ren := ⟨fun | 146 => 46 | 221 => 90 | 268 => 138 | 138 => 139 | 143 => 140 | 195 => 188 | 197 => 189 | 218 => 190 | 219 => 191 | 260 => 223 | 217 => 195 | 225 => 224 | 224 => 225 | 267 => 226 | 266 => 229 | 314 => 243 | n => n, fun | 9 => 9 | 31 => 52 | 3 => 3 | 4 => 4 | 0 => 0 | 105 => 218 | 21 => 21 | 5 => 5 | 46 => 90 | 119 => 261 | 139 => 264 | 138 => 263 | 146 => 230 | 51 => 229 | n => n, fun | 1 => 0 | 3 => 4 | 4 => 5 | n => n⟩
theorem Tryz.lays146 : Go.Proofs.Lays.n146 Tryz.prog Tryz.lays146_ren := {
  mixed := by kernel_rfl
  f138 := Tryz.func139.trans (congrArg some (by kernel_rfl))
  f143 := Tryz.func140.trans (congrArg some (by kernel_rfl))
  f146 := Tryz.func46.trans (congrArg some (by kernel_rfl))
  f195 := Tryz.func188.trans (congrArg some (by kernel_rfl))
  f197 := Tryz.func189.trans (congrArg some (by kernel_rfl))
  f217 := Tryz.func195.trans (congrArg some (by kernel_rfl))
  f218 := Tryz.func190.trans (congrArg some (by kernel_rfl))
  f219 := Tryz.func191.trans (congrArg some (by kernel_rfl))
  f221 := Tryz.func90.trans (congrArg some (by kernel_rfl))
  f224 := Tryz.func225.trans (congrArg some (by kernel_rfl))
  f225 := Tryz.func224.trans (congrArg some (by kernel_rfl))
  f260 := Tryz.func223.trans (congrArg some (by kernel_rfl))
  f266 := Tryz.func229.trans (congrArg some (by kernel_rfl))
  f267 := Tryz.func226.trans (congrArg some (by kernel_rfl))
  f268 := Tryz.func138.trans (congrArg some (by kernel_rfl))
  f314 := Tryz.func243.trans (congrArg some (by kernel_rfl))
  t0 := Tryz.underlying0
  a0 := Tryz.isAgg0
  z0 := Tryz.sizeOf0
  v0 := Tryz.zeroValue0
  t3 := Tryz.underlying3
  a3 := Tryz.isAgg3
  z3 := Tryz.sizeOf3
  v3 := Tryz.zeroValue3
  t4 := Tryz.underlying4
  a4 := Tryz.isAgg4
  z4 := Tryz.sizeOf4
  v4 := Tryz.zeroValue4
  t5 := Tryz.underlying5
  a5 := Tryz.isAgg5
  z5 := Tryz.sizeOf5
  v5 := Tryz.zeroValue5
  t9 := Tryz.underlying9
  a9 := Tryz.isAgg9
  z9 := Tryz.sizeOf9
  v9 := Tryz.zeroValue9
  t21 := Tryz.underlying21
  a21 := Tryz.isAgg21
  z21 := Tryz.sizeOf21
  v21 := Tryz.zeroValue21
  t31 := Tryz.underlying52
  a31 := Tryz.isAgg52
  z31 := Tryz.sizeOf52
  v31 := Tryz.zeroValue52
  t46 := Tryz.underlying90
  a46 := Tryz.isAgg90
  z46 := Tryz.sizeOf90
  v46 := Tryz.zeroValue90
  t51 := Tryz.underlying229
  a51 := Tryz.isAgg229
  z51 := Tryz.sizeOf229
  v51 := Tryz.zeroValue229
  t105 := Tryz.underlying218
  a105 := Tryz.isAgg218
  z105 := Tryz.sizeOf218
  v105 := Tryz.zeroValue218
  t119 := Tryz.underlying261
  a119 := Tryz.isAgg261
  z119 := Tryz.sizeOf261
  t138 := Tryz.underlying263
  a138 := Tryz.isAgg263
  z138 := Tryz.sizeOf263
  v138 := Tryz.zeroValue263
  t139 := Tryz.underlying264
  a139 := Tryz.isAgg264
  z139 := Tryz.sizeOf264
  v139 := Tryz.zeroValue264
  t146 := Tryz.underlying230
  a146 := Tryz.isAgg230
  z146 := Tryz.sizeOf230
  v146 := Tryz.zeroValue230
  g1 := by kernel_rfl
  g3 := by kernel_rfl
  g4 := by kernel_rfl }
open Go.RowKit Go.Lib in
theorem Tryz.strings_Split (s sep : ByteArray) (m : Int) (w : World) (hs : s.size < 4294967281) (hm : w.cell? ⟨0, 0, none⟩ = some (.int .i64 m)) (h1 : 1 ≤ sep.size) :
    Calls Tryz.prog 46 #[.string s, .string sep] w fun e w' =>
      e = .returned (.slice (some ⟨w.heap.size, 0, none⟩) (Lib.countB s sep + 1) (Lib.countB s sep + 1)) ∧ w' = w.alloc (.cells ((Lib.splitB sep 0 (Lib.countB s sep) s).map Value.string).toArray 9) := Any.strings_Split Tryz.lays146 (by kernel_rfl) s sep m w hs hm h1
def Tryz.lays105_ren : Go.Shelf.Ren := ⟨fun | 105 => 110 | 212 => 161 | 99 => 162 | 165 => 163 | 166 => 164 | 170 => 165 | 169 => 166 | 263 => 202 | 264 => 203 | 206 => 204 | 240 => 205 | 241 => 206 | 276 => 235 | 277 => 236 | n => n, fun | 9 => 9 | 3 => 3 | 4 => 4 | 20 => 20 | 0 => 0 | 46 => 90 | 109 => 193 | 5 => 5 | 72 => 197 | 76 => 97 | 51 => 229 | 146 => 230 | 53 => 106 | 148 => 232 | 70 => 195 | 37 => 185 | 75 => 96 | 127 => 234 | 164 => 251 | 80 => 200 | n => n, fun | n => n⟩
theorem Tryz.lays105 : Go.Proofs.Lays.n105 Tryz.prog Tryz.lays105_ren := {
  mixed := by kernel_rfl
  f99 := Tryz.func162.trans (congrArg some (by kernel_rfl))
  f105 := Tryz.func110.trans (congrArg some (by kernel_rfl))
  f165 := Tryz.func163.trans (congrArg some (by kernel_rfl))
  f166 := Tryz.func164.trans (congrArg some (by kernel_rfl))
  f169 := Tryz.func166.trans (congrArg some (by kernel_rfl))
  f170 := Tryz.func165.trans (congrArg some (by kernel_rfl))
  f206 := Tryz.func204.trans (congrArg some (by kernel_rfl))
  f212 := Tryz.func161.trans (congrArg some (by kernel_rfl))
  f240 := Tryz.func205.trans (congrArg some (by kernel_rfl))
  f241 := Tryz.func206.trans (congrArg some (by kernel_rfl))
  f263 := Tryz.func202.trans (congrArg some (by kernel_rfl))
  f264 := Tryz.func203.trans (congrArg some (by kernel_rfl))
  f276 := Tryz.func235.trans (congrArg some (by kernel_rfl))
  f277 := Tryz.func236.trans (congrArg some (by kernel_rfl))
  t0 := Tryz.underlying0
  a0 := Tryz.isAgg0
  z0 := Tryz.sizeOf0
  v0 := Tryz.zeroValue0
  t3 := Tryz.underlying3
  a3 := Tryz.isAgg3
  z3 := Tryz.sizeOf3
  v3 := Tryz.zeroValue3
  t4 := Tryz.underlying4
  a4 := Tryz.isAgg4
  z4 := Tryz.sizeOf4
  v4 := Tryz.zeroValue4
  t5 := Tryz.underlying5
  a5 := Tryz.isAgg5
  z5 := Tryz.sizeOf5
  v5 := Tryz.zeroValue5
  t9 := Tryz.underlying9
  a9 := Tryz.isAgg9
  z9 := Tryz.sizeOf9
  v9 := Tryz.zeroValue9
  t20 := Tryz.underlying20
  a20 := Tryz.isAgg20
  z20 := Tryz.sizeOf20
  v20 := Tryz.zeroValue20
  t37 := Tryz.underlying185
  a37 := Tryz.isAgg185
  z37 := Tryz.sizeOf185
  v37 := Tryz.zeroValue185
  t46 := Tryz.underlying90
  a46 := Tryz.isAgg90
  z46 := Tryz.sizeOf90
  v46 := Tryz.zeroValue90
  t51 := Tryz.underlying229
  a51 := Tryz.isAgg229
  z51 := Tryz.sizeOf229
  v51 := Tryz.zeroValue229
  t53 := Tryz.underlying106
  a53 := Tryz.isAgg106
  z53 := Tryz.sizeOf106
  v53 := Tryz.zeroValue106
  t70 := Tryz.underlying195
  a70 := Tryz.isAgg195
  z70 := Tryz.sizeOf195
  v70 := Tryz.zeroValue195
  t72 := Tryz.underlying197
  a72 := Tryz.isAgg197
  z72 := Tryz.sizeOf197
  v72 := Tryz.zeroValue197
  t75 := Tryz.underlying96
  a75 := Tryz.isAgg96
  z75 := Tryz.sizeOf96
  v75 := Tryz.zeroValue96
  t76 := Tryz.underlying97
  a76 := Tryz.isAgg97
  z76 := Tryz.sizeOf97
  v76 := Tryz.zeroValue97
  t109 := Tryz.underlying193
  a109 := Tryz.isAgg193
  z109 := Tryz.sizeOf193
  v109 := Tryz.zeroValue193
  t127 := Tryz.underlying234
  a127 := Tryz.isAgg234
  z127 := Tryz.sizeOf234
  v127 := Tryz.zeroValue234
  t146 := Tryz.underlying230
  a146 := Tryz.isAgg230
  z146 := Tryz.sizeOf230
  v146 := Tryz.zeroValue230
  t148 := Tryz.underlying232
  a148 := Tryz.isAgg232
  z148 := Tryz.sizeOf232
  v148 := Tryz.zeroValue232
  t164 := Tryz.underlying251
  a164 := Tryz.isAgg251
  z164 := Tryz.sizeOf251
  v164 := Tryz.zeroValue251 }
theorem Tryz.Builder_Extra_105 : Builder.Extra Tryz.prog Tryz.lays105_ren := {
  sizeBuilder := by kernel_rfl
  liesBuilder := by kernel_rfl
  t5 := Tryz.underlying5
  a5 := Tryz.isAgg5
  z5 := Tryz.sizeOf5
  v5 := Tryz.zeroValue5
  infoByte := by kernel_rfl
  cellsByte := by kernel_rfl
  sizeByte := by kernel_rfl
  neB5 := by decide }
open Go.RowKit Go.Lib in
theorem Tryz.strings_Repeat (s : ByteArray) (c : Nat) (w : World) (hc : c ≤ 9223372036854775807) (hlen : s.size * c ≤ 140737488355328) :
    Calls Tryz.prog 110 #[.string s, .int .i64 c] w fun e w' => e = .returned (.string ⟨(Lib.repeatL s.data.toList c).toArray⟩) ∧ Below w.heap.size w w' := Any.strings_Repeat Tryz.lays105 Tryz.Builder_Extra_105 s c w hc hlen
end Go.Proofs

/- Plain words on lists and on what the library's functions hand back. -/
set_option linter.unusedVariables false
namespace Go.Proofs.YtlkhdembbogcaaaGreatDoor
theorem all_take_succ {α : Type} {φ : α → Bool} {s : List α} {d : α} {i : Nat} (hi : i < s.length) (h : (s.take i).all φ = true) (hc : φ (s.getD i d) = true) : (s.take (i + 1)).all φ = true := by
  rw [List.take_add_one, List.all_append, h]
  rw [List.getD_eq_getElem?_getD, List.getElem?_eq_getElem hi] at hc
  simp only [List.getElem?_eq_getElem hi, Option.toList_some, List.all_cons, List.all_nil, Bool.and_true, Bool.true_and]
  simpa using hc
theorem all_false_of {α : Type} {φ : α → Bool} {s : List α} {d : α} {i : Nat} (hi : i < s.length) (hc : φ (s.getD i d) = false) : s.all φ = false := by
  rw [List.getD_eq_getElem?_getD, List.getElem?_eq_getElem hi] at hc
  rw [← Bool.not_eq_true, List.all_eq_true]
  intro h
  have := h s[i] (List.getElem_mem hi)
  simp at hc
  rw [hc] at this
  cases this
theorem all_of_take {α : Type} {φ : α → Bool} {s : List α} {i : Nat} (hi : s.length ≤ i) (h : (s.take i).all φ = true) : s.all φ = true := by
  rwa [List.take_of_length_le hi] at h
theorem countFrom_le (sub : List UInt8) : ∀ (f : Nat) (s : List UInt8), Go.Lib.countFrom sub f s ≤ f
  | 0, _ => Nat.le_refl _
  | f + 1, s => by
    unfold Go.Lib.countFrom
    split
    · omega
    · have := countFrom_le sub f (s.drop ((Go.Lib.index s sub).toNat + sub.length)); omega
theorem splitK_le (sep : List UInt8) (save : Nat) : ∀ (k : Nat) (s : List UInt8), (Go.Lib.splitK sep save k s).length ≤ k + 1
  | 0, _ => by simp [Go.Lib.splitK]
  | k + 1, s => by
    unfold Go.Lib.splitK
    split
    · simp
    · have := splitK_le sep save k (s.drop ((Go.Lib.index s sep).toNat + sep.length)); simp; omega
theorem split_le (s sep : List UInt8) : (Go.Lib.split s sep).length ≤ s.length + 2 := by
  have h1 := splitK_le sep 0 (Go.Lib.count s sep) s
  have h2 := countFrom_le sep (s.length + 1) s
  unfold Go.Lib.count at h1
  unfold Go.Lib.split Go.Lib.count
  omega
theorem splitK_mem (sep : List UInt8) : ∀ (k : Nat) (s x : List UInt8), x ∈ Go.Lib.splitK sep 0 k s → x.length ≤ s.length
  | 0, s, x, h => by simp [Go.Lib.splitK] at h; rw [h]; exact Nat.le_refl _
  | k + 1, s, x, h => by
    unfold Go.Lib.splitK at h
    split at h
    · simp at h; rw [h]; exact Nat.le_refl _
    · rcases List.mem_cons.1 h with rfl | h
      · simp; omega
      · have := splitK_mem sep k _ x h; simp at this; omega
theorem split_mem {s sep x : List UInt8} (h : x ∈ Go.Lib.split s sep) : x.length ≤ s.length := splitK_mem sep _ s x h
theorem split_at {s sep : List UInt8} {i : Nat} : ((Go.Lib.split s sep).getD i []).length ≤ s.length := by
  rw [List.getD_eq_getElem?_getD]
  cases h : (Go.Lib.split s sep)[i]? with
  | none => simp
  | some x => exact split_mem (List.mem_of_getElem? h)
/-- What strconv.Atoi hands back. -/
def atoiV (s : List UInt8) : Int := match Go.Lib.atoiAll s with
  | .ok v => v
  | .range => Go.Lib.atoiSat s
  | _ => 0
def atoiOk (s : List UInt8) : Bool := match Go.Lib.atoiAll s with
  | .ok _ => true
  | _ => false
/-- The first number that is not 0. -/
def firstNe (l : List Int) : Int := (l.find? (· != 0)).getD 0
theorem firstNe_hit {l : List Int} {i : Nat} (hi : i < l.length) (h : (l.take i).all (· == 0) = true) (hc : l.getD i 0 ≠ 0) : firstNe l = l.getD i 0 := by
  induction l generalizing i with
  | nil => simp at hi
  | cons a l ih =>
    unfold firstNe
    cases i with
    | zero => simp at hc; simp [hc]
    | succ i =>
      simp only [List.take_succ_cons, List.all_cons, Bool.and_eq_true, beq_iff_eq] at h
      simp only [h.1, List.find?_cons, bne_self_eq_false]
      exact ih (by simpa using hi) h.2 (by simpa using hc)
theorem firstNe_none {l : List Int} {i : Nat} (hi : l.length ≤ i) (h : (l.take i).all (· == 0) = true) : firstNe l = 0 := by
  rw [List.take_of_length_le hi] at h
  unfold firstNe
  rw [List.find?_eq_none.2]
  · rfl
  · intro x hx
    have := List.all_eq_true.1 h x hx
    simpa using this
theorem zip_at {α β : Type} {f : α → β → Int} {xs : List α} {ys : List β} {i : Nat} (d : α) (e : β) (h1 : i < xs.length) (h2 : i < ys.length) : (List.zipWith f xs ys).getD i 0 = f (xs.getD i d) (ys.getD i e) := by
  simp [List.getD, List.getElem?_zipWith, h1, h2]
theorem three {α : Type} {l : List α} (h : l.length = 3) : ∃ a b c, l = [a, b, c] := by
  match l, h with
  | [a, b, c], _ => exact ⟨a, b, c, rfl⟩
end Go.Proofs.YtlkhdembbogcaaaGreatDoor

/- The library's contracts at this seat, as pure calls. -/
set_option linter.unusedVariables false
namespace Go.Proofs.YtlkhdembbogcaaaGreatDoor
open Go Go.RowKit Go.Sort
/-- What the package's variables hold that the library reads. -/
structure Base (w : World) : Prop where
  max : ∃ m, w.cell? ⟨0, 0, none⟩ = some (.int .i64 m)
  pow : Lib.TabIs Tryz.prog w "internal/strconv.uint64pow10" .u64 Lib.pow10Tab
  esyn : ∃ t p, w.var? Tryz.prog "strconv.ErrSyntax" = some #[.iface t p]
  eran : ∃ t p, w.var? Tryz.prog "strconv.ErrRange" = some #[.iface t p]
  db : Lib.TabIs Tryz.prog w "math/bits.deBruijn64tab" .u8 (List.map (fun n : Nat => (n : Int)) Lib.deBruijn64tab)
theorem var_lt {P : Program} {w : World} {s : String} {g : Nat} {cs : Array Value} (hg : P.globalNamed s = some g) (hc : w.var? P s = some cs) : g < w.heap.size := by
  simp only [World.var?, hg, Option.bind_some] at hc
  apply Decidable.byContradiction; intro hn
  rw [Array.getElem?_eq_none (by omega)] at hc
  simp at hc
theorem var_stay {P : Program} {N : Nat} {w w' : World} {s : String} {g : Nat} {cs : Array Value} (h : Below N w w') (hg : P.globalNamed s = some g) (hN : g < N) (hc : w.var? P s = some cs) : w'.var? P s = some cs := by
  simp only [World.var?, hg, Option.bind_some] at hc ⊢
  rw [h.block g hN]; exact hc
theorem cell_lt {w : World} {b o : Nat} {v : Value} (hc : w.cell? ⟨b, o, none⟩ = some v) : b < w.heap.size := by
  apply Decidable.byContradiction; intro hn
  simp only [World.cell?] at hc
  rw [Array.getElem?_eq_none (by omega)] at hc
  simp at hc
theorem cell_stay {N : Nat} {w w' : World} {b o : Nat} {v : Value} (h : Below N w w') (hN : b < N) (hc : w.cell? ⟨b, o, none⟩ = some v) : w'.cell? ⟨b, o, none⟩ = some v := by
  rw [World.cell?_of_block (w := w) (h.block b hN)]; exact hc
def JN : Nat := Nat.max (0 + 1) (Nat.max (7 + 1) (Nat.max (3 + 1) (Nat.max (1 + 1) (2 + 1))))
def J : Inv where
  I := Base
  N := JN
  lt w h := by
    obtain ⟨m, hm⟩ := h.max
    obtain ⟨t, p, hs⟩ := h.esyn
    obtain ⟨t', p', hr⟩ := h.eran
    have h1 := cell_lt hm
    have h2 := var_lt (g := 3) (by kernel_rfl) h.pow
    have h3 := var_lt (g := 1) (by kernel_rfl) hs
    have h4 := var_lt (g := 2) (by kernel_rfl) hr
    have h5 := var_lt (g := 7) (by kernel_rfl) h.db
    exact Nat.max_le.2 ⟨h1, Nat.max_le.2 ⟨h5, Nat.max_le.2 ⟨h2, Nat.max_le.2 ⟨h3, h4⟩⟩⟩⟩
  st w w' h hb := ⟨h.max.imp fun m hm => cell_stay hb (by decide) hm, var_stay (g := 3) hb (by kernel_rfl) (by decide) h.pow,
    h.esyn.imp fun t ht => ht.imp fun p hp => var_stay (g := 1) hb (by kernel_rfl) (by decide) hp,
    h.eran.imp fun t ht => ht.imp fun p hp => var_stay (g := 2) hb (by kernel_rfl) (by decide) hp, var_stay (g := 7) hb (by kernel_rfl) (by decide) h.db⟩
theorem Below.growDrew (w : World) (k : Nat) (os : Array Obj) : Below w.heap.size w (grow (w.drewN k) os) :=
  ⟨rfl, rfl, rfl, by show _ ≤ (w.heap ++ os).size; simp, fun j hj => by show (w.heap ++ os)[j]? = _; rw [Array.getElem?_append_left hj]⟩
theorem Below.bytesW (w : World) (e : TypeId) (s : ByteArray) : Below w.heap.size w (Lib.bytesWorld w e s) :=
  ⟨rfl, rfl, rfl, by rw [Lib.bytesWorld_size]; omega, fun j hj => Lib.bytesWorld_at_old w e s j hj⟩
theorem pc_Compare (a b : List UInt8) : PureCall Tryz.prog J 14 [.one (.d (.str a)), .one (.d (.str b))] (.one (.d (.int .i64 (Lib.compareBytes a b)))) :=
  PureCall.lib Tryz.func14 (by kernel_rfl) (by kernel_rfl) (xs := [.string ⟨a.toArray⟩, .string ⟨b.toArray⟩]) rfl fun w _ =>
    Calls.mono (Tryz.strings_Compare ⟨a.toArray⟩ ⟨b.toArray⟩ w) fun e w' ⟨he, hw⟩ => ⟨_, he, hw ▸ Below.refl _ _, RV.of_lit (by simp [D.lit])⟩
theorem pc_IndexByte (a : List UInt8) (c : Int) : PureCall Tryz.prog J 148 [.one (.d (.str a)), .one (.d (.int .u8 c))] (.one (.d (.int .i64 (Lib.indexByte a c.toNat.toUInt8)))) :=
  PureCall.lib Tryz.func148 (by kernel_rfl) (by kernel_rfl) (xs := [.string ⟨a.toArray⟩, .int .u8 c]) rfl fun w _ =>
    Calls.mono (Tryz.strings_IndexByte ⟨a.toArray⟩ c w) fun e w' ⟨he, hw⟩ => ⟨_, he, hw ▸ Below.refl _ _, RV.of_lit (by simp [D.lit])⟩
theorem pc_CutPrefix (a b : List UInt8) : PureCall Tryz.prog J 183 [.one (.d (.str a)), .one (.d (.str b))] (.tup [.one (.d (.str (Lib.trimPrefix a b))), .one (.d (.bool (Lib.hasPrefix a b)))]) :=
  PureCall.lib Tryz.func183 (by kernel_rfl) (by kernel_rfl) (xs := [.string ⟨a.toArray⟩, .string ⟨b.toArray⟩]) rfl fun w _ =>
    Calls.mono (Tryz.strings_CutPrefix ⟨a.toArray⟩ ⟨b.toArray⟩ w) fun e w' ⟨he, hw⟩ => ⟨_, he, hw ▸ Below.refl _ _, RV.tup2 (RV.of_lit (by simp [D.lit])) (RV.of_lit (by simp [D.lit]))⟩
theorem pc_Contains (a b : List UInt8) (ha : a.length < 4294967281) : PureCall Tryz.prog J 249 [.one (.d (.str a)), .one (.d (.str b))] (.one (.d (.bool (Lib.contains a b)))) :=
  PureCall.lib Tryz.func249 (by kernel_rfl) (by kernel_rfl) (xs := [.string ⟨a.toArray⟩, .string ⟨b.toArray⟩]) rfl fun w hw =>
    hw.max.elim fun m hm => Calls.mono (Tryz.strings_Contains ⟨a.toArray⟩ ⟨b.toArray⟩ m w (by simpa [ByteArray.size] using ha) hm) fun e w' ⟨he, hw⟩ => ⟨_, he, hw ▸ Below.refl _ _, RV.of_lit (by simp [D.lit])⟩
theorem pc_Cut (a b : List UInt8) (ha : a.length < 4294967281) : PureCall Tryz.prog J 181 [.one (.d (.str a)), .one (.d (.str b))]
    (.tup [.one (.d (.str (Lib.cut a b).1)), .one (.d (.str (Lib.cut a b).2.1)), .one (.d (.bool (Lib.cut a b).2.2))]) :=
  PureCall.lib Tryz.func181 (by kernel_rfl) (by kernel_rfl) (xs := [.string ⟨a.toArray⟩, .string ⟨b.toArray⟩]) rfl fun w hw =>
    hw.max.elim fun m hm => Calls.mono (Tryz.strings_Cut ⟨a.toArray⟩ ⟨b.toArray⟩ m w (by simpa [ByteArray.size] using ha) hm) fun e w' ⟨he, n, hw⟩ => ⟨_, he, hw ▸ Below.drewN' _ _, RV.tup3 (RV.of_lit (by simp [D.lit])) (RV.of_lit (by simp [D.lit])) (RV.of_lit (by simp [D.lit]))⟩
theorem countB_eq (s sep : List UInt8) : Lib.countB ⟨s.toArray⟩ ⟨sep.toArray⟩ = Lib.count s sep := by simp [Lib.countB]
theorem pc_Split (a b : List UInt8) (ha : a.length < 4294967281) (hb : 1 ≤ b.length) : PureCall Tryz.prog J 46 [.one (.d (.str a)), .one (.d (.str b))]
    (.one (.d (.vec 1 ((Lib.split a b).map fun x => [.str x])))) :=
  PureCall.lib Tryz.func46 (by kernel_rfl) (by kernel_rfl) (xs := [.string ⟨a.toArray⟩, .string ⟨b.toArray⟩]) rfl fun w hw =>
    hw.max.elim fun m hm => Calls.mono (Tryz.strings_Split ⟨a.toArray⟩ ⟨b.toArray⟩ m w (by simpa [ByteArray.size] using ha) hm (by simpa [ByteArray.size] using hb)) fun e w' ⟨he, hw⟩ => by
      subst hw
      refine ⟨_, he, Below.alloc' _ _, ?_⟩
      have hl := Lib.splitB_all ⟨b.toArray⟩ (by simpa [ByteArray.size] using hb) 0 (Lib.countB ⟨a.toArray⟩ ⟨b.toArray⟩) ⟨a.toArray⟩ rfl
      have hd := Lib.splitB_data ⟨b.toArray⟩ 0 (Lib.countB ⟨a.toArray⟩ ⟨b.toArray⟩) ⟨a.toArray⟩
      have he : (Lib.split a b).map (fun x => [D.str x]) = (Lib.splitB ⟨b.toArray⟩ 0 (Lib.countB ⟨a.toArray⟩ ⟨b.toArray⟩) ⟨a.toArray⟩).map fun s => [D.str s.data.toList] := by
        have h2 : Lib.split a b = (Lib.splitB ⟨b.toArray⟩ 0 (Lib.countB ⟨a.toArray⟩ ⟨b.toArray⟩) ⟨a.toArray⟩).map (·.data.toList) := by
          rw [hd, countB_eq]; rfl
        rw [h2, List.map_map]; rfl
      rw [he]
      exact RV.texts _ (fun h => by rw [h] at hl; simp at hl) _ hl.symm
theorem pc_Itoa (n : Int) (h0 : -9223372036854775808 ≤ n) (h1 : n ≤ 9223372036854775807) : PureCall Tryz.prog J 111 [.one (.d (.int .i64 n))] (.one (.d (.str (Lib.itoa n)))) :=
  PureCall.lib Tryz.func111 (by kernel_rfl) (by kernel_rfl) (xs := [.int .i64 n]) rfl fun w hw =>
    Calls.mono (Tryz.strconv_Itoa n h0 h1 w hw.pow) fun e w' ⟨he, k, os, hw⟩ => ⟨_, he, hw ▸ Below.growDrew _ _ _, RV.of_lit (by simp [D.lit])⟩
theorem pc_cmpInt (x y : Int) : PureCall Tryz.prog J 45 [.one (.d (.int .i64 x)), .one (.d (.int .i64 y))] (.one (.d (.int .i64 (Lib.compareInt x y)))) :=
  PureCall.lib Tryz.func45 (by kernel_rfl) (by kernel_rfl) (xs := [.int .i64 x, .int .i64 y]) rfl fun w _ =>
    Calls.mono (Tryz.cmp_Compare_int x y w) fun e w' ⟨he, hw⟩ => ⟨_, he, hw ▸ Below.refl _ _, RV.of_lit (by simp [D.lit])⟩
theorem pc_Trim (s cs : List UInt8) (hs : s.length ≤ 9223372036854775807) (hcs : cs.length < 4294967281) (ha : cs.all (fun b => decide (b.toNat < 128)) = true) :
    PureCall Tryz.prog J 91 [.one (.d (.str s)), .one (.d (.str cs))] (.one (.d (.str (Lib.trimS s cs)))) :=
  PureCall.lib Tryz.func91 (by kernel_rfl) (by kernel_rfl) (xs := [.string ⟨s.toArray⟩, .string ⟨cs.toArray⟩]) rfl fun w _ =>
    Calls.mono (Any.strings_Trim_laid Tryz.lays160 (by kernel_rfl) ⟨s.toArray⟩ ⟨cs.toArray⟩ w (by simpa [ByteArray.size] using hs) (by simpa [ByteArray.size] using hcs) (ascii_of_all (by simpa using ha))) fun e w' ⟨he, hw⟩ => ⟨_, he, hw, RV.of_lit (by simp [D.lit])⟩
theorem pc_Atoi (s : List UInt8) (hs : s.length ≤ 281474976710656) : PureCall Tryz.prog J 48 [.one (.d (.str s))] (.tup [.one (.d (.int .i64 (atoiV s))), .one (.d (.err (atoiOk s)))]) :=
  PureCall.lib Tryz.func48 (by kernel_rfl) (by kernel_rfl) (xs := [.string ⟨s.toArray⟩]) rfl fun w hw => by
    have hsz : (⟨s.toArray⟩ : ByteArray).size ≤ 281474976710656 := by simpa [ByteArray.size] using hs
    cases h : Lib.atoiAll s with
    | ok v =>
      refine Calls.mono (Tryz.strconv_Atoi_ok ⟨s.toArray⟩ (by omega) v h w) fun e w' ⟨he, hw⟩ => ⟨_, he, ?_, ?_⟩
      · rcases hw with rfl | ⟨t, rfl⟩
        · exact Below.refl _ _
        · exact Below.bytesW _ _ _
      · rw [show atoiV s = v by simp [atoiV, h], show atoiOk s = true by simp [atoiOk, h]]
        exact RV.tup2 (RV.of_lit rfl) (.one _ _ (.d _ _ .errNil))
    | range =>
      obtain ⟨t, p, hv⟩ := hw.eran
      refine Calls.mono (Tryz.strconv_Atoi_range_var ⟨s.toArray⟩ hsz h t p w hv) fun e w' ⟨N, he, _, _, hB⟩ => ⟨_, he, hB, ?_⟩
      rw [show atoiV s = Lib.atoiSat s by simp [atoiV, h], show atoiOk s = false by simp [atoiOk, h]]
      exact RV.tup2 (RV.of_lit rfl) (.one _ _ (.d _ _ (.errSome _ _)))
    | _ =>
      obtain ⟨t, p, hv⟩ := hw.esyn
      refine Calls.mono (Tryz.strconv_Atoi_syntax_var ⟨s.toArray⟩ hsz h t p w hv) fun e w' ⟨N, he, _, _, hB⟩ => ⟨_, he, hB, ?_⟩
      rw [show atoiV s = 0 by simp [atoiV, h], show atoiOk s = false by simp [atoiOk, h]]
      exact RV.tup2 (RV.of_lit rfl) (.one _ _ (.d _ _ (.errSome _ _)))
end Go.Proofs.YtlkhdembbogcaaaGreatDoor

/- Plain words on versions: no program in sight. -/
set_option linter.unusedVariables false
set_option linter.unusedSimpArgs false
namespace Go.Proofs.YtlkhdembbogcaaaGreatDoor
def isDigit (c : Int) : Bool := decide (c ≥ 48) && decide (c ≤ 57)
def isSmall (c : Int) : Bool := decide (c ≥ 97) && decide (c ≤ 122)
def outsideB (n l h : Int) : Bool := decide (n < l) || decide (n > h)
def bI (c : UInt8) : Int := (c.toNat : Int)
def nameC (c : Int) : Bool := isSmall c || isDigit c || c == 45 || c == 46
def partC' (c : Int) : Bool := isSmall c || (decide (c ≥ 65) && decide (c ≤ 90)) || isDigit c || c == 45 || c == 46 || c == 95
def valueC (c : Int) : Bool := decide (c ≥ 32) && decide (c ≤ 126)
def earlyC (c : Int) : Bool := isSmall c || isDigit c
/-- 'each': from 1 to so many bytes, each of which a condition accepts. -/
def eachB (φ : Int → Bool) (s : List UInt8) (m : Int) : Bool := s.all (fun c => φ (bI c)) && (!(s == []) && decide ((s.length : Int) ≤ m))
theorem eachB_pos {φ : Int → Bool} {s : List UInt8} {m : Int} (h : eachB φ s m = true) : (0 : Int) < (s.length : Int) := by
  unfold eachB at h
  cases s with
  | nil => simp at h
  | cons a l => simp only [List.length_cons]; omega
def nameB (s : List UInt8) : Bool := eachB nameC s 40 && isSmall (bI (s.getD 0 0))
def partB (s : List UInt8) : Bool := eachB partC' s 40 && !(s == [46]) && !(s == [46, 46])
def valueB (s : List UInt8) : Bool := s == [] || eachB valueC s 1000
def numeralB (s : List UInt8) : Bool := eachB isDigit s 10
def wordB (w : List UInt8) : Bool := eachB earlyC w 10 && !(numeralB w && bI (w.getD 0 0) == 48 && !(w == [48]))
theorem word_f {a b : Bool} (h : (!a || b) = true) : (a && !b) = false := by cases a <;> cases b <;> simp_all
theorem word_t {a b : Bool} (h : (!a || b) = false) : (a && !b) = true := by cases a <;> cases b <;> simp_all
/-- A path or a key; the tail of an early version. -/
def pathB (s : List UInt8) : Bool := (Go.Lib.split s [47]).all partB && decide ((s.length : Int) ≤ 200)
def earlyB (s : List UInt8) : Bool := (Go.Lib.split s [46]).all wordB && decide ((s.length : Int) ≤ 40)
def outsideN (n : Int) : Bool := outsideB n 0 999999
def checkB (a b c : Int) (e : List UInt8) : Int := if outsideN a || outsideN b || outsideN c then 3 else if !(e == []) && !earlyB e then 2 else 0
def textB (a b c : Int) (e : List UInt8) : List UInt8 := Go.Lib.itoa a ++ [46] ++ Go.Lib.itoa b ++ [46] ++ Go.Lib.itoa c ++ (if e == [] then [] else [45] ++ e)
end Go.Proofs.YtlkhdembbogcaaaGreatDoor

set_option linter.unusedVariables false
set_option linter.unusedSimpArgs false
set_option maxRecDepth 100000
set_option maxHeartbeats 4000000
namespace Go.Proofs.YtlkhdembbogcaaaGreatDoor
open Go
open Go.RowKit
theorem pc_ver_isDigit (c : Int) :
  PureCall Tryz.prog J 103 [.one (.d (.int .u8 c))] (.one (.d (.bool (isDigit c)))) := by
 refine PureCall.of_body tOk (fn := Tryz.f103) Tryz.func103 (by kernel_rfl) rfl (Nat.le_of_ble_eq_true rfl) (fun E => ?_)
 refine W.seq ?_
 refine W.region ?_
 refine S.pure tOk zOk rfl rfl rfl ?_
 refine thenK_n ?_
 refine W.seq ?_
 refine W.region ?_
 refine S.pure tOk zOk rfl rfl rfl ?_
 refine S.pure tOk zOk rfl rfl rfl ?_
 refine S.pure tOk zOk rfl rfl rfl ?_
 refine S.pureG tOk zOk rfl rfl tg (fun _ => rfl) rfl ?_
 refine S.pureG tOk zOk rfl rfl tg (fun _ => rfl) rfl ?_
 refine S.pickAnd tOk zOk rfl rfl tg ?_
 refine S.pure tOk zOk rfl rfl rfl ?_
 refine thenK_n ?_
 refine W.ret ?_
 exact ⟨_, rfl, rfl, LeV.refl _⟩
theorem pc_ver_isSmall (c : Int) :
  PureCall Tryz.prog J 102 [.one (.d (.int .u8 c))] (.one (.d (.bool (isSmall c)))) := by
 refine PureCall.of_body tOk (fn := Tryz.f102) Tryz.func102 (by kernel_rfl) rfl (Nat.le_of_ble_eq_true rfl) (fun E => ?_)
 refine W.seq ?_
 refine W.region ?_
 refine S.pure tOk zOk rfl rfl rfl ?_
 refine thenK_n ?_
 refine W.seq ?_
 refine W.region ?_
 refine S.pure tOk zOk rfl rfl rfl ?_
 refine S.pure tOk zOk rfl rfl rfl ?_
 refine S.pure tOk zOk rfl rfl rfl ?_
 refine S.pureG tOk zOk rfl rfl tg (fun _ => rfl) rfl ?_
 refine S.pureG tOk zOk rfl rfl tg (fun _ => rfl) rfl ?_
 refine S.pickAnd tOk zOk rfl rfl tg ?_
 refine S.pure tOk zOk rfl rfl rfl ?_
 refine thenK_n ?_
 refine W.ret ?_
 exact ⟨_, rfl, rfl, LeV.refl _⟩
theorem pc_ver_outside (n l h : Int) :
  PureCall Tryz.prog J 104 [.one (.d (.int .i64 n)), .one (.d (.int .i64 l)), .one (.d (.int .i64 h))] (.one (.d (.bool (outsideB n l h)))) := by
 refine PureCall.of_body tOk (fn := Tryz.f104) Tryz.func104 (by kernel_rfl) rfl (Nat.le_of_ble_eq_true rfl) (fun E => ?_)
 refine W.seq ?_
 refine W.region ?_
 refine S.pure tOk zOk rfl rfl rfl ?_
 refine thenK_n ?_
 refine W.seq ?_
 refine W.region ?_
 refine S.pure tOk zOk rfl rfl rfl ?_
 refine S.pure tOk zOk rfl rfl rfl ?_
 refine S.pure tOk zOk rfl rfl rfl ?_
 refine S.pure tOk zOk rfl rfl rfl ?_
 refine S.pureG tOk zOk rfl rfl tg (fun _ => rfl) rfl ?_
 refine S.pureG tOk zOk rfl rfl tg (fun _ => rfl) rfl ?_
 refine S.pureG tOk zOk rfl rfl tg (fun _ => rfl) rfl ?_
 refine S.pickOr tOk zOk rfl rfl tg ?_
 refine S.pure tOk zOk rfl rfl rfl ?_
 refine thenK_n ?_
 refine W.ret ?_
 exact ⟨_, rfl, rfl, LeV.refl _⟩
theorem pc_ver_each (φ : Int → Bool) (s : List UInt8) (m : Int) (f : FuncId) (hs : s.length ≤ 4611686018427387904) (hφ : ∀ c, PureCall Tryz.prog J f [.one (.d (.int .u8 c))] (.one (.d (.bool (φ c))))) :
  PureCall Tryz.prog J 100 [.one (.d (.str s)), .one (.d (.int .i64 m)), .one (.d (.fn f))] (.one (.d (.bool (eachB φ s m)))) := by
 refine PureCall.of_body tOk (fn := Tryz.f100) Tryz.func100 (by kernel_rfl) rfl (Nat.le_of_ble_eq_true rfl) (fun E => ?_)
 refine W.seq ?_
 refine W.region ?_
 refine S.pure tOk zOk rfl rfl rfl ?_
 refine thenK_n ?_
 refine W.seq ?_
 refine W.seq ?_
 refine W.region ?_
 refine S.pure tOk zOk rfl rfl rfl ?_
 refine thenK_n ?_
 refine W.block ?_
 refine W.loop (fun k st => ∃ i : Nat, i ≤ s.length ∧ (s.take i).all (fun c => φ (bI c)) = true ∧ k = s.length - i ∧ ∃ t b2 r2 m2, st = ⟨t, [] ++ b2, [] ++ r2, [] ++ m2⟩ ∧ holdsL t [(0, .one (.d (.str s))), (1, .one (.d (.int .i64 m))), (2, .one (.d (.fn f))), (7, .one (.d (.int .i64 (i : Int))))]) (s.length) ⟨0, Nat.zero_le _, by simp, rfl, _, _, _, _, rfl, rfl, rfl, rfl, rfl, trivial⟩ ?_
 rintro k0 _ ⟨i, f0_0, f0_1, rfl, t0, bb0, rr0, mm0, rfl, hh0⟩
 refine W.keepR _ _ _ _ _ _ _ hh0 rfl ?_
 refine W.seq ?_
 refine W.seq ?_
 refine W.region ?_
 refine S.pure tOk zOk rfl rfl rfl ?_
 refine S.pure tOk zOk rfl rfl rfl ?_
 refine S.pure tOk zOk rfl rfl rfl ?_
 refine S.pure tOk zOk rfl rfl rfl ?_
 refine thenK_n ?_
 refine W.cond rfl (fun c1 => ?_) (fun c1 => ?_)
 ·skip
  have hi : i < s.length := by simpa using c1
  refine W.skip ?_
  refine thenK_n ?_
  refine W.seq ?_
  refine W.block ?_
  refine W.seq ?_
  refine W.region ?_
  refine S.pure tOk zOk rfl rfl rfl ?_
  refine S.pure tOk zOk rfl rfl rfl ?_
  refine S.pure tOk zOk rfl rfl rfl ?_
  refine S.pure tOk zOk rfl (str_ok hi) rfl ?_
  refine S.call rfl rfl rfl rfl rfl (hφ _) ?_
  refine S.pure tOk zOk rfl rfl rfl ?_
  refine thenK_n ?_
  refine W.cond rfl (fun c2 => ?_) (fun c2 => ?_)
  ·skip
   refine W.seq ?_
   refine W.region ?_
   refine S.pure tOk zOk rfl rfl rfl ?_
   refine thenK_n ?_
   refine W.ret ?_
   refine blockK_r ?_
   refine thenK_r ?_
   refine thenK_r ?_
   refine blockK_r ?_
   refine thenK_r ?_
   exact ⟨_, rfl, rfl, LeV.of_eq (by rw [eachB, all_false_of (d := 0) (φ := fun c => φ (bI c)) hi (by simpa [bI] using c2)]; rfl)⟩
  ·skip
   refine W.skip ?_
   refine blockK_n ?_
   refine thenK_n ?_
   refine W.region ?_
   refine S.pure tOk zOk rfl rfl rfl ?_
   refine S.pure tOk zOk rfl rfl rfl ?_
   refine S.pure tOk zOk rfl rfl rfl ?_
   refine loop_n (s.length - (i + 1)) (by omega) ⟨i + 1, by omega, all_take_succ (d := 0) (φ := fun c => φ (bI c)) hi f0_1 (by simpa [bI] using c2), rfl, _, _, _, _, rfl, rfl, rfl, rfl, inc_i64 (by omega), trivial⟩
 ·skip
  have hi : s.length ≤ i := by simpa using c1
  refine W.exit ?_
  refine thenK_e ?_
  refine thenK_e ?_
  refine blockK_x ?_
  refine thenK_n ?_
  refine W.seq ?_
  refine W.region ?_
  refine S.pure tOk zOk rfl rfl rfl ?_
  refine S.pure tOk zOk rfl rfl rfl ?_
  refine S.pure tOk zOk rfl rfl rfl ?_
  refine S.pureG tOk zOk rfl rfl tg (fun _ => rfl) rfl ?_
  refine S.pureG tOk zOk rfl rfl tg (fun _ => rfl) rfl ?_
  refine S.pureG tOk zOk rfl rfl tg (fun _ => rfl) rfl ?_
  refine S.pureG tOk zOk rfl rfl tg (fun _ => rfl) rfl ?_
  refine S.pickAnd tOk zOk rfl rfl tg ?_
  refine S.pure tOk zOk rfl rfl rfl ?_
  refine thenK_n ?_
  refine W.ret ?_
  exact ⟨_, rfl, rfl, LeV.of_eq (by rw [eachB, all_of_take hi f0_1]; rfl)⟩
theorem pc_ver_IsName_1 (c : Int) :
  PureCall Tryz.prog J 101 [.one (.d (.int .u8 c))] (.one (.d (.bool (nameC c)))) := by
 refine PureCall.of_body tOk (fn := Tryz.f101) Tryz.func101 (by kernel_rfl) rfl (Nat.le_of_ble_eq_true rfl) (fun E => ?_)
 refine W.seq ?_
 refine W.region ?_
 refine S.pure tOk zOk rfl rfl rfl ?_
 refine thenK_n ?_
 refine W.seq ?_
 refine W.region ?_
 refine S.pure tOk zOk rfl rfl rfl ?_
 refine S.call rfl rfl rfl rfl rfl (pc_ver_isSmall _) ?_
 refine S.pure tOk zOk rfl rfl rfl ?_
 refine S.pureG tOk zOk rfl rfl tg (fun _ => rfl) rfl ?_
 refine S.callG rfl rfl rfl rfl tg rfl rfl (fun _ => pc_ver_isDigit _) ?_
 refine S.pickOr tOk zOk rfl rfl tg ?_
 refine S.pure tOk zOk rfl rfl rfl ?_
 refine S.pureG tOk zOk rfl rfl tg (fun _ => rfl) rfl ?_
 refine S.pureG tOk zOk rfl rfl tg (fun _ => rfl) rfl ?_
 refine S.pickOr tOk zOk rfl rfl tg ?_
 refine S.pure tOk zOk rfl rfl rfl ?_
 refine S.pureG tOk zOk rfl rfl tg (fun _ => rfl) rfl ?_
 refine S.pureG tOk zOk rfl rfl tg (fun _ => rfl) rfl ?_
 refine S.pickOr tOk zOk rfl rfl tg ?_
 refine S.pure tOk zOk rfl rfl rfl ?_
 refine thenK_n ?_
 refine W.ret ?_
 exact ⟨_, rfl, rfl, LeV.refl _⟩
theorem pc_ver_IsName (s : List UInt8) (hs : s.length ≤ 4611686018427387904) :
  PureCall Tryz.prog J 53 [.one (.d (.str s))] (.one (.d (.bool (nameB s)))) := by
 refine PureCall.of_body tOk (fn := Tryz.f53) Tryz.func53 (by kernel_rfl) rfl (Nat.le_of_ble_eq_true rfl) (fun E => ?_)
 refine W.seq ?_
 refine W.region ?_
 refine S.pure tOk zOk rfl rfl rfl ?_
 refine thenK_n ?_
 refine W.seq ?_
 refine W.region ?_
 refine S.pure tOk zOk rfl rfl rfl ?_
 refine S.call rfl rfl rfl rfl rfl (pc_ver_each _ _ _ _ (hs) (fun c => pc_ver_IsName_1 c)) ?_
 refine S.pure tOk zOk rfl rfl rfl ?_
 refine S.pureG tOk zOk rfl rfl tg (fun _ => rfl) rfl ?_
 refine S.pureG tOk zOk rfl rfl tg (fun h => idx_ok (Int.le_refl _) (eachB_pos h)) rfl ?_
 refine S.callG rfl rfl rfl rfl tg rfl rfl (fun _ => pc_ver_isSmall _) ?_
 refine S.pickAnd tOk zOk rfl rfl tg ?_
 refine S.pure tOk zOk rfl rfl rfl ?_
 refine thenK_n ?_
 refine W.ret ?_
 exact ⟨_, rfl, rfl, LeV.refl _⟩
theorem pc_ver_isPart_1 (c : Int) :
  PureCall Tryz.prog J 241 [.one (.d (.int .u8 c))] (.one (.d (.bool (partC' c)))) := by
 refine PureCall.of_body tOk (fn := Tryz.f241) Tryz.func241 (by kernel_rfl) rfl (Nat.le_of_ble_eq_true rfl) (fun E => ?_)
 refine W.seq ?_
 refine W.region ?_
 refine S.pure tOk zOk rfl rfl rfl ?_
 refine thenK_n ?_
 refine W.seq ?_
 refine W.region ?_
 refine S.pure tOk zOk rfl rfl rfl ?_
 refine S.call rfl rfl rfl rfl rfl (pc_ver_isSmall _) ?_
 refine S.pure tOk zOk rfl rfl rfl ?_
 refine S.pureG tOk zOk rfl rfl tg (fun _ => rfl) rfl ?_
 refine S.pureG tOk zOk rfl rfl tg (fun _ => rfl) rfl ?_
 refine S.pureG tOk zOk rfl rfl tg (fun _ => rfl) rfl ?_
 refine S.pureG tOk zOk rfl rfl tg (fun _ => rfl) rfl ?_
 refine S.pureG tOk zOk rfl rfl tg (fun _ => rfl) rfl ?_
 refine S.pickAndG tOk zOk rfl rfl rfl tg tg ?_
 refine S.pickOr tOk zOk rfl rfl tg ?_
 refine S.pure tOk zOk rfl rfl rfl ?_
 refine S.pureG tOk zOk rfl rfl tg (fun _ => rfl) rfl ?_
 refine S.callG rfl rfl rfl rfl tg rfl rfl (fun _ => pc_ver_isDigit _) ?_
 refine S.pickOr tOk zOk rfl rfl tg ?_
 refine S.pure tOk zOk rfl rfl rfl ?_
 refine S.pureG tOk zOk rfl rfl tg (fun _ => rfl) rfl ?_
 refine S.pureG tOk zOk rfl rfl tg (fun _ => rfl) rfl ?_
 refine S.pickOr tOk zOk rfl rfl tg ?_
 refine S.pure tOk zOk rfl rfl rfl ?_
 refine S.pureG tOk zOk rfl rfl tg (fun _ => rfl) rfl ?_
 refine S.pureG tOk zOk rfl rfl tg (fun _ => rfl) rfl ?_
 refine S.pickOr tOk zOk rfl rfl tg ?_
 refine S.pure tOk zOk rfl rfl rfl ?_
 refine S.pureG tOk zOk rfl rfl tg (fun _ => rfl) rfl ?_
 refine S.pureG tOk zOk rfl rfl tg (fun _ => rfl) rfl ?_
 refine S.pickOr tOk zOk rfl rfl tg ?_
 refine S.pure tOk zOk rfl rfl rfl ?_
 refine thenK_n ?_
 refine W.ret ?_
 exact ⟨_, rfl, rfl, LeV.refl _⟩
theorem pc_ver_isPart (s : List UInt8) (hs : s.length < 4294967281) :
  PureCall Tryz.prog J 210 [.one (.d (.str s))] (.one (.d (.bool (partB s)))) := by
 refine PureCall.of_body tOk (fn := Tryz.f210) Tryz.func210 (by kernel_rfl) rfl (Nat.le_of_ble_eq_true rfl) (fun E => ?_)
 refine W.seq ?_
 refine W.region ?_
 refine S.pure tOk zOk rfl rfl rfl ?_
 refine thenK_n ?_
 refine W.seq ?_
 refine W.region ?_
 refine S.pure tOk zOk rfl rfl rfl ?_
 refine thenK_n ?_
 refine W.seq ?_
 refine W.region ?_
 refine S.pure tOk zOk rfl rfl rfl ?_
 refine S.pure tOk zOk rfl rfl rfl ?_
 refine S.call rfl rfl rfl rfl rfl (pc_ver_each _ _ _ _ (by omega) (fun c => pc_ver_isPart_1 c)) ?_
 refine S.pure tOk zOk rfl rfl rfl ?_
 refine S.pureG tOk zOk rfl rfl tg (fun _ => rfl) rfl ?_
 refine S.pureG tOk zOk rfl rfl tg (fun _ => rfl) rfl ?_
 refine S.pickAnd tOk zOk rfl rfl tg ?_
 refine S.pure tOk zOk rfl rfl rfl ?_
 refine S.pureG tOk zOk rfl rfl tg (fun _ => rfl) rfl ?_
 refine S.pureG tOk zOk rfl rfl tg (fun _ => rfl) rfl ?_
 refine S.pickAnd tOk zOk rfl rfl tg ?_
 refine S.pure tOk zOk rfl rfl rfl ?_
 refine thenK_n ?_
 refine W.ret ?_
 exact ⟨_, rfl, rfl, LeV.refl _⟩
theorem pc_ver_IsPath (s : List UInt8) (hs : s.length < 4294967281) :
  PureCall Tryz.prog J 174 [.one (.d (.str s))] (.one (.d (.bool (pathB s)))) := by
 have hl := split_le s [47]
 have hm := fun i => @split_at s [47] i
 refine PureCall.of_body tOk (fn := Tryz.f174) Tryz.func174 (by kernel_rfl) rfl (Nat.le_of_ble_eq_true rfl) (fun E => ?_)
 refine W.seq ?_
 refine W.region ?_
 refine S.pure tOk zOk rfl rfl rfl ?_
 refine thenK_n ?_
 refine W.seq ?_
 refine W.seq ?_
 refine W.region ?_
 refine S.pure tOk zOk rfl rfl rfl ?_
 refine S.call rfl rfl rfl rfl rfl (pc_Split _ _ hs (by decide)) ?_
 refine S.pure tOk zOk rfl rfl rfl ?_
 refine S.pure tOk zOk rfl rfl rfl ?_
 refine thenK_n ?_
 refine W.block ?_
 refine W.loop (fun k st => ∃ i : Nat, i ≤ (Lib.split s [47]).length ∧ ((Lib.split s [47]).take i).all partB = true ∧ k = (Lib.split s [47]).length - i ∧ ∃ t b2 r2 m2, st = ⟨t, [] ++ b2, [] ++ r2, [] ++ m2⟩ ∧ holdsL t [(0, .one (.d (.str s))), (6, .one (.d (.vec 1 ((Lib.split s [47]).map fun x => [.str x])))), (7, .one (.d (.int .i64 (((Lib.split s [47]).map fun x => ([.str x] : List D)).length : Int)))), (8, .one (.d (.int .i64 (i : Int))))]) ((Lib.split s [47]).length) ⟨0, Nat.zero_le _, by simp, rfl, _, _, _, _, rfl, rfl, rfl, rfl, rfl, trivial⟩ ?_
 rintro k0 _ ⟨i, f0_0, f0_1, rfl, t0, bb0, rr0, mm0, rfl, hh0⟩
 refine W.keepR _ _ _ _ _ _ _ hh0 rfl ?_
 refine W.seq ?_
 refine W.region ?_
 refine S.pure tOk zOk rfl rfl rfl ?_
 refine thenK_n ?_
 refine W.seq ?_
 refine W.cond rfl (fun c1 => ?_) (fun c1 => ?_)
 ·skip
  have hi := row_lt c1
  refine W.skip ?_
  refine thenK_n ?_
  refine W.seq ?_
  refine W.block ?_
  refine W.seq ?_
  refine W.region ?_
  refine S.pureE tOk zOk rfl (row_ok hi) (row_at [] hi) rfl ?_
  refine S.pure tOk zOk rfl rfl rfl ?_
  refine S.pure tOk zOk rfl rfl rfl ?_
  refine thenK_n ?_
  refine W.seq ?_
  refine W.region ?_
  refine S.pure tOk zOk rfl rfl rfl ?_
  refine S.call rfl rfl rfl rfl rfl (pc_ver_isPart _ (by have := hm i; omega)) ?_
  refine S.pure tOk zOk rfl rfl rfl ?_
  refine thenK_n ?_
  refine W.cond rfl (fun c2 => ?_) (fun c2 => ?_)
  ·skip
   refine W.seq ?_
   refine W.region ?_
   refine S.pure tOk zOk rfl rfl rfl ?_
   refine thenK_n ?_
   refine W.ret ?_
   refine blockK_r ?_
   refine thenK_r ?_
   refine thenK_r ?_
   refine blockK_r ?_
   refine thenK_r ?_
   exact ⟨_, rfl, rfl, LeV.of_eq (by rw [pathB, all_false_of (d := []) hi (by simpa using c2)]; rfl)⟩
  ·skip
   refine W.skip ?_
   refine blockK_n ?_
   refine thenK_n ?_
   refine W.region ?_
   refine S.pure tOk zOk rfl rfl rfl ?_
   refine S.pure tOk zOk rfl rfl rfl ?_
   refine loop_n ((Lib.split s [47]).length - (i + 1)) (by omega) ⟨i + 1, hi, all_take_succ (d := []) hi f0_1 (by simpa using c2), rfl, _, _, _, _, rfl, rfl, rfl, rfl, inc_i64 (by omega), trivial⟩
 ·skip
  have hi := row_ge c1
  refine W.exit ?_
  refine thenK_e ?_
  refine thenK_e ?_
  refine blockK_x ?_
  refine thenK_n ?_
  refine W.seq ?_
  refine W.region ?_
  refine S.pure tOk zOk rfl rfl rfl ?_
  refine S.pure tOk zOk rfl rfl rfl ?_
  refine S.pure tOk zOk rfl rfl rfl ?_
  refine S.pure tOk zOk rfl rfl rfl ?_
  refine thenK_n ?_
  refine W.ret ?_
  exact ⟨_, rfl, rfl, LeV.of_eq (by rw [pathB, all_of_take hi f0_1]; rfl)⟩
theorem pc_ver_IsValue_1 (c : Int) :
  PureCall Tryz.prog J 237 [.one (.d (.int .u8 c))] (.one (.d (.bool (valueC c)))) := by
 refine PureCall.of_body tOk (fn := Tryz.f237) Tryz.func237 (by kernel_rfl) rfl (Nat.le_of_ble_eq_true rfl) (fun E => ?_)
 refine W.seq ?_
 refine W.region ?_
 refine S.pure tOk zOk rfl rfl rfl ?_
 refine thenK_n ?_
 refine W.seq ?_
 refine W.region ?_
 refine S.pure tOk zOk rfl rfl rfl ?_
 refine S.pure tOk zOk rfl rfl rfl ?_
 refine S.pure tOk zOk rfl rfl rfl ?_
 refine S.pureG tOk zOk rfl rfl tg (fun _ => rfl) rfl ?_
 refine S.pureG tOk zOk rfl rfl tg (fun _ => rfl) rfl ?_
 refine S.pickAnd tOk zOk rfl rfl tg ?_
 refine S.pure tOk zOk rfl rfl rfl ?_
 refine thenK_n ?_
 refine W.ret ?_
 exact ⟨_, rfl, rfl, LeV.refl _⟩
theorem pc_ver_IsValue (s : List UInt8) (hs : s.length < 4294967281) :
  PureCall Tryz.prog J 208 [.one (.d (.str s))] (.one (.d (.bool (valueB s)))) := by
 refine PureCall.of_body tOk (fn := Tryz.f208) Tryz.func208 (by kernel_rfl) rfl (Nat.le_of_ble_eq_true rfl) (fun E => ?_)
 refine W.seq ?_
 refine W.region ?_
 refine S.pure tOk zOk rfl rfl rfl ?_
 refine thenK_n ?_
 refine W.seq ?_
 refine W.region ?_
 refine S.pure tOk zOk rfl rfl rfl ?_
 refine S.pure tOk zOk rfl rfl rfl ?_
 refine S.pure tOk zOk rfl rfl rfl ?_
 refine S.pureG tOk zOk rfl rfl tg (fun _ => rfl) rfl ?_
 refine S.callG rfl rfl rfl rfl tg rfl rfl (fun _ => pc_ver_each _ _ _ _ (by omega) (fun c => pc_ver_IsValue_1 c)) ?_
 refine S.pickOr tOk zOk rfl rfl tg ?_
 refine S.pure tOk zOk rfl rfl rfl ?_
 refine thenK_n ?_
 refine W.ret ?_
 exact ⟨_, rfl, rfl, LeV.refl _⟩
theorem pc_ver_isNumeral (s : List UInt8) (hs : s.length < 4294967281) :
  PureCall Tryz.prog J 156 [.one (.d (.str s))] (.one (.d (.bool (numeralB s)))) := by
 refine PureCall.of_body tOk (fn := Tryz.f156) Tryz.func156 (by kernel_rfl) rfl (Nat.le_of_ble_eq_true rfl) (fun E => ?_)
 refine W.seq ?_
 refine W.region ?_
 refine S.pure tOk zOk rfl rfl rfl ?_
 refine thenK_n ?_
 refine W.seq ?_
 refine W.region ?_
 refine S.pure tOk zOk rfl rfl rfl ?_
 refine S.call rfl rfl rfl rfl rfl (pc_ver_each _ _ _ _ (by omega) (fun c => pc_ver_isDigit c)) ?_
 refine S.pure tOk zOk rfl rfl rfl ?_
 refine thenK_n ?_
 refine W.ret ?_
 exact ⟨_, rfl, rfl, LeV.refl _⟩
theorem pc_ver_isEarly_1 (c : Int) :
  PureCall Tryz.prog J 155 [.one (.d (.int .u8 c))] (.one (.d (.bool (earlyC c)))) := by
 refine PureCall.of_body tOk (fn := Tryz.f155) Tryz.func155 (by kernel_rfl) rfl (Nat.le_of_ble_eq_true rfl) (fun E => ?_)
 refine W.seq ?_
 refine W.region ?_
 refine S.pure tOk zOk rfl rfl rfl ?_
 refine thenK_n ?_
 refine W.seq ?_
 refine W.region ?_
 refine S.pure tOk zOk rfl rfl rfl ?_
 refine S.call rfl rfl rfl rfl rfl (pc_ver_isSmall _) ?_
 refine S.pure tOk zOk rfl rfl rfl ?_
 refine S.pureG tOk zOk rfl rfl tg (fun _ => rfl) rfl ?_
 refine S.callG rfl rfl rfl rfl tg rfl rfl (fun _ => pc_ver_isDigit _) ?_
 refine S.pickOr tOk zOk rfl rfl tg ?_
 refine S.pure tOk zOk rfl rfl rfl ?_
 refine thenK_n ?_
 refine W.ret ?_
 exact ⟨_, rfl, rfl, LeV.refl _⟩
theorem pc_ver_isEarly (s : List UInt8) (hs : s.length < 4294967281) :
  PureCall Tryz.prog J 105 [.one (.d (.str s))] (.one (.d (.bool (earlyB s)))) := by
 have hl := split_le s [46]
 have hm := fun i => @split_at s [46] i
 refine PureCall.of_body tOk (fn := Tryz.f105) Tryz.func105 (by kernel_rfl) rfl (Nat.le_of_ble_eq_true rfl) (fun E => ?_)
 refine W.seq ?_
 refine W.region ?_
 refine S.pure tOk zOk rfl rfl rfl ?_
 refine thenK_n ?_
 refine W.seq ?_
 refine W.seq ?_
 refine W.region ?_
 refine S.pure tOk zOk rfl rfl rfl ?_
 refine S.call rfl rfl rfl rfl rfl (pc_Split _ _ hs (by decide)) ?_
 refine S.pure tOk zOk rfl rfl rfl ?_
 refine S.pure tOk zOk rfl rfl rfl ?_
 refine thenK_n ?_
 refine W.block ?_
 refine W.loop (fun k st => ∃ i : Nat, i ≤ (Lib.split s [46]).length ∧ ((Lib.split s [46]).take i).all wordB = true ∧ k = (Lib.split s [46]).length - i ∧ ∃ t b2 r2 m2, st = ⟨t, [] ++ b2, [] ++ r2, [] ++ m2⟩ ∧ holdsL t [(0, .one (.d (.str s))), (6, .one (.d (.vec 1 ((Lib.split s [46]).map fun x => [.str x])))), (7, .one (.d (.int .i64 (((Lib.split s [46]).map fun x => ([.str x] : List D)).length : Int)))), (8, .one (.d (.int .i64 (i : Int))))]) ((Lib.split s [46]).length) ⟨0, Nat.zero_le _, by simp, rfl, _, _, _, _, rfl, rfl, rfl, rfl, rfl, trivial⟩ ?_
 rintro k0 _ ⟨i, f0_0, f0_1, rfl, t0, bb0, rr0, mm0, rfl, hh0⟩
 refine W.keepR _ _ _ _ _ _ _ hh0 rfl ?_
 refine W.seq ?_
 refine W.region ?_
 refine S.pure tOk zOk rfl rfl rfl ?_
 refine thenK_n ?_
 refine W.seq ?_
 refine W.cond rfl (fun c1 => ?_) (fun c1 => ?_)
 ·skip
  have hi := row_lt c1
  refine W.skip ?_
  refine thenK_n ?_
  refine W.seq ?_
  refine W.block ?_
  refine W.seq ?_
  refine W.region ?_
  refine S.pureE tOk zOk rfl (row_ok hi) (row_at [] hi) rfl ?_
  refine S.pure tOk zOk rfl rfl rfl ?_
  refine S.pure tOk zOk rfl rfl rfl ?_
  refine thenK_n ?_
  refine W.seq ?_
  refine W.region ?_
  refine S.pure tOk zOk rfl rfl rfl ?_
  refine S.call rfl rfl rfl rfl rfl (pc_ver_each _ _ _ _ (by have := hm i; omega) (fun c => pc_ver_isEarly_1 c)) ?_
  refine S.pure tOk zOk rfl rfl rfl ?_
  refine S.pure tOk zOk rfl rfl rfl ?_
  refine S.pureG tOk zOk rfl rfl tg (fun _ => rfl) rfl ?_
  refine S.callG rfl rfl rfl rfl tg rfl rfl (fun _ => pc_ver_isNumeral _ (by have := hm i; omega)) ?_
  refine S.pureG tOk zOk rfl rfl tg (fun _ => rfl) rfl ?_
  refine S.pureG tOk zOk rfl rfl tg (fun _ => rfl) rfl ?_
  refine S.pureG tOk zOk rfl rfl tg (fun h => idx_ok (Int.le_refl _) (eachB_pos (andr h))) rfl ?_
  refine S.pureG tOk zOk rfl rfl tg (fun _ => rfl) rfl ?_
  refine S.pickAndG tOk zOk rfl rfl rfl tg tg ?_
  refine S.pureG tOk zOk rfl rfl tg (fun _ => rfl) rfl ?_
  refine S.pureG tOk zOk rfl rfl tg (fun _ => rfl) rfl ?_
  refine S.pureG tOk zOk rfl rfl tg (fun _ => rfl) rfl ?_
  refine S.pickAndG tOk zOk rfl rfl rfl tg tg ?_
  refine S.pickOr tOk zOk rfl rfl tg ?_
  refine thenK_n ?_
  refine W.cond rfl (fun c2 => ?_) (fun c2 => ?_)
  ·skip
   refine W.seq ?_
   refine W.region ?_
   refine S.pure tOk zOk rfl rfl rfl ?_
   refine thenK_n ?_
   refine W.ret ?_
   refine blockK_r ?_
   refine thenK_r ?_
   refine thenK_r ?_
   refine blockK_r ?_
   refine thenK_r ?_
   exact ⟨_, rfl, rfl, LeV.of_eq (by rw [earlyB, all_false_of (d := []) hi (word_f c2)]; rfl)⟩
  ·skip
   refine W.skip ?_
   refine blockK_n ?_
   refine thenK_n ?_
   refine W.region ?_
   refine S.pure tOk zOk rfl rfl rfl ?_
   refine S.pure tOk zOk rfl rfl rfl ?_
   refine loop_n ((Lib.split s [46]).length - (i + 1)) (by omega) ⟨i + 1, hi, all_take_succ (d := []) hi f0_1 (word_t c2), rfl, _, _, _, _, rfl, rfl, rfl, rfl, inc_i64 (by omega), trivial⟩
 ·skip
  have hi := row_ge c1
  refine W.exit ?_
  refine thenK_e ?_
  refine thenK_e ?_
  refine blockK_x ?_
  refine thenK_n ?_
  refine W.seq ?_
  refine W.region ?_
  refine S.pure tOk zOk rfl rfl rfl ?_
  refine S.pure tOk zOk rfl rfl rfl ?_
  refine S.pure tOk zOk rfl rfl rfl ?_
  refine S.pure tOk zOk rfl rfl rfl ?_
  refine thenK_n ?_
  refine W.ret ?_
  exact ⟨_, rfl, rfl, LeV.of_eq (by rw [earlyB, all_of_take hi f0_1]; rfl)⟩
end Go.Proofs.YtlkhdembbogcaaaGreatDoor

/- Plain words on versions: reading, texts, order, the next one. -/
set_option linter.unusedVariables false
set_option linter.unusedSimpArgs false
namespace Go.Proofs.YtlkhdembbogcaaaGreatDoor
open Go
structure Ver where
  a : Int
  b : Int
  c : Int
  e : List UInt8
  deriving DecidableEq
def Ver.z : Ver := ⟨0, 0, 0, []⟩
def Ver.check (v : Ver) : Int := checkB v.a v.b v.c v.e
/-- The numbers are numbers of an int. -/
def VerOk (v : Ver) : Prop := -9223372036854775808 ≤ v.a ∧ v.a ≤ 9223372036854775807 ∧ -9223372036854775808 ≤ v.b ∧ v.b ≤ 9223372036854775807 ∧ -9223372036854775808 ≤ v.c ∧ v.c ≤ 9223372036854775807
def w1 (x : Int) : Int := IntKind.i64.wrap (x + 1)
def numB (s : List UInt8) : Int × Bool := if !eachB isDigit s 9 || (bI (s.getD 0 0) == 48 && !(s == [48])) then (0, false) else (atoiV s, atoiOk s)
def threeB (e p q r : List UInt8) : Ver × Int :=
  if !(numB p).2 then (Ver.z, 8) else if !(numB q).2 then (Ver.z, 8) else if !(numB r).2 then (Ver.z, 8) else
  if checkB (numB p).1 (numB q).1 (numB r).1 e != 0 then (Ver.z, checkB (numB p).1 (numB q).1 (numB r).1 e) else (⟨(numB p).1, (numB q).1, (numB r).1, e⟩, 0)
def parseW (e : List UInt8) (is : Bool) (ws : List (List UInt8)) : Ver × Int :=
  if !((ws.length : Int) == 3) || (is && e == []) then (Ver.z, 8) else match ws with
    | [p, q, r] => threeB e p q r
    | _ => (Ver.z, 8)
theorem parse_ok {e : List UInt8} {is : Bool} {p q r : List UInt8} (h : (!(([p, q, r].length : Int) == 3) || (is && e == [])) = false) : parseW e is [p, q, r] = threeB e p q r := if_neg (Bool.eq_false_iff.1 h)
def parseB (s : List UInt8) : Ver × Int := parseW (Lib.cut s [45]).2.1 (Lib.cut s [45]).2.2 (Lib.split (Lib.cut s [45]).1 [46])
def cwB (a b : List UInt8) : Int :=
  if numeralB a && numeralB b then (if !((a.length : Int) == (b.length : Int)) then Lib.compareInt a.length b.length else Lib.compareBytes a b)
  else if numeralB a then -1 else if numeralB b then 1 else Lib.compareBytes a b
def rowsB (xs ys : List (List UInt8)) : Int := if firstNe (List.zipWith cwB xs ys) != 0 then firstNe (List.zipWith cwB xs ys) else Lib.compareInt xs.length ys.length
def ceB (a b : List UInt8) : Int := if a == b then 0 else if a == [] then 1 else if b == [] then -1 else rowsB (Lib.split a [46]) (Lib.split b [46])
def orderB (v w : Ver) : Int := firstNe [Lib.compareInt v.a w.a, Lib.compareInt v.b w.b, Lib.compareInt v.c w.c, ceB v.e w.e]
def nextOk (x y z : Int) : Ver × Int := if checkB x y z [] != 0 then (Ver.z, 3) else (⟨x, y, z, []⟩, 0)
def nextB (v : Ver) (p : Int) : Ver × Int :=
  if v.check != 0 then (Ver.z, v.check) else
  if p == 0 then nextOk (w1 v.a) 0 0 else if p == 1 then nextOk v.a (w1 v.b) 0 else if p == 2 && v.e == [] then nextOk v.a v.b (w1 v.c) else if !(p == 2) then (Ver.z, 3) else nextOk v.a v.b v.c
def printB (v : Ver) : List UInt8 × Int := if v.check != 0 then ([], v.check) else (textB v.a v.b v.c v.e, 0)
theorem min_lt {α β : Type} {xs : List α} {ys : List β} {i : Nat} {x y : Int} (hx : x = (xs.length : Int)) (hy : y = (ys.length : Int)) (h : decide ((i : Int) < if y < x then y else x) = true) : i < xs.length ∧ i < ys.length := by
  subst hx; subst hy
  simp only [decide_eq_true_eq] at h
  split at h <;> omega
theorem min_ge {α β : Type} {xs : List α} {ys : List β} {i : Nat} {x y : Int} (hx : x = (xs.length : Int)) (hy : y = (ys.length : Int)) (h : decide ((i : Int) < if y < x then y else x) = false) : xs.length ≤ i ∨ ys.length ≤ i := by
  subst hx; subst hy
  simp only [decide_eq_false_iff_not] at h
  split at h <;> omega
theorem cut_le (s sep : List UInt8) : (Lib.cut s sep).1.length ≤ s.length ∧ (Lib.cut s sep).2.1.length ≤ s.length := by
  unfold Lib.cut
  split
  · simp; omega
  · simp
end Go.Proofs.YtlkhdembbogcaaaGreatDoor

/- Versions as values. -/
set_option linter.unusedVariables false
namespace Go.Proofs.YtlkhdembbogcaaaGreatDoor
open Go Go.RowKit
def verV (v : Ver) : V := .agg [.d (.int .i64 v.a), .d (.int .i64 v.b), .d (.int .i64 v.c), .d (.str v.e)]
def verD (v : Ver) : List D := [.int .i64 v.a, .int .i64 v.b, .int .i64 v.c, .str v.e]
end Go.Proofs.YtlkhdembbogcaaaGreatDoor

set_option linter.unusedVariables false
set_option linter.unusedSimpArgs false
set_option maxRecDepth 100000
set_option maxHeartbeats 4000000
namespace Go.Proofs.YtlkhdembbogcaaaGreatDoor
open Go
open Go.RowKit
theorem pc_ver_Check (v : Ver) (he : v.e.length < 4294967281) :
  PureCall Tryz.prog J 54 [verV v] (.one (.d (.int .i64 v.check))) := by
 refine PureCall.of_body tOk (fn := Tryz.f54) Tryz.func54 (by kernel_rfl) rfl (Nat.le_of_ble_eq_true rfl) (fun E => ?_)
 refine W.seq ?_
 refine W.region ?_
 refine S.box rfl rfl rfl rfl ?_
 refine S.pure tOk zOk rfl rfl rfl ?_
 refine thenK_n ?_
 refine W.seq ?_
 refine W.seq ?_
 refine W.region ?_
 refine S.pure tOk zOk rfl rfl rfl ?_
 refine S.pure tOk zOk rfl rfl rfl ?_
 refine S.pure tOk zOk rfl rfl rfl ?_
 refine S.pure tOk zOk rfl rfl rfl ?_
 refine S.pure tOk zOk rfl rfl rfl ?_
 refine S.pure tOk zOk rfl rfl rfl ?_
 refine S.pure tOk zOk rfl rfl rfl ?_
 refine S.pure tOk zOk rfl rfl rfl ?_
 refine thenK_n ?_
 refine W.block ?_
 refine W.rounds 4 ?_
 refine WR.succ ?_
 refine W.seq ?_
 refine W.region ?_
 refine S.pure tOk zOk rfl rfl rfl ?_
 refine thenK_n ?_
 refine W.seq ?_
 refine W.condT rfl rfl ?_
 refine W.skip ?_
 refine thenK_n ?_
 refine W.seq ?_
 refine W.block ?_
 refine W.seq ?_
 refine W.region ?_
 refine S.pure tOk zOk rfl (by first | rfl | exact idx_ok (by omega) (by omega)) rfl ?_
 refine S.pure tOk zOk rfl rfl rfl ?_
 refine thenK_n ?_
 refine W.seq ?_
 refine W.region ?_
 refine S.pure tOk zOk rfl rfl rfl ?_
 refine S.call rfl rfl rfl rfl rfl (pc_ver_outside _ _ _) ?_
 refine thenK_n ?_
 refine W.cond rfl (fun c2 => ?_) (fun c2 => ?_)
 ·skip
  refine W.seq ?_
  refine W.region ?_
  refine S.pure tOk zOk rfl rfl rfl ?_
  refine thenK_n ?_
  refine W.ret ?_
  refine blockK_r ?_
  refine thenK_r ?_
  refine thenK_r ?_
  refine blockK_r ?_
  refine thenK_r ?_
  exact ⟨_, rfl, rfl, LeV.of_force rfl (by simp_all [Ver.check, checkB, outsideN])⟩
 ·skip
  refine W.skip ?_
  refine blockK_n ?_
  refine thenK_n ?_
  refine W.region ?_
  refine S.pure tOk zOk rfl rfl rfl ?_
  refine S.pure tOk zOk rfl rfl rfl ?_
  refine thenK_n ?_
  refine WR.succ ?_
  refine W.seq ?_
  refine W.region ?_
  refine S.pure tOk zOk rfl rfl rfl ?_
  refine thenK_n ?_
  refine W.seq ?_
  refine W.condT rfl rfl ?_
  refine W.skip ?_
  refine thenK_n ?_
  refine W.seq ?_
  refine W.block ?_
  refine W.seq ?_
  refine W.region ?_
  refine S.pure tOk zOk rfl (by first | rfl | exact idx_ok (by omega) (by omega)) rfl ?_
  refine S.pure tOk zOk rfl rfl rfl ?_
  refine thenK_n ?_
  refine W.seq ?_
  refine W.region ?_
  refine S.pure tOk zOk rfl rfl rfl ?_
  refine S.call rfl rfl rfl rfl rfl (pc_ver_outside _ _ _) ?_
  refine thenK_n ?_
  refine W.cond rfl (fun c4 => ?_) (fun c4 => ?_)
  ·skip
   refine W.seq ?_
   refine W.region ?_
   refine S.pure tOk zOk rfl rfl rfl ?_
   refine thenK_n ?_
   refine W.ret ?_
   refine blockK_r ?_
   refine thenK_r ?_
   refine thenK_r ?_
   refine blockK_r ?_
   refine thenK_r ?_
   exact ⟨_, rfl, rfl, LeV.of_force rfl (by simp_all [Ver.check, checkB, outsideN])⟩
  ·skip
   refine W.skip ?_
   refine blockK_n ?_
   refine thenK_n ?_
   refine W.region ?_
   refine S.pure tOk zOk rfl rfl rfl ?_
   refine S.pure tOk zOk rfl rfl rfl ?_
   refine thenK_n ?_
   refine WR.succ ?_
   refine W.seq ?_
   refine W.region ?_
   refine S.pure tOk zOk rfl rfl rfl ?_
   refine thenK_n ?_
   refine W.seq ?_
   refine W.condT rfl rfl ?_
   refine W.skip ?_
   refine thenK_n ?_
   refine W.seq ?_
   refine W.block ?_
   refine W.seq ?_
   refine W.region ?_
   refine S.pure tOk zOk rfl (by first | rfl | exact idx_ok (by omega) (by omega)) rfl ?_
   refine S.pure tOk zOk rfl rfl rfl ?_
   refine thenK_n ?_
   refine W.seq ?_
   refine W.region ?_
   refine S.pure tOk zOk rfl rfl rfl ?_
   refine S.call rfl rfl rfl rfl rfl (pc_ver_outside _ _ _) ?_
   refine thenK_n ?_
   refine W.cond rfl (fun c6 => ?_) (fun c6 => ?_)
   ·skip
    refine W.seq ?_
    refine W.region ?_
    refine S.pure tOk zOk rfl rfl rfl ?_
    refine thenK_n ?_
    refine W.ret ?_
    refine blockK_r ?_
    refine thenK_r ?_
    refine thenK_r ?_
    refine blockK_r ?_
    refine thenK_r ?_
    exact ⟨_, rfl, rfl, LeV.of_force rfl (by simp_all [Ver.check, checkB, outsideN])⟩
   ·skip
    refine W.skip ?_
    refine blockK_n ?_
    refine thenK_n ?_
    refine W.region ?_
    refine S.pure tOk zOk rfl rfl rfl ?_
    refine S.pure tOk zOk rfl rfl rfl ?_
    refine thenK_n ?_
    refine WR.succ ?_
    refine W.seq ?_
    refine W.region ?_
    refine S.pure tOk zOk rfl rfl rfl ?_
    refine thenK_n ?_
    refine W.seq ?_
    refine W.condF rfl rfl ?_
    refine W.exit ?_
    refine thenK_e ?_
    refine thenK_e ?_
    refine blockK_x ?_
    refine thenK_n ?_
    refine W.seq ?_
    refine W.seq ?_
    refine W.region ?_
    refine S.pure tOk zOk rfl rfl rfl ?_
    refine S.pure tOk zOk rfl rfl rfl ?_
    refine S.pure tOk zOk rfl rfl rfl ?_
    refine S.pure tOk zOk rfl rfl rfl ?_
    refine S.pureG tOk zOk rfl rfl tg (fun _ => rfl) rfl ?_
    refine S.pureG tOk zOk rfl rfl tg (fun _ => rfl) rfl ?_
    refine S.callG rfl rfl rfl rfl tg rfl rfl (fun _ => pc_ver_isEarly _ (by omega)) ?_
    refine S.pureG tOk zOk rfl rfl tg (fun _ => rfl) rfl ?_
    refine S.pickAnd tOk zOk rfl rfl tg ?_
    refine thenK_n ?_
    refine W.cond rfl (fun c8 => ?_) (fun c8 => ?_)
    ·skip
     refine W.seq ?_
     refine W.region ?_
     refine S.pure tOk zOk rfl rfl rfl ?_
     refine thenK_n ?_
     refine W.ret ?_
     refine thenK_r ?_
     exact ⟨_, rfl, rfl, LeV.of_force rfl (by simp_all [Ver.check, checkB, outsideN])⟩
    ·skip
     refine W.skip ?_
     refine thenK_n ?_
     refine W.seq ?_
     refine W.region ?_
     refine S.pure tOk zOk rfl rfl rfl ?_
     refine thenK_n ?_
     refine W.ret ?_
     exact ⟨_, rfl, rfl, LeV.of_force rfl (by simp_all [Ver.check, checkB, outsideN])⟩
theorem pc_ver_text (v : Ver) (he : v.e.length < 4294967281) (ho : VerOk v) :
  PureCall Tryz.prog J 157 [verV v] (.one (.d (.str (textB v.a v.b v.c v.e)))) := by
 have h1 := Lib.itoa_length_le v.a ho.1 ho.2.1
 have h2 := Lib.itoa_length_le v.b ho.2.2.1 ho.2.2.2.1
 have h3 := Lib.itoa_length_le v.c ho.2.2.2.2.1 ho.2.2.2.2.2
 refine PureCall.of_body tOk (fn := Tryz.f157) Tryz.func157 (by kernel_rfl) rfl (Nat.le_of_ble_eq_true rfl) (fun E => ?_)
 refine W.seq ?_
 refine W.region ?_
 refine S.box rfl rfl rfl rfl ?_
 refine S.pure tOk zOk rfl rfl rfl ?_
 refine thenK_n ?_
 refine W.seq ?_
 refine W.regionD mixed (by kernel_rfl) ?_
 refine D.pure tOk zOk rfl rfl rfl rfl ?_
 refine D.pure tOk zOk rfl rfl rfl rfl ?_
 refine D.call rfl rfl rfl rfl rfl (pc_Itoa _ ho.1 ho.2.1) ?_
 refine D.pure tOk zOk rfl rfl (cat_ok (by simp [-List.getD_eq_getElem?_getD]; omega)) rfl ?_
 refine D.pure tOk zOk rfl rfl rfl rfl ?_
 refine D.pure tOk zOk rfl rfl rfl rfl ?_
 refine D.call rfl rfl rfl rfl rfl (pc_Itoa _ ho.2.2.1 ho.2.2.2.1) ?_
 refine D.pure tOk zOk rfl rfl (cat_ok (by simp [-List.getD_eq_getElem?_getD]; omega)) rfl ?_
 refine D.pure tOk zOk rfl rfl (cat_ok (by simp [-List.getD_eq_getElem?_getD]; omega)) rfl ?_
 refine D.pure tOk zOk rfl rfl rfl rfl ?_
 refine D.pure tOk zOk rfl rfl rfl rfl ?_
 refine D.call rfl rfl rfl rfl rfl (pc_Itoa _ ho.2.2.2.2.1 ho.2.2.2.2.2) ?_
 refine D.pure tOk zOk rfl rfl (cat_ok (by simp [-List.getD_eq_getElem?_getD]; omega)) rfl ?_
 refine D.pure tOk zOk rfl rfl rfl rfl ?_
 refine thenK_n ?_
 refine W.seq ?_
 refine W.seq ?_
 refine W.region ?_
 refine S.pure tOk zOk rfl rfl rfl ?_
 refine S.pure tOk zOk rfl rfl rfl ?_
 refine S.pure tOk zOk rfl rfl rfl ?_
 refine thenK_n ?_
 refine W.cond rfl (fun c1 => ?_) (fun c1 => ?_)
 ·skip
  refine W.region ?_
  refine S.pure tOk zOk rfl rfl rfl ?_
  refine S.pure tOk zOk rfl rfl rfl ?_
  refine S.pure tOk zOk rfl rfl rfl ?_
  refine S.pure tOk zOk rfl (cat_ok (by simp [-List.getD_eq_getElem?_getD]; omega)) rfl ?_
  refine S.pure tOk zOk rfl (cat_ok (by simp [-List.getD_eq_getElem?_getD]; omega)) rfl ?_
  refine S.pure tOk zOk rfl rfl rfl ?_
  refine thenK_n ?_
  refine W.seq ?_
  refine W.region ?_
  refine S.pure tOk zOk rfl rfl rfl ?_
  refine S.pure tOk zOk rfl rfl rfl ?_
  refine thenK_n ?_
  refine W.ret ?_
  exact ⟨_, rfl, rfl, LeV.of_force rfl (by simp_all [textB])⟩
 ·skip
  refine W.skip ?_
  refine thenK_n ?_
  refine W.seq ?_
  refine W.region ?_
  refine S.pure tOk zOk rfl rfl rfl ?_
  refine S.pure tOk zOk rfl rfl rfl ?_
  refine thenK_n ?_
  refine W.ret ?_
  exact ⟨_, rfl, rfl, LeV.of_force rfl (by simp_all [textB])⟩
theorem pc_ver_Print (v : Ver) (he : v.e.length < 4294967281) (ho : VerOk v) :
  PureCall Tryz.prog J 106 [verV v] (.tup [.one (.d (.str (printB v).1)), .one (.d (.int .i64 (printB v).2))]) := by
 refine PureCall.of_body tOk (fn := Tryz.f106) Tryz.func106 (by kernel_rfl) rfl (Nat.le_of_ble_eq_true rfl) (fun E => ?_)
 refine W.seq ?_
 refine W.region ?_
 refine S.box rfl rfl rfl rfl ?_
 refine S.pure tOk zOk rfl rfl rfl ?_
 refine S.pure tOk zOk rfl rfl rfl ?_
 refine thenK_n ?_
 refine W.seq ?_
 refine W.seq ?_
 refine W.region ?_
 refine S.pure tOk zOk rfl rfl rfl ?_
 refine S.call rfl rfl rfl rfl rfl (pc_ver_Check _ he) ?_
 refine S.pure tOk zOk rfl rfl rfl ?_
 refine thenK_n ?_
 refine W.seq ?_
 refine W.region ?_
 refine S.pure tOk zOk rfl rfl rfl ?_
 refine S.pure tOk zOk rfl rfl rfl ?_
 refine thenK_n ?_
 refine W.cond rfl (fun c1 => ?_) (fun c1 => ?_)
 ·skip
  refine W.seq ?_
  refine W.region ?_
  refine S.pure tOk zOk rfl rfl rfl ?_
  refine S.pure tOk zOk rfl rfl rfl ?_
  refine S.pure tOk zOk rfl rfl rfl ?_
  refine thenK_n ?_
  refine W.ret ?_
  refine thenK_r ?_
  exact ⟨_, rfl, rfl, LeV.of_force rfl (by simp_all [printB])⟩
 ·skip
  refine W.skip ?_
  refine thenK_n ?_
  refine W.seq ?_
  refine W.region ?_
  refine S.pure tOk zOk rfl rfl rfl ?_
  refine S.call rfl rfl rfl rfl rfl (pc_ver_text _ he ho) ?_
  refine S.pure tOk zOk rfl rfl rfl ?_
  refine S.pure tOk zOk rfl rfl rfl ?_
  refine thenK_n ?_
  refine W.ret ?_
  exact ⟨_, rfl, rfl, LeV.of_force rfl (by simp_all [printB])⟩
theorem pc_ver_number (s : List UInt8) (hs : s.length < 4294967281) :
  PureCall Tryz.prog J 242 [.one (.d (.str s))] (.tup [.one (.d (.int .i64 (numB s).1)), .one (.d (.bool (numB s).2))]) := by
 refine PureCall.of_body tOk (fn := Tryz.f242) Tryz.func242 (by kernel_rfl) rfl (Nat.le_of_ble_eq_true rfl) (fun E => ?_)
 refine W.seq ?_
 refine W.region ?_
 refine S.pure tOk zOk rfl rfl rfl ?_
 refine S.pure tOk zOk rfl rfl rfl ?_
 refine thenK_n ?_
 refine W.seq ?_
 refine W.seq ?_
 refine W.region ?_
 refine S.pure tOk zOk rfl rfl rfl ?_
 refine S.call rfl rfl rfl rfl rfl (pc_ver_each _ _ _ _ (by omega) (fun c => pc_ver_isDigit c)) ?_
 refine S.pure tOk zOk rfl rfl rfl ?_
 refine S.pure tOk zOk rfl rfl rfl ?_
 refine S.pureG tOk zOk rfl rfl tg (fun _ => rfl) rfl ?_
 refine S.pureG tOk zOk rfl rfl tg (fun h => idx_ok (Int.le_refl _) (eachB_pos (by simpa using h))) rfl ?_
 refine S.pureG tOk zOk rfl rfl tg (fun _ => rfl) rfl ?_
 refine S.pureG tOk zOk rfl rfl tg (fun _ => rfl) rfl ?_
 refine S.pureG tOk zOk rfl rfl tg (fun _ => rfl) rfl ?_
 refine S.pureG tOk zOk rfl rfl tg (fun _ => rfl) rfl ?_
 refine S.pickAndG tOk zOk rfl rfl rfl tg tg ?_
 refine S.pickOr tOk zOk rfl rfl tg ?_
 refine thenK_n ?_
 refine W.cond rfl (fun c1 => ?_) (fun c1 => ?_)
 ·skip
  refine W.seq ?_
  refine W.region ?_
  refine S.pure tOk zOk rfl rfl rfl ?_
  refine S.pure tOk zOk rfl rfl rfl ?_
  refine thenK_n ?_
  refine W.ret ?_
  refine thenK_r ?_
  exact ⟨_, rfl, rfl, LeV.of_force rfl (by rw [show numB s = (0, false) from if_pos c1]; rfl)⟩
 ·skip
  refine W.skip ?_
  refine thenK_n ?_
  refine W.seq ?_
  refine W.region ?_
  refine S.pure tOk zOk rfl rfl rfl ?_
  refine S.call rfl rfl rfl rfl rfl (pc_Atoi _ (by omega)) ?_
  refine S.pure tOk zOk rfl rfl rfl ?_
  refine S.pure tOk zOk rfl rfl rfl ?_
  refine S.pure tOk zOk rfl rfl rfl ?_
  refine S.pure tOk zOk rfl rfl rfl ?_
  refine S.pure tOk zOk rfl rfl rfl ?_
  refine thenK_n ?_
  refine W.seq ?_
  refine W.regionD mixed (by kernel_rfl) ?_
  refine D.pure tOk zOk rfl rfl rfl rfl ?_
  refine D.pure tOk zOk rfl rfl rfl rfl ?_
  refine D.pure tOk zOk rfl rfl rfl rfl ?_
  refine D.pure tOk zOk rfl rfl rfl rfl ?_
  refine D.pure tOk zOk rfl rfl rfl rfl ?_
  refine thenK_n ?_
  refine W.ret ?_
  exact ⟨_, rfl, rfl, LeV.of_force rfl (by rw [show numB s = (atoiV s, atoiOk s) from if_neg (Bool.eq_false_iff.1 c1)])⟩
theorem pc_cmp_Or_int_ (xs : List Int) (hl : xs.length ≤ 1000000) :
  PureCall Tryz.prog J 44 [.one (.d (.vec 1 (xs.map fun x => [.int .i64 x])))] (.one (.d (.int .i64 (firstNe xs)))) := by
 refine PureCall.of_body tOk (fn := Tryz.f44) Tryz.func44 (by kernel_rfl) rfl (Nat.le_of_ble_eq_true rfl) (fun E => ?_)
 refine W.seq ?_
 refine W.region ?_
 refine S.pure tOk zOk rfl rfl rfl ?_
 refine thenK_n ?_
 refine W.seq ?_
 refine W.region ?_
 refine S.pure tOk zOk rfl rfl rfl ?_
 refine thenK_n ?_
 refine W.seq ?_
 refine W.seq ?_
 refine W.region ?_
 refine S.pure tOk zOk rfl rfl rfl ?_
 refine S.pure tOk zOk rfl rfl rfl ?_
 refine S.pure tOk zOk rfl rfl rfl ?_
 refine thenK_n ?_
 refine W.block ?_
 refine W.loop (fun k st => ∃ i : Nat, i ≤ xs.length ∧ (xs.take i).all (· == 0) = true ∧ k = xs.length - i ∧ ∃ t b2 r2 m2, st = ⟨t, [] ++ b2, [] ++ r2, [] ++ m2⟩ ∧ holdsL t [(3, .one (.d (.int .i64 0))), (6, .one (.d (.vec 1 (xs.map fun x => [.int .i64 x])))), (7, .one (.d (.int .i64 ((xs.map fun x => ([.int .i64 x] : List D)).length : Int)))), (8, .one (.d (.int .i64 (i : Int))))]) (xs.length) ⟨0, Nat.zero_le _, by simp, rfl, _, _, _, _, rfl, rfl, rfl, rfl, rfl, trivial⟩ ?_
 rintro k0 _ ⟨i, f0_0, f0_1, rfl, t0, bb0, rr0, mm0, rfl, hh0⟩
 refine W.keepR _ _ _ _ _ _ _ hh0 rfl ?_
 refine W.seq ?_
 refine W.region ?_
 refine S.pure tOk zOk rfl rfl rfl ?_
 refine thenK_n ?_
 refine W.seq ?_
 refine W.cond rfl (fun c1 => ?_) (fun c1 => ?_)
 ·skip
  have hi := row_lt c1
  refine W.skip ?_
  refine thenK_n ?_
  refine W.seq ?_
  refine W.block ?_
  refine W.seq ?_
  refine W.region ?_
  refine S.pureE tOk zOk rfl (row_ok hi) (row_at 0 hi) rfl ?_
  refine S.pure tOk zOk rfl rfl rfl ?_
  refine S.pure tOk zOk rfl rfl rfl ?_
  refine thenK_n ?_
  refine W.seq ?_
  refine W.region ?_
  refine S.pure tOk zOk rfl rfl rfl ?_
  refine S.pure tOk zOk rfl rfl rfl ?_
  refine S.pure tOk zOk rfl rfl rfl ?_
  refine thenK_n ?_
  refine W.cond rfl (fun c2 => ?_) (fun c2 => ?_)
  ·skip
   refine W.seq ?_
   refine W.region ?_
   refine S.pure tOk zOk rfl rfl rfl ?_
   refine S.pure tOk zOk rfl rfl rfl ?_
   refine thenK_n ?_
   refine W.ret ?_
   refine blockK_r ?_
   refine thenK_r ?_
   refine thenK_r ?_
   refine blockK_r ?_
   refine thenK_r ?_
   exact ⟨_, rfl, rfl, LeV.of_force rfl (by rw [firstNe_hit hi f0_1 (by simpa using c2)])⟩
  ·skip
   refine W.skip ?_
   refine blockK_n ?_
   refine thenK_n ?_
   refine W.region ?_
   refine S.pure tOk zOk rfl rfl rfl ?_
   refine S.pure tOk zOk rfl rfl rfl ?_
   refine loop_n (xs.length - (i + 1)) (by omega) ⟨i + 1, hi, all_take_succ (d := 0) hi f0_1 (by simpa using c2), rfl, _, _, _, _, rfl, rfl, rfl, rfl, inc_i64 (by omega), trivial⟩
 ·skip
  have hi := row_ge c1
  refine W.exit ?_
  refine thenK_e ?_
  refine thenK_e ?_
  refine blockK_x ?_
  refine thenK_n ?_
  refine W.seq ?_
  refine W.region ?_
  refine S.pure tOk zOk rfl rfl rfl ?_
  refine S.pure tOk zOk rfl rfl rfl ?_
  refine thenK_n ?_
  refine W.ret ?_
  exact ⟨_, rfl, rfl, LeV.of_force rfl (by rw [firstNe_none hi f0_1])⟩
theorem pc_ver_compareWords (a b : List UInt8) (ha : a.length < 4294967281) (hb : b.length < 4294967281) :
  PureCall Tryz.prog J 187 [.one (.d (.str a)), .one (.d (.str b))] (.one (.d (.int .i64 (cwB a b)))) := by
 refine PureCall.of_body tOk (fn := Tryz.f187) Tryz.func187 (by kernel_rfl) rfl (Nat.le_of_ble_eq_true rfl) (fun E => ?_)
 refine W.seq ?_
 refine W.region ?_
 refine S.pure tOk zOk rfl rfl rfl ?_
 refine thenK_n ?_
 refine W.seq ?_
 refine W.region ?_
 refine S.pure tOk zOk rfl rfl rfl ?_
 refine S.call rfl rfl rfl rfl rfl (pc_ver_isNumeral _ (by omega)) ?_
 refine S.pure tOk zOk rfl rfl rfl ?_
 refine S.call rfl rfl rfl rfl rfl (pc_ver_isNumeral _ (by omega)) ?_
 refine S.pure tOk zOk rfl rfl rfl ?_
 refine S.pure tOk zOk rfl rfl rfl ?_
 refine thenK_n ?_
 refine W.seq ?_
 refine W.block ?_
 refine W.seq ?_
 refine W.region ?_
 refine S.pure tOk zOk rfl rfl rfl ?_
 refine S.pure tOk zOk rfl rfl rfl ?_
 refine S.pureG tOk zOk rfl rfl tg (fun _ => rfl) rfl ?_
 refine S.pickAnd tOk zOk rfl rfl tg ?_
 refine S.pure tOk zOk rfl rfl rfl ?_
 refine thenK_n ?_
 refine W.cond rfl (fun c1 => ?_) (fun c1 => ?_)
 ·skip
  refine W.seq ?_
  refine W.region ?_
  refine S.pure tOk zOk rfl rfl rfl ?_
  refine S.pure tOk zOk rfl rfl rfl ?_
  refine S.pure tOk zOk rfl rfl rfl ?_
  refine S.pure tOk zOk rfl rfl rfl ?_
  refine S.pure tOk zOk rfl rfl rfl ?_
  refine thenK_n ?_
  refine W.cond rfl (fun c2 => ?_) (fun c2 => ?_)
  ·skip
   refine W.seq ?_
   refine W.region ?_
   refine S.pure tOk zOk rfl rfl rfl ?_
   refine S.pure tOk zOk rfl rfl rfl ?_
   refine S.pure tOk zOk rfl rfl rfl ?_
   refine S.pure tOk zOk rfl rfl rfl ?_
   refine S.call rfl rfl rfl rfl rfl (pc_cmpInt _ _) ?_
   refine S.pure tOk zOk rfl rfl rfl ?_
   refine thenK_n ?_
   refine W.ret ?_
   refine blockK_r ?_
   refine thenK_r ?_
   exact ⟨_, rfl, rfl, LeV.of_force rfl (by simp_all [cwB])⟩
  ·skip
   refine W.skip ?_
   refine blockK_n ?_
   refine thenK_n ?_
   refine W.seq ?_
   refine W.region ?_
   refine S.pure tOk zOk rfl rfl rfl ?_
   refine S.pure tOk zOk rfl rfl rfl ?_
   refine S.call rfl rfl rfl rfl rfl (pc_Compare _ _) ?_
   refine S.pure tOk zOk rfl rfl rfl ?_
   refine thenK_n ?_
   refine W.ret ?_
   exact ⟨_, rfl, rfl, LeV.of_force rfl (by simp_all [cwB])⟩
 ·skip
  refine W.seq ?_
  refine W.region ?_
  refine S.pure tOk zOk rfl rfl rfl ?_
  refine S.pure tOk zOk rfl rfl rfl ?_
  refine thenK_n ?_
  refine W.cond rfl (fun c3 => ?_) (fun c3 => ?_)
  ·skip
   refine W.seq ?_
   refine W.region ?_
   refine S.pure tOk zOk rfl rfl rfl ?_
   refine thenK_n ?_
   refine W.ret ?_
   refine blockK_r ?_
   refine thenK_r ?_
   exact ⟨_, rfl, rfl, LeV.of_force rfl (by simp_all [cwB])⟩
  ·skip
   refine W.seq ?_
   refine W.region ?_
   refine S.pure tOk zOk rfl rfl rfl ?_
   refine S.pure tOk zOk rfl rfl rfl ?_
   refine thenK_n ?_
   refine W.cond rfl (fun c4 => ?_) (fun c4 => ?_)
   ·skip
    refine W.seq ?_
    refine W.region ?_
    refine S.pure tOk zOk rfl rfl rfl ?_
    refine thenK_n ?_
    refine W.ret ?_
    refine blockK_r ?_
    refine thenK_r ?_
    exact ⟨_, rfl, rfl, LeV.of_force rfl (by simp_all [cwB])⟩
   ·skip
    refine W.skip ?_
    refine blockK_n ?_
    refine thenK_n ?_
    refine W.seq ?_
    refine W.region ?_
    refine S.pure tOk zOk rfl rfl rfl ?_
    refine S.pure tOk zOk rfl rfl rfl ?_
    refine S.call rfl rfl rfl rfl rfl (pc_Compare _ _) ?_
    refine S.pure tOk zOk rfl rfl rfl ?_
    refine thenK_n ?_
    refine W.ret ?_
    exact ⟨_, rfl, rfl, LeV.of_force rfl (by simp_all [cwB])⟩
theorem pc_ver_compareEarly (a b : List UInt8) (ha : a.length < 4294967281) (hb : b.length < 4294967281) :
  PureCall Tryz.prog J 136 [.one (.d (.str a)), .one (.d (.str b))] (.one (.d (.int .i64 (ceB a b)))) := by
 have hl := split_le a [46]
 have hl2 := split_le b [46]
 refine PureCall.of_body tOk (fn := Tryz.f136) Tryz.func136 (by kernel_rfl) rfl (Nat.le_of_ble_eq_true rfl) (fun E => ?_)
 refine W.seq ?_
 refine W.region ?_
 refine S.pure tOk zOk rfl rfl rfl ?_
 refine thenK_n ?_
 refine W.seq ?_
 refine W.block ?_
 refine W.seq ?_
 refine W.region ?_
 refine S.pure tOk zOk rfl rfl rfl ?_
 refine S.pure tOk zOk rfl rfl rfl ?_
 refine S.pure tOk zOk rfl rfl rfl ?_
 refine S.pure tOk zOk rfl rfl rfl ?_
 refine thenK_n ?_
 refine W.cond rfl (fun c1 => ?_) (fun c1 => ?_)
 ·skip
  refine W.seq ?_
  refine W.region ?_
  refine S.pure tOk zOk rfl rfl rfl ?_
  refine thenK_n ?_
  refine W.ret ?_
  refine blockK_r ?_
  refine thenK_r ?_
  exact ⟨_, rfl, rfl, LeV.of_force rfl (by simp_all [ceB])⟩
 ·skip
  refine W.seq ?_
  refine W.region ?_
  refine S.pure tOk zOk rfl rfl rfl ?_
  refine S.pure tOk zOk rfl rfl rfl ?_
  refine S.pure tOk zOk rfl rfl rfl ?_
  refine thenK_n ?_
  refine W.cond rfl (fun c2 => ?_) (fun c2 => ?_)
  ·skip
   refine W.seq ?_
   refine W.region ?_
   refine S.pure tOk zOk rfl rfl rfl ?_
   refine thenK_n ?_
   refine W.ret ?_
   refine blockK_r ?_
   refine thenK_r ?_
   exact ⟨_, rfl, rfl, LeV.of_force rfl (by simp_all [ceB])⟩
  ·skip
   refine W.seq ?_
   refine W.region ?_
   refine S.pure tOk zOk rfl rfl rfl ?_
   refine S.pure tOk zOk rfl rfl rfl ?_
   refine S.pure tOk zOk rfl rfl rfl ?_
   refine thenK_n ?_
   refine W.cond rfl (fun c3 => ?_) (fun c3 => ?_)
   ·skip
    refine W.seq ?_
    refine W.region ?_
    refine S.pure tOk zOk rfl rfl rfl ?_
    refine thenK_n ?_
    refine W.ret ?_
    refine blockK_r ?_
    refine thenK_r ?_
    exact ⟨_, rfl, rfl, LeV.of_force rfl (by simp_all [ceB])⟩
   ·skip
    refine W.skip ?_
    refine blockK_n ?_
    refine thenK_n ?_
    refine W.seq ?_
    refine W.region ?_
    refine S.pure tOk zOk rfl rfl rfl ?_
    refine S.call rfl rfl rfl rfl rfl (pc_Split _ _ ha (by decide)) ?_
    refine S.pure tOk zOk rfl rfl rfl ?_
    refine S.call rfl rfl rfl rfl rfl (pc_Split _ _ hb (by decide)) ?_
    refine S.pure tOk zOk rfl rfl rfl ?_
    refine S.pure tOk zOk rfl rfl rfl ?_
    refine thenK_n ?_
    refine W.seq ?_
    refine W.seq ?_
    refine W.region ?_
    refine S.pure tOk zOk rfl rfl rfl ?_
    refine S.pure tOk zOk rfl rfl rfl ?_
    refine S.pure tOk zOk rfl rfl rfl ?_
    refine S.pure tOk zOk rfl rfl rfl ?_
    refine S.pure tOk zOk rfl rfl rfl ?_
    refine S.pure tOk zOk rfl rfl rfl ?_
    refine thenK_n ?_
    refine W.block ?_
    refine W.loop (fun k st => ∃ i : Nat, i ≤ (Lib.split a [46]).length ∧ ((List.zipWith cwB (Lib.split a [46]) (Lib.split b [46])).take i).all (· == 0) = true ∧ k = (Lib.split a [46]).length - i ∧ ∃ t b2 r2 m2, st = ⟨t, [] ++ b2, [] ++ r2, [] ++ m2⟩ ∧ holdsL t [(5, .one (.d (.vec 1 ((Lib.split a [46]).map fun x => [.str x])))), (6, .one (.d (.vec 1 ((Lib.split b [46]).map fun x => [.str x])))), (27, .one (.d (.int .i64 (if (((Lib.split b [46]).map fun x => [D.str x]).length : Int) < (((Lib.split a [46]).map fun x => [D.str x]).length : Int) then (((Lib.split b [46]).map fun x => [D.str x]).length : Int) else (((Lib.split a [46]).map fun x => [D.str x]).length : Int))))), (28, .one (.d (.int .i64 (i : Int))))]) ((Lib.split a [46]).length) ⟨0, Nat.zero_le _, by simp, rfl, _, _, _, _, rfl, rfl, rfl, rfl, rfl, trivial⟩ ?_
    rintro k1 _ ⟨i, f1_0, f1_1, rfl, t1, bb1, rr1, mm1, rfl, hh1⟩
    refine W.keepR _ _ _ _ _ _ _ hh1 rfl ?_
    refine W.seq ?_
    refine W.region ?_
    refine S.pure tOk zOk rfl rfl rfl ?_
    refine thenK_n ?_
    refine W.seq ?_
    refine W.cond rfl (fun c4 => ?_) (fun c4 => ?_)
    ·skip
     have hi := min_lt (xs := Lib.split a [46]) (ys := Lib.split b [46]) (by simp) (by simp) c4
     refine W.skip ?_
     refine thenK_n ?_
     refine W.seq ?_
     refine W.block ?_
     refine W.seq ?_
     refine W.region ?_
     refine S.pure tOk zOk rfl rfl rfl ?_
     refine S.pure tOk zOk rfl rfl rfl ?_
     refine thenK_n ?_
     refine W.seq ?_
     refine W.regionD mixed (by kernel_rfl) ?_
     refine D.pure tOk zOk rfl rfl rfl rfl ?_
     refine D.pure tOk zOk rfl rfl rfl rfl ?_
     refine D.pureE tOk zOk rfl rfl (row_ok hi.1) (row_at [] hi.1) rfl ?_
     refine D.pure tOk zOk rfl rfl rfl rfl ?_
     refine D.pure tOk zOk rfl rfl rfl rfl ?_
     refine D.pure tOk zOk rfl rfl rfl rfl ?_
     refine D.pureE tOk zOk rfl rfl (row_ok hi.2) (row_at [] hi.2) rfl ?_
     refine D.pure tOk zOk rfl rfl rfl rfl ?_
     refine D.call rfl rfl rfl rfl rfl (pc_ver_compareWords _ _ (by have := @split_at a [46] i; omega) (by have := @split_at b [46] i; omega)) ?_
     refine D.pure tOk zOk rfl rfl rfl rfl ?_
     refine thenK_n ?_
     refine W.seq ?_
     refine W.region ?_
     refine S.pure tOk zOk rfl rfl rfl ?_
     refine S.pure tOk zOk rfl rfl rfl ?_
     refine thenK_n ?_
     refine W.cond rfl (fun c5 => ?_) (fun c5 => ?_)
     ·skip
      refine W.seq ?_
      refine W.region ?_
      refine S.pure tOk zOk rfl rfl rfl ?_
      refine S.pure tOk zOk rfl rfl rfl ?_
      refine thenK_n ?_
      refine W.ret ?_
      refine blockK_r ?_
      refine thenK_r ?_
      refine thenK_r ?_
      refine blockK_r ?_
      refine thenK_r ?_
      exact ⟨_, rfl, rfl, LeV.of_force rfl (by
   have hz := zip_at (f := cwB) [] [] hi.1 hi.2
   have hc : cwB ((Lib.split a [46]).getD i []) ((Lib.split b [46]).getD i []) ≠ 0 := by simpa using c5
   have hh := firstNe_hit (by simp; omega) f1_1 (by rw [hz]; exact hc); rw [hz] at hh; rw [ceB, rowsB, hh]; simp_all)⟩
     ·skip
      refine W.skip ?_
      refine blockK_n ?_
      refine thenK_n ?_
      refine W.region ?_
      refine S.pure tOk zOk rfl rfl rfl ?_
      refine S.pure tOk zOk rfl rfl rfl ?_
      refine loop_n ((Lib.split a [46]).length - (i + 1)) (by omega) ⟨i + 1, by omega, all_take_succ (d := 0) (by simp; omega) f1_1 (by rw [zip_at [] [] hi.1 hi.2]; simpa using c5), rfl, _, _, _, _, rfl, rfl, rfl, rfl, inc_i64 (by omega), trivial⟩
    ·skip
     have hi := min_ge (xs := Lib.split a [46]) (ys := Lib.split b [46]) (by simp) (by simp) c4
     refine W.exit ?_
     refine thenK_e ?_
     refine thenK_e ?_
     refine blockK_x ?_
     refine thenK_n ?_
     refine W.seq ?_
     refine W.region ?_
     refine S.pure tOk zOk rfl rfl rfl ?_
     refine S.pure tOk zOk rfl rfl rfl ?_
     refine S.pure tOk zOk rfl rfl rfl ?_
     refine S.pure tOk zOk rfl rfl rfl ?_
     refine S.call rfl rfl rfl rfl rfl (pc_cmpInt _ _) ?_
     refine S.pure tOk zOk rfl rfl rfl ?_
     refine thenK_n ?_
     refine W.ret ?_
     exact ⟨_, rfl, rfl, LeV.of_force rfl (by have hh := firstNe_none (l := List.zipWith cwB (Lib.split a [46]) (Lib.split b [46])) (by simp; omega) f1_1; rw [ceB, rowsB, hh]; simp_all)⟩
theorem pc_ver_Order (v w : Ver) (hv : v.e.length < 4294967281) (hw : w.e.length < 4294967281) :
  PureCall Tryz.prog J 85 [verV v, verV w] (.one (.d (.int .i64 (orderB v w)))) := by
 refine PureCall.of_body tOk (fn := Tryz.f85) Tryz.func85 (by kernel_rfl) rfl (Nat.le_of_ble_eq_true rfl) (fun E => ?_)
 refine W.seq ?_
 refine W.region ?_
 refine S.box rfl rfl rfl rfl ?_
 refine S.box rfl rfl rfl rfl ?_
 refine S.pure tOk zOk rfl rfl rfl ?_
 refine thenK_n ?_
 refine W.seq ?_
 refine W.regionD mixed (by kernel_rfl) ?_
 refine D.pure tOk zOk rfl rfl rfl rfl ?_
 refine D.pure tOk zOk rfl rfl rfl rfl ?_
 refine D.pure tOk zOk rfl rfl rfl rfl ?_
 refine D.pure tOk zOk rfl rfl rfl rfl ?_
 refine D.call rfl rfl rfl rfl rfl (pc_cmpInt _ _) ?_
 refine D.pure tOk zOk rfl rfl rfl rfl ?_
 refine D.pure tOk zOk rfl rfl rfl rfl ?_
 refine D.pure tOk zOk rfl rfl rfl rfl ?_
 refine D.pure tOk zOk rfl rfl rfl rfl ?_
 refine D.call rfl rfl rfl rfl rfl (pc_cmpInt _ _) ?_
 refine D.pure tOk zOk rfl rfl rfl rfl ?_
 refine D.pure tOk zOk rfl rfl rfl rfl ?_
 refine D.pure tOk zOk rfl rfl rfl rfl ?_
 refine D.pure tOk zOk rfl rfl rfl rfl ?_
 refine D.call rfl rfl rfl rfl rfl (pc_cmpInt _ _) ?_
 refine D.pure tOk zOk rfl rfl rfl rfl ?_
 refine D.pure tOk zOk rfl rfl rfl rfl ?_
 refine D.pure tOk zOk rfl rfl rfl rfl ?_
 refine D.pure tOk zOk rfl rfl rfl rfl ?_
 refine D.call rfl rfl rfl rfl rfl (pc_ver_compareEarly _ _ (by omega) (by omega)) ?_
 refine D.slice tOk rfl rfl ?_
 refine D.call rfl rfl rfl rfl rfl (pc_cmp_Or_int_ [_, _, _, _] (by simp)) ?_
 refine D.pure tOk zOk rfl rfl rfl rfl ?_
 refine thenK_n ?_
 refine W.ret ?_
 exact ⟨_, rfl, rfl, LeV.refl _⟩
theorem pc_ver_Next (v : Ver) (he : v.e.length < 4294967281) (p : Int) :
  PureCall Tryz.prog J 250 [verV v, .one (.d (.int .i64 p))] (.tup [verV (nextB v p).1, .one (.d (.int .i64 (nextB v p).2))]) := by
 refine PureCall.of_body tOk (fn := Tryz.f250) Tryz.func250 (by kernel_rfl) rfl (Nat.le_of_ble_eq_true rfl) (fun E => ?_)
 refine W.seq ?_
 refine W.region ?_
 refine S.box rfl rfl rfl rfl ?_
 refine S.alloc tOk rfl rfl rfl rfl ?_
 refine S.pure tOk zOk rfl rfl rfl ?_
 refine thenK_n ?_
 refine W.seq ?_
 refine W.seq ?_
 refine W.region ?_
 refine S.pure tOk zOk rfl rfl rfl ?_
 refine S.call rfl rfl rfl rfl rfl (pc_ver_Check v he) ?_
 refine S.pure tOk zOk rfl rfl rfl ?_
 refine thenK_n ?_
 refine W.seq ?_
 refine W.region ?_
 refine S.pure tOk zOk rfl rfl rfl ?_
 refine S.pure tOk zOk rfl rfl rfl ?_
 refine thenK_n ?_
 refine W.cond rfl (fun c1 => ?_) (fun c1 => ?_)
 ·skip
  refine W.seq ?_
  refine W.region ?_
  refine S.pure tOk zOk rfl rfl rfl ?_
  refine S.pure tOk zOk rfl rfl rfl ?_
  refine S.store tOk rfl rfl rfl rfl rfl rfl rfl rfl ?_
  refine S.pure tOk zOk rfl rfl rfl ?_
  refine thenK_n ?_
  refine W.ret ?_
  refine thenK_r ?_
  exact ⟨_, rfl, rfl, LeV.of_force rfl (by simp_all [nextB, nextOk, Ver.check, Ver.z, w1, verV])⟩
 ·skip
  refine W.skip ?_
  refine thenK_n ?_
  refine W.seq ?_
  refine W.region ?_
  refine S.pure tOk zOk rfl rfl rfl ?_
  refine S.pure tOk zOk rfl rfl rfl ?_
  refine S.pure tOk zOk rfl rfl rfl ?_
  refine S.pure tOk zOk rfl rfl rfl ?_
  refine S.pure tOk zOk rfl rfl rfl ?_
  refine S.pure tOk zOk rfl rfl rfl ?_
  refine S.pure tOk zOk rfl rfl rfl ?_
  refine S.alloc tOk rfl rfl rfl rfl ?_
  refine S.store tOk rfl rfl rfl rfl rfl rfl rfl rfl ?_
  refine thenK_n ?_
  refine W.seq ?_
  refine W.block ?_
  refine W.seq ?_
  refine W.region ?_
  refine S.pure tOk zOk rfl rfl rfl ?_
  refine S.pure tOk zOk rfl rfl rfl ?_
  refine S.pure tOk zOk rfl rfl rfl ?_
  refine thenK_n ?_
  refine W.cond rfl (fun c2 => ?_) (fun c2 => ?_)
  ·skip
   refine W.region ?_
   refine S.pure tOk zOk rfl rfl rfl ?_
   refine S.pure tOk zOk rfl rfl rfl ?_
   refine S.pure tOk zOk rfl rfl rfl ?_
   refine S.pure tOk zOk rfl rfl rfl ?_
   refine S.store tOk rfl rfl rfl rfl rfl rfl rfl rfl ?_
   refine blockK_n ?_
   refine thenK_n ?_
   refine W.seq ?_
   refine W.seq ?_
   refine W.region ?_
   refine S.pure tOk zOk rfl rfl rfl ?_
   refine S.call rfl rfl rfl rfl rfl (pc_ver_Check ⟨w1 v.a, 0, 0, []⟩ (by decide : ([] : List UInt8).length < _)) ?_
   refine S.pure tOk zOk rfl rfl rfl ?_
   refine thenK_n ?_
   refine W.cond rfl (fun c3 => ?_) (fun c3 => ?_)
   ·skip
    refine W.seq ?_
    refine W.region ?_
    refine S.pure tOk zOk rfl rfl rfl ?_
    refine S.store tOk rfl rfl rfl rfl rfl rfl rfl rfl ?_
    refine S.pure tOk zOk rfl rfl rfl ?_
    refine thenK_n ?_
    refine W.ret ?_
    refine thenK_r ?_
    exact ⟨_, rfl, rfl, LeV.of_force rfl (by simp_all [nextB, nextOk, Ver.check, Ver.z, w1, verV])⟩
   ·skip
    refine W.skip ?_
    refine thenK_n ?_
    refine W.seq ?_
    refine W.region ?_
    refine S.pure tOk zOk rfl rfl rfl ?_
    refine S.store tOk rfl rfl rfl rfl rfl rfl rfl rfl ?_
    refine S.pure tOk zOk rfl rfl rfl ?_
    refine thenK_n ?_
    refine W.ret ?_
    exact ⟨_, rfl, rfl, LeV.of_force rfl (by simp_all [nextB, nextOk, Ver.check, Ver.z, w1, verV])⟩
  ·skip
   refine W.seq ?_
   refine W.region ?_
   refine S.pure tOk zOk rfl rfl rfl ?_
   refine S.pure tOk zOk rfl rfl rfl ?_
   refine S.pure tOk zOk rfl rfl rfl ?_
   refine thenK_n ?_
   refine W.cond rfl (fun c4 => ?_) (fun c4 => ?_)
   ·skip
    refine W.region ?_
    refine S.pure tOk zOk rfl rfl rfl ?_
    refine S.pure tOk zOk rfl rfl rfl ?_
    refine S.pure tOk zOk rfl rfl rfl ?_
    refine S.pure tOk zOk rfl rfl rfl ?_
    refine S.store tOk rfl rfl rfl rfl rfl rfl rfl rfl ?_
    refine S.pure tOk zOk rfl rfl rfl ?_
    refine S.store tOk rfl rfl rfl rfl rfl rfl rfl rfl ?_
    refine blockK_n ?_
    refine thenK_n ?_
    refine W.seq ?_
    refine W.seq ?_
    refine W.region ?_
    refine S.pure tOk zOk rfl rfl rfl ?_
    refine S.call rfl rfl rfl rfl rfl (pc_ver_Check ⟨v.a, w1 v.b, 0, []⟩ (by decide : ([] : List UInt8).length < _)) ?_
    refine S.pure tOk zOk rfl rfl rfl ?_
    refine thenK_n ?_
    refine W.cond rfl (fun c5 => ?_) (fun c5 => ?_)
    ·skip
     refine W.seq ?_
     refine W.region ?_
     refine S.pure tOk zOk rfl rfl rfl ?_
     refine S.store tOk rfl rfl rfl rfl rfl rfl rfl rfl ?_
     refine S.pure tOk zOk rfl rfl rfl ?_
     refine thenK_n ?_
     refine W.ret ?_
     refine thenK_r ?_
     exact ⟨_, rfl, rfl, LeV.of_force rfl (by simp_all [nextB, nextOk, Ver.check, Ver.z, w1, verV])⟩
    ·skip
     refine W.skip ?_
     refine thenK_n ?_
     refine W.seq ?_
     refine W.region ?_
     refine S.pure tOk zOk rfl rfl rfl ?_
     refine S.store tOk rfl rfl rfl rfl rfl rfl rfl rfl ?_
     refine S.pure tOk zOk rfl rfl rfl ?_
     refine thenK_n ?_
     refine W.ret ?_
     exact ⟨_, rfl, rfl, LeV.of_force rfl (by simp_all [nextB, nextOk, Ver.check, Ver.z, w1, verV])⟩
   ·skip
    refine W.seq ?_
    refine W.region ?_
    refine S.pure tOk zOk rfl rfl rfl ?_
    refine S.pure tOk zOk rfl rfl rfl ?_
    refine S.pure tOk zOk rfl rfl rfl ?_
    refine S.pureG tOk zOk rfl rfl tg (fun _ => rfl) rfl ?_
    refine S.pureG tOk zOk rfl rfl tg (fun _ => rfl) rfl ?_
    refine S.pureG tOk zOk rfl rfl tg (fun _ => rfl) rfl ?_
    refine S.pickAnd tOk zOk rfl rfl tg ?_
    refine S.pure tOk zOk rfl rfl rfl ?_
    refine thenK_n ?_
    refine W.cond rfl (fun c6 => ?_) (fun c6 => ?_)
    ·skip
     refine W.region ?_
     refine S.pure tOk zOk rfl rfl rfl ?_
     refine S.pure tOk zOk rfl rfl rfl ?_
     refine S.pure tOk zOk rfl rfl rfl ?_
     refine S.pure tOk zOk rfl rfl rfl ?_
     refine S.store tOk rfl rfl rfl rfl rfl rfl rfl rfl ?_
     refine blockK_n ?_
     refine thenK_n ?_
     refine W.seq ?_
     refine W.seq ?_
     refine W.region ?_
     refine S.pure tOk zOk rfl rfl rfl ?_
     refine S.call rfl rfl rfl rfl rfl (pc_ver_Check ⟨v.a, v.b, w1 v.c, []⟩ (by decide : ([] : List UInt8).length < _)) ?_
     refine S.pure tOk zOk rfl rfl rfl ?_
     refine thenK_n ?_
     refine W.cond rfl (fun c7 => ?_) (fun c7 => ?_)
     ·skip
      refine W.seq ?_
      refine W.region ?_
      refine S.pure tOk zOk rfl rfl rfl ?_
      refine S.store tOk rfl rfl rfl rfl rfl rfl rfl rfl ?_
      refine S.pure tOk zOk rfl rfl rfl ?_
      refine thenK_n ?_
      refine W.ret ?_
      refine thenK_r ?_
      exact ⟨_, rfl, rfl, LeV.of_force rfl (by simp_all [nextB, nextOk, Ver.check, Ver.z, w1, verV])⟩
     ·skip
      refine W.skip ?_
      refine thenK_n ?_
      refine W.seq ?_
      refine W.region ?_
      refine S.pure tOk zOk rfl rfl rfl ?_
      refine S.store tOk rfl rfl rfl rfl rfl rfl rfl rfl ?_
      refine S.pure tOk zOk rfl rfl rfl ?_
      refine thenK_n ?_
      refine W.ret ?_
      exact ⟨_, rfl, rfl, LeV.of_force rfl (by simp_all [nextB, nextOk, Ver.check, Ver.z, w1, verV])⟩
    ·skip
     refine W.seq ?_
     refine W.region ?_
     refine S.pure tOk zOk rfl rfl rfl ?_
     refine S.pure tOk zOk rfl rfl rfl ?_
     refine S.pure tOk zOk rfl rfl rfl ?_
     refine thenK_n ?_
     refine W.cond rfl (fun c8 => ?_) (fun c8 => ?_)
     ·skip
      refine W.seq ?_
      refine W.region ?_
      refine S.pure tOk zOk rfl rfl rfl ?_
      refine S.store tOk rfl rfl rfl rfl rfl rfl rfl rfl ?_
      refine S.pure tOk zOk rfl rfl rfl ?_
      refine thenK_n ?_
      refine W.ret ?_
      refine blockK_r ?_
      refine thenK_r ?_
      exact ⟨_, rfl, rfl, LeV.of_force rfl (by simp_all [nextB, nextOk, Ver.check, Ver.z, w1, verV])⟩
     ·skip
      refine W.skip ?_
      refine blockK_n ?_
      refine thenK_n ?_
      refine W.seq ?_
      refine W.seq ?_
      refine W.region ?_
      refine S.pure tOk zOk rfl rfl rfl ?_
      refine S.call rfl rfl rfl rfl rfl (pc_ver_Check ⟨v.a, v.b, v.c, []⟩ (by decide : ([] : List UInt8).length < _)) ?_
      refine S.pure tOk zOk rfl rfl rfl ?_
      refine thenK_n ?_
      refine W.cond rfl (fun c9 => ?_) (fun c9 => ?_)
      ·skip
       refine W.seq ?_
       refine W.region ?_
       refine S.pure tOk zOk rfl rfl rfl ?_
       refine S.store tOk rfl rfl rfl rfl rfl rfl rfl rfl ?_
       refine S.pure tOk zOk rfl rfl rfl ?_
       refine thenK_n ?_
       refine W.ret ?_
       refine thenK_r ?_
       exact ⟨_, rfl, rfl, LeV.of_force rfl (by simp_all [nextB, nextOk, Ver.check, Ver.z, w1, verV])⟩
      ·skip
       refine W.skip ?_
       refine thenK_n ?_
       refine W.seq ?_
       refine W.region ?_
       refine S.pure tOk zOk rfl rfl rfl ?_
       refine S.store tOk rfl rfl rfl rfl rfl rfl rfl rfl ?_
       refine S.pure tOk zOk rfl rfl rfl ?_
       refine thenK_n ?_
       refine W.ret ?_
       exact ⟨_, rfl, rfl, LeV.of_force rfl (by simp_all [nextB, nextOk, Ver.check, Ver.z, w1, verV])⟩
theorem pc_ver_Parse (s : List UInt8) (hs : s.length < 4294967281) :
  PureCall Tryz.prog J 214 [.one (.d (.str s))] (.tup [verV (parseB s).1, .one (.d (.int .i64 (parseB s).2))]) := by
 have hc := cut_le s [45]
 have hm := fun i => @split_at (Lib.cut s [45]).1 [46] i
 have hsp := pc_Split (Lib.cut s [45]).1 [46] (by omega) (by decide)
 unfold parseB
 generalize hws : Lib.split (Lib.cut s [45]).1 [46] = ws at hm hsp ⊢
 refine PureCall.of_body tOk (fn := Tryz.f214) Tryz.func214 (by kernel_rfl) rfl (Nat.le_of_ble_eq_true rfl) (fun E => ?_)
 refine W.seq ?_
 refine W.region ?_
 refine S.alloc tOk rfl rfl rfl rfl ?_
 refine S.pure tOk zOk rfl rfl rfl ?_
 refine thenK_n ?_
 refine W.seq ?_
 refine W.region ?_
 refine S.pure tOk zOk rfl rfl rfl ?_
 refine S.call rfl rfl rfl rfl rfl (pc_Cut _ _ hs) ?_
 refine S.pure tOk zOk rfl rfl rfl ?_
 refine S.pure tOk zOk rfl rfl rfl ?_
 refine S.pure tOk zOk rfl rfl rfl ?_
 refine S.pure tOk zOk rfl rfl rfl ?_
 refine S.pure tOk zOk rfl rfl rfl ?_
 refine S.pure tOk zOk rfl rfl rfl ?_
 refine S.pure tOk zOk rfl rfl rfl ?_
 refine thenK_n ?_
 refine W.seq ?_
 refine W.region ?_
 refine S.pure tOk zOk rfl rfl rfl ?_
 refine S.call rfl rfl rfl rfl rfl (hsp) ?_
 refine S.pure tOk zOk rfl rfl rfl ?_
 refine thenK_n ?_
 refine W.seq ?_
 refine W.seq ?_
 refine W.region ?_
 refine S.pure tOk zOk rfl rfl rfl ?_
 refine S.pure tOk zOk rfl rfl rfl ?_
 refine S.pure tOk zOk rfl rfl rfl ?_
 refine S.pure tOk zOk rfl rfl rfl ?_
 refine S.pureG tOk zOk rfl rfl tg (fun _ => rfl) rfl ?_
 refine S.pureG tOk zOk rfl rfl tg (fun _ => rfl) rfl ?_
 refine S.pureG tOk zOk rfl rfl tg (fun _ => rfl) rfl ?_
 refine S.pureG tOk zOk rfl rfl tg (fun _ => rfl) rfl ?_
 refine S.pickAndG tOk zOk rfl rfl rfl tg tg ?_
 refine S.pickOr tOk zOk rfl rfl tg ?_
 refine thenK_n ?_
 refine W.cond rfl (fun c1 => ?_) (fun c1 => ?_)
 ·skip
  refine W.seq ?_
  refine W.region ?_
  refine S.pure tOk zOk rfl rfl rfl ?_
  refine S.store tOk rfl rfl rfl rfl rfl rfl rfl rfl ?_
  refine S.pure tOk zOk rfl rfl rfl ?_
  refine thenK_n ?_
  refine W.ret ?_
  refine thenK_r ?_
  exact ⟨_, rfl, rfl, LeV.of_force rfl (by simp_all [parseW, verV, Ver.z])⟩
 ·skip
  have h3 : ws.length = 3 := by simp at c1; omega
  obtain ⟨p, q, r, rfl⟩ := three h3
  refine W.skip ?_
  refine thenK_n ?_
  refine W.seq ?_
  refine W.region ?_
  refine S.alloc tOk rfl rfl rfl rfl ?_
  refine thenK_n ?_
  refine W.seq ?_
  refine W.seq ?_
  refine W.region ?_
  refine S.pure tOk zOk rfl rfl rfl ?_
  refine S.pure tOk zOk rfl rfl rfl ?_
  refine S.pure tOk zOk rfl rfl rfl ?_
  refine thenK_n ?_
  refine W.block ?_
  refine W.rounds 4 ?_
  refine WR.succ ?_
  refine W.seq ?_
  refine W.region ?_
  refine S.pure tOk zOk rfl rfl rfl ?_
  refine thenK_n ?_
  refine W.seq ?_
  refine W.condT rfl rfl ?_
  refine W.skip ?_
  refine thenK_n ?_
  refine W.seq ?_
  refine W.block ?_
  refine W.seq ?_
  refine W.region ?_
  refine S.pure tOk zOk rfl rfl rfl ?_
  refine S.pure tOk zOk rfl (by first | rfl | exact idx_ok (by omega) (by omega)) rfl ?_
  refine S.pure tOk zOk rfl rfl rfl ?_
  refine S.pure tOk zOk rfl rfl rfl ?_
  refine S.pure tOk zOk rfl rfl rfl ?_
  refine thenK_n ?_
  refine W.seq ?_
  refine W.region ?_
  refine S.pure tOk zOk rfl rfl rfl ?_
  refine S.call rfl rfl rfl rfl rfl (pc_ver_number _ (by first | (have := hm 0; simp at this; omega) | (have := hm 1; simp at this; omega) | (have := hm 2; simp at this; omega))) ?_
  refine S.pure tOk zOk rfl rfl rfl ?_
  refine S.pure tOk zOk rfl rfl rfl ?_
  refine S.pure tOk zOk rfl rfl rfl ?_
  refine S.pure tOk zOk rfl rfl rfl ?_
  refine S.pure tOk zOk rfl rfl rfl ?_
  refine thenK_n ?_
  refine W.seq ?_
  refine W.seq ?_
  refine W.region ?_
  refine S.pure tOk zOk rfl rfl rfl ?_
  refine S.pure tOk zOk rfl rfl rfl ?_
  refine thenK_n ?_
  refine W.cond rfl (fun c3 => ?_) (fun c3 => ?_)
  ·skip
   refine W.seq ?_
   refine W.region ?_
   refine S.pure tOk zOk rfl rfl rfl ?_
   refine S.store tOk rfl rfl rfl rfl rfl rfl rfl rfl ?_
   refine S.pure tOk zOk rfl rfl rfl ?_
   refine thenK_n ?_
   refine W.ret ?_
   refine thenK_r ?_
   refine blockK_r ?_
   refine thenK_r ?_
   refine thenK_r ?_
   refine blockK_r ?_
   refine thenK_r ?_
   exact ⟨_, rfl, rfl, LeV.of_force rfl (by rw [parse_ok c1]; clear c1; simp_all [threeB, verV, Ver.z, Ver.check])⟩
  ·skip
   refine W.skip ?_
   refine thenK_n ?_
   refine W.region ?_
   refine S.pure tOk zOk rfl rfl rfl ?_
   refine S.pure tOk zOk rfl rfl rfl ?_
   refine S.pure tOk zOk rfl (by first | rfl | exact idx_ok (by omega) (by omega)) rfl ?_
   refine S.store tOk rfl rfl rfl rfl rfl rfl rfl rfl ?_
   refine blockK_n ?_
   refine thenK_n ?_
   refine W.region ?_
   refine S.pure tOk zOk rfl rfl rfl ?_
   refine S.pure tOk zOk rfl rfl rfl ?_
   refine thenK_n ?_
   refine WR.succ ?_
   refine W.seq ?_
   refine W.region ?_
   refine S.pure tOk zOk rfl rfl rfl ?_
   refine thenK_n ?_
   refine W.seq ?_
   refine W.condT rfl rfl ?_
   refine W.skip ?_
   refine thenK_n ?_
   refine W.seq ?_
   refine W.block ?_
   refine W.seq ?_
   refine W.region ?_
   refine S.pure tOk zOk rfl rfl rfl ?_
   refine S.pure tOk zOk rfl (by first | rfl | exact idx_ok (by omega) (by omega)) rfl ?_
   refine S.pure tOk zOk rfl rfl rfl ?_
   refine S.pure tOk zOk rfl rfl rfl ?_
   refine S.pure tOk zOk rfl rfl rfl ?_
   refine thenK_n ?_
   refine W.seq ?_
   refine W.region ?_
   refine S.pure tOk zOk rfl rfl rfl ?_
   refine S.call rfl rfl rfl rfl rfl (pc_ver_number _ (by first | (have := hm 0; simp at this; omega) | (have := hm 1; simp at this; omega) | (have := hm 2; simp at this; omega))) ?_
   refine S.pure tOk zOk rfl rfl rfl ?_
   refine S.pure tOk zOk rfl rfl rfl ?_
   refine S.pure tOk zOk rfl rfl rfl ?_
   refine S.pure tOk zOk rfl rfl rfl ?_
   refine S.pure tOk zOk rfl rfl rfl ?_
   refine thenK_n ?_
   refine W.seq ?_
   refine W.seq ?_
   refine W.region ?_
   refine S.pure tOk zOk rfl rfl rfl ?_
   refine S.pure tOk zOk rfl rfl rfl ?_
   refine thenK_n ?_
   refine W.cond rfl (fun c5 => ?_) (fun c5 => ?_)
   ·skip
    refine W.seq ?_
    refine W.region ?_
    refine S.pure tOk zOk rfl rfl rfl ?_
    refine S.store tOk rfl rfl rfl rfl rfl rfl rfl rfl ?_
    refine S.pure tOk zOk rfl rfl rfl ?_
    refine thenK_n ?_
    refine W.ret ?_
    refine thenK_r ?_
    refine blockK_r ?_
    refine thenK_r ?_
    refine thenK_r ?_
    refine blockK_r ?_
    refine thenK_r ?_
    exact ⟨_, rfl, rfl, LeV.of_force rfl (by rw [parse_ok c1]; clear c1; simp_all [threeB, verV, Ver.z, Ver.check])⟩
   ·skip
    refine W.skip ?_
    refine thenK_n ?_
    refine W.region ?_
    refine S.pure tOk zOk rfl rfl rfl ?_
    refine S.pure tOk zOk rfl rfl rfl ?_
    refine S.pure tOk zOk rfl (by first | rfl | exact idx_ok (by omega) (by omega)) rfl ?_
    refine S.store tOk rfl rfl rfl rfl rfl rfl rfl rfl ?_
    refine blockK_n ?_
    refine thenK_n ?_
    refine W.region ?_
    refine S.pure tOk zOk rfl rfl rfl ?_
    refine S.pure tOk zOk rfl rfl rfl ?_
    refine thenK_n ?_
    refine WR.succ ?_
    refine W.seq ?_
    refine W.region ?_
    refine S.pure tOk zOk rfl rfl rfl ?_
    refine thenK_n ?_
    refine W.seq ?_
    refine W.condT rfl rfl ?_
    refine W.skip ?_
    refine thenK_n ?_
    refine W.seq ?_
    refine W.block ?_
    refine W.seq ?_
    refine W.region ?_
    refine S.pure tOk zOk rfl rfl rfl ?_
    refine S.pure tOk zOk rfl (by first | rfl | exact idx_ok (by omega) (by omega)) rfl ?_
    refine S.pure tOk zOk rfl rfl rfl ?_
    refine S.pure tOk zOk rfl rfl rfl ?_
    refine S.pure tOk zOk rfl rfl rfl ?_
    refine thenK_n ?_
    refine W.seq ?_
    refine W.region ?_
    refine S.pure tOk zOk rfl rfl rfl ?_
    refine S.call rfl rfl rfl rfl rfl (pc_ver_number _ (by first | (have := hm 0; simp at this; omega) | (have := hm 1; simp at this; omega) | (have := hm 2; simp at this; omega))) ?_
    refine S.pure tOk zOk rfl rfl rfl ?_
    refine S.pure tOk zOk rfl rfl rfl ?_
    refine S.pure tOk zOk rfl rfl rfl ?_
    refine S.pure tOk zOk rfl rfl rfl ?_
    refine S.pure tOk zOk rfl rfl rfl ?_
    refine thenK_n ?_
    refine W.seq ?_
    refine W.seq ?_
    refine W.region ?_
    refine S.pure tOk zOk rfl rfl rfl ?_
    refine S.pure tOk zOk rfl rfl rfl ?_
    refine thenK_n ?_
    refine W.cond rfl (fun c7 => ?_) (fun c7 => ?_)
    ·skip
     refine W.seq ?_
     refine W.region ?_
     refine S.pure tOk zOk rfl rfl rfl ?_
     refine S.store tOk rfl rfl rfl rfl rfl rfl rfl rfl ?_
     refine S.pure tOk zOk rfl rfl rfl ?_
     refine thenK_n ?_
     refine W.ret ?_
     refine thenK_r ?_
     refine blockK_r ?_
     refine thenK_r ?_
     refine thenK_r ?_
     refine blockK_r ?_
     refine thenK_r ?_
     exact ⟨_, rfl, rfl, LeV.of_force rfl (by rw [parse_ok c1]; clear c1; simp_all [threeB, verV, Ver.z, Ver.check])⟩
    ·skip
     refine W.skip ?_
     refine thenK_n ?_
     refine W.region ?_
     refine S.pure tOk zOk rfl rfl rfl ?_
     refine S.pure tOk zOk rfl rfl rfl ?_
     refine S.pure tOk zOk rfl (by first | rfl | exact idx_ok (by omega) (by omega)) rfl ?_
     refine S.store tOk rfl rfl rfl rfl rfl rfl rfl rfl ?_
     refine blockK_n ?_
     refine thenK_n ?_
     refine W.region ?_
     refine S.pure tOk zOk rfl rfl rfl ?_
     refine S.pure tOk zOk rfl rfl rfl ?_
     refine thenK_n ?_
     refine WR.succ ?_
     refine W.seq ?_
     refine W.region ?_
     refine S.pure tOk zOk rfl rfl rfl ?_
     refine thenK_n ?_
     refine W.seq ?_
     refine W.condF rfl rfl ?_
     refine W.exit ?_
     refine thenK_e ?_
     refine thenK_e ?_
     refine blockK_x ?_
     refine thenK_n ?_
     refine W.seq ?_
     refine W.region ?_
     refine S.pure tOk zOk rfl (by first | rfl | exact idx_ok (by omega) (by omega)) rfl ?_
     refine S.pure tOk zOk rfl rfl rfl ?_
     refine S.pure tOk zOk rfl (by first | rfl | exact idx_ok (by omega) (by omega)) rfl ?_
     refine S.pure tOk zOk rfl rfl rfl ?_
     refine S.pure tOk zOk rfl (by first | rfl | exact idx_ok (by omega) (by omega)) rfl ?_
     refine S.pure tOk zOk rfl rfl rfl ?_
     refine S.pure tOk zOk rfl rfl rfl ?_
     refine S.pure tOk zOk rfl rfl rfl ?_
     refine S.alloc tOk rfl rfl rfl rfl ?_
     refine S.store tOk rfl rfl rfl rfl rfl rfl rfl rfl ?_
     refine thenK_n ?_
     refine W.seq ?_
     refine W.seq ?_
     refine W.region ?_
     refine S.pure tOk zOk rfl rfl rfl ?_
     refine S.call rfl rfl rfl rfl rfl (pc_ver_Check ⟨(numB p).1, (numB q).1, (numB r).1, (Lib.cut s [45]).2.1⟩ (by show (Lib.cut s [45]).2.1.length < _; omega)) ?_
     refine S.pure tOk zOk rfl rfl rfl ?_
     refine thenK_n ?_
     refine W.seq ?_
     refine W.region ?_
     refine S.pure tOk zOk rfl rfl rfl ?_
     refine S.pure tOk zOk rfl rfl rfl ?_
     refine thenK_n ?_
     refine W.cond rfl (fun c9 => ?_) (fun c9 => ?_)
     ·skip
      refine W.seq ?_
      refine W.region ?_
      refine S.pure tOk zOk rfl rfl rfl ?_
      refine S.pure tOk zOk rfl rfl rfl ?_
      refine S.store tOk rfl rfl rfl rfl rfl rfl rfl rfl ?_
      refine S.pure tOk zOk rfl rfl rfl ?_
      refine thenK_n ?_
      refine W.ret ?_
      refine thenK_r ?_
      exact ⟨_, rfl, rfl, LeV.of_force rfl (by rw [parse_ok c1]; clear c1; simp_all [threeB, verV, Ver.z, Ver.check])⟩
     ·skip
      refine W.skip ?_
      refine thenK_n ?_
      refine W.seq ?_
      refine W.region ?_
      refine S.pure tOk zOk rfl rfl rfl ?_
      refine S.store tOk rfl rfl rfl rfl rfl rfl rfl rfl ?_
      refine S.pure tOk zOk rfl rfl rfl ?_
      refine thenK_n ?_
      refine W.ret ?_
      exact ⟨_, rfl, rfl, LeV.of_force rfl (by rw [parse_ok c1]; clear c1; simp_all [threeB, verV, Ver.z, Ver.check])⟩
end Go.Proofs.YtlkhdembbogcaaaGreatDoor

/- Plain words on versions, as the reference says them. -/
set_option linter.unusedVariables false
set_option linter.unusedSimpArgs false
namespace Go.Proofs.YtlkhdembbogcaaaGreatDoor
open Go
theorem byte_all {p : UInt8 → Bool} (h : (List.range 256).all (fun n => p (UInt8.ofNat n)) = true) (c : UInt8) : p c = true := by
  have := List.all_eq_true.1 h c.toNat (List.mem_range.2 c.toNat_lt)
  simpa using this
def smallS : List UInt8 := [97, 98, 99, 100, 101, 102, 103, 104, 105, 106, 107, 108, 109, 110, 111, 112, 113, 114, 115, 116, 117, 118, 119, 120, 121, 122]
def digitS : List UInt8 := [48, 49, 50, 51, 52, 53, 54, 55, 56, 57]
def smallDigitS : List UInt8 := [97, 98, 99, 100, 101, 102, 103, 104, 105, 106, 107, 108, 109, 110, 111, 112, 113, 114, 115, 116, 117, 118, 119, 120, 121, 122, 48, 49, 50, 51, 52, 53, 54, 55, 56, 57]
def nameS : List UInt8 := [97, 98, 99, 100, 101, 102, 103, 104, 105, 106, 107, 108, 109, 110, 111, 112, 113, 114, 115, 116, 117, 118, 119, 120, 121, 122, 48, 49, 50, 51, 52, 53, 54, 55, 56, 57, 45, 46]
def partS : List UInt8 := [97, 98, 99, 100, 101, 102, 103, 104, 105, 106, 107, 108, 109, 110, 111, 112, 113, 114, 115, 116, 117, 118, 119, 120, 121, 122, 65, 66, 67, 68, 69, 70, 71, 72, 73, 74, 75, 76, 77, 78, 79, 80, 81, 82, 83, 84, 85, 86, 87, 88, 89, 90, 48, 49, 50, 51, 52, 53, 54, 55, 56, 57, 45, 46, 95]
theorem smallS_eq (c : UInt8) : smallS.contains c = isSmall (bI c) := by
  have := byte_all (p := fun c => smallS.contains c == isSmall (bI c)) (by decide +kernel) c
  simpa using this
theorem digitS_eq (c : UInt8) : digitS.contains c = isDigit (bI c) := by
  have := byte_all (p := fun c => digitS.contains c == isDigit (bI c)) (by decide +kernel) c
  simpa using this
theorem smallDigitS_eq (c : UInt8) : smallDigitS.contains c = earlyC (bI c) := by
  have := byte_all (p := fun c => smallDigitS.contains c == earlyC (bI c)) (by decide +kernel) c
  simpa using this
theorem nameS_eq (c : UInt8) : nameS.contains c = nameC (bI c) := by
  have := byte_all (p := fun c => nameS.contains c == nameC (bI c)) (by decide +kernel) c
  simpa using this
theorem partS_eq (c : UInt8) : partS.contains c = partC' (bI c) := by
  have := byte_all (p := fun c => partS.contains c == partC' (bI c)) (by decide +kernel) c
  simpa using this
/-- 'Of': these bytes alone. -/
def ofB (s cs : List UInt8) : Bool := s.all fun c => cs.contains c
theorem ofB_small (s : List UInt8) : ofB s smallS = s.all fun c => isSmall (bI c) := by simp only [ofB, smallS_eq]
theorem ofB_digit (s : List UInt8) : ofB s digitS = s.all fun c => isDigit (bI c) := by simp only [ofB, digitS_eq]
theorem ofB_smallDigit (s : List UInt8) : ofB s smallDigitS = s.all fun c => earlyC (bI c) := by simp only [ofB, smallDigitS_eq]
theorem ofB_name (s : List UInt8) : ofB s nameS = s.all fun c => nameC (bI c) := by simp only [ofB, nameS_eq]
theorem ofB_part (s : List UInt8) : ofB s partS = s.all fun c => partC' (bI c) := by simp only [ofB, partS_eq]
theorem dropWhile_all {α : Type} {p : α → Bool} : ∀ {l : List α}, l.all p = true → l.dropWhile p = []
  | [], _ => rfl
  | a :: l, h => by
    simp only [List.all_cons, Bool.and_eq_true] at h
    simp only [List.dropWhile_cons, h.1, if_true]
    exact dropWhile_all h.2
theorem trim_ofB (s cs : List UInt8) (h : ofB s cs = true) : Lib.trimS s cs = [] := by
  unfold Lib.trimS Lib.trimLeftS Lib.trimRightS
  have h1 : (s.all fun c => cs.contains c) = true := h
  have h2 : (s.reverse.all fun c => cs.contains c) = true := by simpa using h1
  show ((s.reverse.dropWhile (fun c => cs.contains c)).reverse).dropWhile (fun c => cs.contains c) = []
  rw [dropWhile_all h2]; rfl
theorem of_eq (s cs : List UInt8) : (Lib.trimS s cs == [] && ofB s cs) = ofB s cs := by
  cases h : ofB s cs with
  | false => simp
  | true => simp [trim_ofB s cs h]
theorem indexByte_neg (l : List UInt8) (c : UInt8) : decide (Lib.indexByte l c < 0) = !(l.contains c) := by
  induction l with
  | nil => simp [Lib.indexByte]
  | cons a l ih =>
    unfold Lib.indexByte
    by_cases h : a = c
    · subst h; simp
    · have h' : ¬ c = a := fun e => h e.symm
      have hge := Lib.indexByte_ge l c
      simp only [beq_iff_eq, h, if_false, List.contains_cons, h', beq_eq_false_iff_ne.2 h', Bool.false_or]
      rw [← ih]
      split
      · rename_i hm; simp [hm]
      · rename_i hm; simp only [decide_eq_decide]; omega
def inB (n l h : Int) : Bool := decide (n ≥ l) && decide (n ≤ h)
theorem inB_eq (n l h : Int) : inB n l h = !outsideB n l h := by
  unfold inB outsideB
  by_cases h1 : n < l <;> by_cases h2 : n > h <;> simp_all <;> omega
theorem nameR (s : List UInt8) : (((!(s == []) && decide ((s.length : Int) ≤ 40)) && ofB s nameS) && ofB (s.take 1) smallS) = nameB s := by
  rw [ofB_name, ofB_small, nameB, eachB]
  cases s with
  | nil => simp
  | cons a l => simp [Bool.and_assoc, Bool.and_comm, Bool.and_left_comm]
theorem partR (p : List UInt8) : ((((p == [] || p == [46]) || p == [46, 46]) || decide ((p.length : Int) > 40)) || !ofB p partS) = !partB p := by
  rw [ofB_part, partB, eachB]
  have : decide ((p.length : Int) > 40) = !decide ((p.length : Int) ≤ 40) := by by_cases h : (p.length : Int) ≤ 40 <;> simp [h] <;> omega
  rw [this]
  cases (p == []) <;> cases (p == [46]) <;> cases (p == [46, 46]) <;> cases decide ((p.length : Int) ≤ 40) <;> cases (p.all fun c => partC' (bI c)) <;> rfl
theorem lead0 (s : List UInt8) (hs : s ≠ []) : (decide ((s.length : Int) > 1) && bI (s.getD 0 0) == 48) = (bI (s.getD 0 0) == 48 && !(s == [48])) := by
  match s, hs with
  | [a], _ =>
    by_cases h : a = 48
    · subst h; decide
    · have : bI a ≠ 48 := fun e => h (UInt8.toNat_inj.1 (by unfold bI at e; show a.toNat = 48; omega))
      simp [this]
  | a :: b :: l, _ => simp; intro _; omega
def numR (s : List UInt8) (m : Int) : Int × Bool :=
  if (((s == [] || decide ((s.length : Int) > m)) || !ofB s digitS) || (decide ((s.length : Int) > 1) && bI (s.getD 0 0) == 48)) then (0, false) else (atoiV s, atoiOk s)
theorem numR_eq (s : List UInt8) : numR s 9 = numB s := by
  unfold numR numB
  rw [ofB_digit, eachB]
  have : decide ((s.length : Int) > 9) = !decide ((s.length : Int) ≤ 9) := by by_cases h : (s.length : Int) ≤ 9 <;> simp [h] <;> omega
  rw [this]
  cases hs : (s == []) with
  | true => simp
  | false =>
    rw [lead0 s (by simpa using hs)]
    cases decide ((s.length : Int) ≤ 9) <;> cases (s.all fun c => isDigit (bI c)) <;> rfl
theorem wordR (w : List UInt8) : ((((w == [] || decide ((w.length : Int) > 10)) || !ofB w smallDigitS)) || ((ofB w digitS && decide ((w.length : Int) > 1)) && bI (w.getD 0 0) == 48)) = !wordB w := by
  rw [ofB_smallDigit, ofB_digit, wordB, numeralB, eachB, eachB]
  have : decide ((w.length : Int) > 10) = !decide ((w.length : Int) ≤ 10) := by by_cases h : (w.length : Int) ≤ 10 <;> simp [h] <;> omega
  rw [this]
  cases hs : (w == []) with
  | true => simp
  | false =>
    rw [Bool.and_assoc, lead0 w (by simpa using hs)]
    cases decide ((w.length : Int) ≤ 10) <;> cases (w.all fun c => isDigit (bI c)) <;> cases (w.all fun c => earlyC (bI c)) <;> simp
theorem valueR (s : List UInt8) : (s.all (fun c => !(decide (bI c < 32) || decide (bI c > 126))) && decide ((s.length : Int) ≤ 1000)) = valueB s := by
  have : (fun c : UInt8 => !(decide (bI c < 32) || decide (bI c > 126))) = fun c => valueC (bI c) := by
    funext c; unfold valueC
    by_cases h1 : bI c < 32 <;> by_cases h2 : bI c > 126 <;> simp [h1, h2] <;> omega
  rw [this, valueB, eachB]
  cases s <;> simp
theorem checkB_nil (x y z : Int) (h : checkB x y z [] ≠ 0) : checkB x y z [] = 3 := by
  unfold checkB at h ⊢
  split
  · rfl
  · rename_i h1; rw [if_neg h1] at h; simp at h
def cwR (p q : List UInt8) : Int :=
  if ofB p digitS && ofB q digitS then Lib.compareInt (atoiV p) (atoiV q) else if ofB p digitS then -1 else if ofB q digitS then 1 else Lib.compareBytes p q
def rowsR (xs ys : List (List UInt8)) : Int := if firstNe (List.zipWith cwR xs ys) != 0 then firstNe (List.zipWith cwR xs ys) else Lib.compareInt xs.length ys.length
def min1 (x : Int) : Int := if x < 1 then x else 1
def compareR (v w : Ver) : Int :=
  if firstNe [Lib.compareInt v.a w.a, Lib.compareInt v.b w.b, Lib.compareInt v.c w.c] != 0 then firstNe [Lib.compareInt v.a w.a, Lib.compareInt v.b w.b, Lib.compareInt v.c w.c]
  else if v.e == [] || w.e == [] then Lib.compareInt (min1 w.e.length) (min1 v.e.length) else rowsR (Lib.split v.e [46]) (Lib.split w.e [46])
theorem in_t {l : List UInt8} {c : UInt8} (h : decide (Lib.indexByte l ((c.toNat : Int).toNat.toUInt8) < 0) = false) : l.contains c = true := by
  have h1 := indexByte_neg l c
  have h2 : (c.toNat : Int).toNat.toUInt8 = c := by simp
  rw [h2, h1] at h
  simpa using h
theorem in_f {l : List UInt8} {c : UInt8} (h : decide (Lib.indexByte l ((c.toNat : Int).toNat.toUInt8) < 0) = true) : l.contains c = false := by
  have h1 := indexByte_neg l c
  have h2 : (c.toNat : Int).toNat.toUInt8 = c := by simp
  rw [h2, h1] at h
  simpa using h
theorem name_len {s : List UInt8} {a b : Bool} (h : ((!(s == []) && a) && b) = true) : (1 : Int) ≤ (s.length : Int) := by
  cases s with
  | nil => simp at h
  | cons x l => simp only [List.length_cons]; omega
theorem gt1 {s : List UInt8} (h : decide ((s.length : Int) > 1) = true) : (0 : Int) < (s.length : Int) := by
  have := of_decide_eq_true h; omega
theorem path_t {p : List UInt8} (h : ((((p == [] || p == [46]) || p == [46, 46]) || decide ((p.length : Int) > 40)) || !ofB p partS) = false) : partB p = true := by
  rw [partR] at h; simpa using h
theorem path_f {p : List UInt8} (h : ((((p == [] || p == [46]) || p == [46, 46]) || decide ((p.length : Int) > 40)) || !ofB p partS) = true) : partB p = false := by
  rw [partR] at h; simpa using h
theorem word_t' {w : List UInt8} (h : ((((w == [] || decide ((w.length : Int) > 10)) || !ofB w smallDigitS)) || ((ofB w digitS && decide ((w.length : Int) > 1)) && bI (w.getD 0 0) == 48)) = false) : wordB w = true := by
  rw [wordR] at h; simpa using h
theorem word_f' {w : List UInt8} (h : ((((w == [] || decide ((w.length : Int) > 10)) || !ofB w smallDigitS)) || ((ofB w digitS && decide ((w.length : Int) > 1)) && bI (w.getD 0 0) == 48)) = true) : wordB w = false := by
  rw [wordR] at h; simpa using h
theorem not_le_of {x y : Int} {b : Bool} (h : decide (x > y) = true) : (decide (x ≤ y) && b) = false := by
  have := of_decide_eq_true h
  rw [decide_eq_false (by omega)]; rfl
theorem le_of {x y : Int} (h : decide (x > y) = false) : decide (x ≤ y) = true := by
  have := of_decide_eq_false h
  exact decide_eq_true (by omega)
theorem not_t {a : Bool} (h : a = true) : (!a) = false := by rw [h]; rfl
theorem not_f {a : Bool} (h : a = false) : (!a) = true := by rw [h]; rfl
end Go.Proofs.YtlkhdembbogcaaaGreatDoor

set_option linter.unusedVariables false
set_option linter.unusedSimpArgs false
set_option maxRecDepth 100000
set_option maxHeartbeats 4000000
namespace Go.Proofs.YtlkhdembbogcaaaGreatDoor
open Go
open Go.RowKit
theorem pc_outref2_In (n l h : Int) :
  PureCall Tryz.prog J 37 [.one (.d (.int .i64 n)), .one (.d (.int .i64 l)), .one (.d (.int .i64 h))] (.one (.d (.bool (inB n l h)))) := by
 refine PureCall.of_body tOk (fn := Tryz.f37) Tryz.func37 (by kernel_rfl) rfl (Nat.le_of_ble_eq_true rfl) (fun E => ?_)
 refine W.seq ?_
 refine W.region ?_
 refine S.pure tOk zOk rfl rfl rfl ?_
 refine thenK_n ?_
 refine W.seq ?_
 refine W.region ?_
 refine S.pure tOk zOk rfl rfl rfl ?_
 refine S.pure tOk zOk rfl rfl rfl ?_
 refine S.pure tOk zOk rfl rfl rfl ?_
 refine S.pure tOk zOk rfl rfl rfl ?_
 refine S.pureG tOk zOk rfl rfl tg (fun _ => rfl) rfl ?_
 refine S.pureG tOk zOk rfl rfl tg (fun _ => rfl) rfl ?_
 refine S.pureG tOk zOk rfl rfl tg (fun _ => rfl) rfl ?_
 refine S.pickAnd tOk zOk rfl rfl tg ?_
 refine S.pure tOk zOk rfl rfl rfl ?_
 refine thenK_n ?_
 refine W.ret ?_
 exact ⟨_, rfl, rfl, LeV.refl _⟩
theorem pc_outref2_When (b : Bool) (e : Int) :
  PureCall Tryz.prog J 8 [.one (.d (.bool b)), .one (.d (.int .i64 e))] (.one (.d (.int .i64 (if b then e else 0)))) := by
 refine PureCall.of_body tOk (fn := Tryz.f8) Tryz.func8 (by kernel_rfl) rfl (Nat.le_of_ble_eq_true rfl) (fun E => ?_)
 refine W.seq ?_
 refine W.region ?_
 refine S.pure tOk zOk rfl rfl rfl ?_
 refine thenK_n ?_
 refine W.seq ?_
 refine W.seq ?_
 refine W.region ?_
 refine S.pure tOk zOk rfl rfl rfl ?_
 refine thenK_n ?_
 refine W.cond rfl (fun c1 => ?_) (fun c1 => ?_)
 ·skip
  refine W.seq ?_
  refine W.region ?_
  refine S.pure tOk zOk rfl rfl rfl ?_
  refine S.pure tOk zOk rfl rfl rfl ?_
  refine thenK_n ?_
  refine W.ret ?_
  refine thenK_r ?_
  exact ⟨_, rfl, rfl, LeV.of_force rfl (by simp_all [])⟩
 ·skip
  refine W.skip ?_
  refine thenK_n ?_
  refine W.seq ?_
  refine W.region ?_
  refine S.pure tOk zOk rfl rfl rfl ?_
  refine thenK_n ?_
  refine W.ret ?_
  exact ⟨_, rfl, rfl, LeV.of_force rfl (by simp_all [])⟩
theorem pc_outref2_First (xs : List Int) (hl : xs.length ≤ 1000000) :
  PureCall Tryz.prog J 7 [.one (.d (.vec 1 (xs.map fun x => [.int .i64 x])))] (.one (.d (.int .i64 (firstNe xs)))) := by
 refine PureCall.of_body tOk (fn := Tryz.f7) Tryz.func7 (by kernel_rfl) rfl (Nat.le_of_ble_eq_true rfl) (fun E => ?_)
 refine W.seq ?_
 refine W.region ?_
 refine S.pure tOk zOk rfl rfl rfl ?_
 refine thenK_n ?_
 refine W.seq ?_
 refine W.seq ?_
 refine W.region ?_
 refine S.pure tOk zOk rfl rfl rfl ?_
 refine S.pure tOk zOk rfl rfl rfl ?_
 refine S.pure tOk zOk rfl rfl rfl ?_
 refine thenK_n ?_
 refine W.block ?_
 refine W.loop (fun k st => ∃ i : Nat, i ≤ xs.length ∧ (xs.take i).all (· == 0) = true ∧ k = xs.length - i ∧ ∃ t b2 r2 m2, st = ⟨t, [] ++ b2, [] ++ r2, [] ++ m2⟩ ∧ holdsL t [(5, .one (.d (.vec 1 (xs.map fun x => [.int .i64 x])))), (6, .one (.d (.int .i64 ((xs.map fun x => ([.int .i64 x] : List D)).length : Int)))), (7, .one (.d (.int .i64 (i : Int))))]) (xs.length) ⟨0, Nat.zero_le _, by simp, rfl, _, _, _, _, rfl, rfl, rfl, rfl, trivial⟩ ?_
 rintro k0 _ ⟨i, f0_0, f0_1, rfl, t0, bb0, rr0, mm0, rfl, hh0⟩
 refine W.keepR _ _ _ _ _ _ _ hh0 rfl ?_
 refine W.seq ?_
 refine W.region ?_
 refine S.pure tOk zOk rfl rfl rfl ?_
 refine thenK_n ?_
 refine W.seq ?_
 refine W.cond rfl (fun c1 => ?_) (fun c1 => ?_)
 ·skip
  have hi := row_lt c1
  refine W.skip ?_
  refine thenK_n ?_
  refine W.seq ?_
  refine W.block ?_
  refine W.seq ?_
  refine W.region ?_
  refine S.pureE tOk zOk rfl (row_ok hi) (row_at 0 hi) rfl ?_
  refine S.pure tOk zOk rfl rfl rfl ?_
  refine S.pure tOk zOk rfl rfl rfl ?_
  refine thenK_n ?_
  refine W.seq ?_
  refine W.region ?_
  refine S.pure tOk zOk rfl rfl rfl ?_
  refine S.pure tOk zOk rfl rfl rfl ?_
  refine thenK_n ?_
  refine W.cond rfl (fun c2 => ?_) (fun c2 => ?_)
  ·skip
   refine W.seq ?_
   refine W.region ?_
   refine S.pure tOk zOk rfl rfl rfl ?_
   refine S.pure tOk zOk rfl rfl rfl ?_
   refine thenK_n ?_
   refine W.ret ?_
   refine blockK_r ?_
   refine thenK_r ?_
   refine thenK_r ?_
   refine blockK_r ?_
   refine thenK_r ?_
   exact ⟨_, rfl, rfl, LeV.of_force rfl (by rw [firstNe_hit hi f0_1 (by simpa using c2)])⟩
  ·skip
   refine W.skip ?_
   refine blockK_n ?_
   refine thenK_n ?_
   refine W.region ?_
   refine S.pure tOk zOk rfl rfl rfl ?_
   refine S.pure tOk zOk rfl rfl rfl ?_
   refine loop_n (xs.length - (i + 1)) (by omega) ⟨i + 1, hi, all_take_succ (d := 0) hi f0_1 (by simpa using c2), rfl, _, _, _, _, rfl, rfl, rfl, inc_i64 (by omega), trivial⟩
 ·skip
  have hi := row_ge c1
  refine W.exit ?_
  refine thenK_e ?_
  refine thenK_e ?_
  refine blockK_x ?_
  refine thenK_n ?_
  refine W.seq ?_
  refine W.region ?_
  refine S.pure tOk zOk rfl rfl rfl ?_
  refine thenK_n ?_
  refine W.ret ?_
  exact ⟨_, rfl, rfl, LeV.of_force rfl (by rw [firstNe_none hi f0_1]; rfl)⟩
theorem pc_outref2_inner (s cs : List UInt8) (hs : s.length < 4294967281) :
  PureCall Tryz.prog J 92 [.one (.d (.str s)), .one (.d (.str cs))] (.one (.d (.bool (ofB s cs)))) := by
 refine PureCall.of_body tOk (fn := Tryz.f92) Tryz.func92 (by kernel_rfl) rfl (Nat.le_of_ble_eq_true rfl) (fun E => ?_)
 refine W.seq ?_
 refine W.region ?_
 refine S.pure tOk zOk rfl rfl rfl ?_
 refine thenK_n ?_
 refine W.seq ?_
 refine W.seq ?_
 refine W.region ?_
 refine S.pure tOk zOk rfl rfl rfl ?_
 refine S.pure tOk zOk rfl rfl rfl ?_
 refine S.pure tOk zOk rfl rfl rfl ?_
 refine thenK_n ?_
 refine W.block ?_
 refine W.loop (fun k st => ∃ i : Nat, i ≤ s.length ∧ (s.take i).all (fun c => cs.contains c) = true ∧ k = s.length - i ∧ ∃ t b2 r2 m2, st = ⟨t, [] ++ b2, [] ++ r2, [] ++ m2⟩ ∧ holdsL t [(0, .one (.d (.str s))), (1, .one (.d (.str cs))), (7, .one (.d (.int .i64 (s.length : Int)))), (8, .one (.d (.int .i64 (i : Int))))]) (s.length) ⟨0, Nat.zero_le _, by simp, rfl, _, _, _, _, rfl, rfl, rfl, rfl, rfl, trivial⟩ ?_
 rintro k0 _ ⟨i, f0_0, f0_1, rfl, t0, bb0, rr0, mm0, rfl, hh0⟩
 refine W.keepR _ _ _ _ _ _ _ hh0 rfl ?_
 refine W.seq ?_
 refine W.region ?_
 refine S.pure tOk zOk rfl rfl rfl ?_
 refine thenK_n ?_
 refine W.seq ?_
 refine W.cond rfl (fun c1 => ?_) (fun c1 => ?_)
 ·skip
  have hi : i < s.length := by simpa using c1
  refine W.skip ?_
  refine thenK_n ?_
  refine W.seq ?_
  refine W.block ?_
  refine W.seq ?_
  refine W.region ?_
  refine S.pure tOk zOk rfl rfl rfl ?_
  refine S.pure tOk zOk rfl rfl rfl ?_
  refine thenK_n ?_
  refine W.seq ?_
  refine W.region ?_
  refine S.pure tOk zOk rfl rfl rfl ?_
  refine S.pure tOk zOk rfl rfl rfl ?_
  refine S.pure tOk zOk rfl rfl rfl ?_
  refine S.pure tOk zOk rfl (str_ok hi) rfl ?_
  refine S.call rfl rfl rfl rfl rfl (pc_IndexByte _ _) ?_
  refine S.pure tOk zOk rfl rfl rfl ?_
  refine thenK_n ?_
  refine W.cond rfl (fun c2 => ?_) (fun c2 => ?_)
  ·skip
   refine W.seq ?_
   refine W.region ?_
   refine S.pure tOk zOk rfl rfl rfl ?_
   refine thenK_n ?_
   refine W.ret ?_
   refine blockK_r ?_
   refine thenK_r ?_
   refine thenK_r ?_
   refine blockK_r ?_
   refine thenK_r ?_
   exact ⟨_, rfl, rfl, LeV.of_force rfl (by rw [ofB, all_false_of (d := 0) hi (in_f c2)]; rfl)⟩
  ·skip
   refine W.skip ?_
   refine blockK_n ?_
   refine thenK_n ?_
   refine W.region ?_
   refine S.pure tOk zOk rfl rfl rfl ?_
   refine S.pure tOk zOk rfl rfl rfl ?_
   refine loop_n (s.length - (i + 1)) (by omega) ⟨i + 1, by omega, all_take_succ (d := 0) (φ := fun c => cs.contains c) hi f0_1 (in_t c2), rfl, _, _, _, _, rfl, rfl, rfl, rfl, inc_i64 (by omega), trivial⟩
 ·skip
  have hi : s.length ≤ i := by simpa using c1
  refine W.exit ?_
  refine thenK_e ?_
  refine thenK_e ?_
  refine blockK_x ?_
  refine thenK_n ?_
  refine W.seq ?_
  refine W.region ?_
  refine S.pure tOk zOk rfl rfl rfl ?_
  refine thenK_n ?_
  refine W.ret ?_
  exact ⟨_, rfl, rfl, LeV.of_force rfl (by rw [ofB, all_of_take hi f0_1]; rfl)⟩
theorem pc_outref2_Of (s cs : List UInt8) (hcs : cs.length < 4294967281) (ha : cs.all (fun b => decide (b.toNat < 128)) = true) (hs : s.length < 4294967281) :
  PureCall Tryz.prog J 47 [.one (.d (.str s)), .one (.d (.str cs))] (.one (.d (.bool (ofB s cs)))) := by
 refine PureCall.of_body tOk (fn := Tryz.f47) Tryz.func47 (by kernel_rfl) rfl (Nat.le_of_ble_eq_true rfl) (fun E => ?_)
 refine W.seq ?_
 refine W.region ?_
 refine S.pure tOk zOk rfl rfl rfl ?_
 refine thenK_n ?_
 refine W.seq ?_
 refine W.region ?_
 refine S.pure tOk zOk rfl rfl rfl ?_
 refine S.pure tOk zOk rfl rfl rfl ?_
 refine S.call rfl rfl rfl rfl rfl (pc_Trim _ _ (by omega) hcs ha) ?_
 refine S.pure tOk zOk rfl rfl rfl ?_
 refine S.pure tOk zOk rfl rfl rfl ?_
 refine S.pureG tOk zOk rfl rfl tg (fun _ => rfl) rfl ?_
 refine S.pureG tOk zOk rfl rfl tg (fun _ => rfl) rfl ?_
 refine S.callG rfl rfl rfl rfl tg rfl rfl (fun _ => pc_outref2_inner _ _ (by omega)) ?_
 refine S.pickAnd tOk zOk rfl rfl tg ?_
 refine S.pure tOk zOk rfl rfl rfl ?_
 refine thenK_n ?_
 refine W.ret ?_
 exact ⟨_, rfl, rfl, LeV.of_eq (congrArg (fun b => V.one (C.d (D.bool b))) (of_eq s cs))⟩
theorem pc_outref2_NameOf (s : List UInt8) (hs : s.length < 4294967281) :
  PureCall Tryz.prog J 20 [.one (.d (.str s))] (.one (.d (.bool (nameB s)))) := by
 refine PureCall.of_body tOk (fn := Tryz.f20) Tryz.func20 (by kernel_rfl) rfl (Nat.le_of_ble_eq_true rfl) (fun E => ?_)
 refine W.seq ?_
 refine W.region ?_
 refine S.pure tOk zOk rfl rfl rfl ?_
 refine thenK_n ?_
 refine W.seq ?_
 refine W.region ?_
 refine S.pure tOk zOk rfl rfl rfl ?_
 refine S.pure tOk zOk rfl rfl rfl ?_
 refine S.pure tOk zOk rfl rfl rfl ?_
 refine S.pureG tOk zOk rfl rfl tg (fun _ => rfl) rfl ?_
 refine S.pureG tOk zOk rfl rfl tg (fun _ => rfl) rfl ?_
 refine S.pureG tOk zOk rfl rfl tg (fun _ => rfl) rfl ?_
 refine S.pickAnd tOk zOk rfl rfl tg ?_
 refine S.pure tOk zOk rfl rfl rfl ?_
 refine S.pureG tOk zOk rfl rfl tg (fun _ => rfl) rfl ?_
 refine S.callG rfl rfl rfl rfl tg rfl rfl (fun _ => pc_outref2_Of _ nameS (by decide) (by decide) (by omega)) ?_
 refine S.pickAnd tOk zOk rfl rfl tg ?_
 refine S.pure tOk zOk rfl rfl rfl ?_
 refine S.pureG tOk zOk rfl rfl tg (fun _ => rfl) rfl ?_
 refine S.pureG tOk zOk rfl rfl tg (fun h => sl_okT (l := 0) (h := 1) rfl rfl (by decide) (by decide) (name_len h)) rfl ?_
 refine S.callG rfl rfl rfl rfl tg rfl rfl (fun _ => pc_outref2_Of _ smallS (by decide) (by decide) (by simp; omega)) ?_
 refine S.pickAnd tOk zOk rfl rfl tg ?_
 refine S.pure tOk zOk rfl rfl rfl ?_
 refine thenK_n ?_
 refine W.ret ?_
 exact ⟨_, rfl, rfl, LeV.of_force rfl (by rw [← nameR s]; rfl)⟩
theorem pc_outref2_PathOf (s : List UInt8) (hs : s.length < 4294967281) :
  PureCall Tryz.prog J 116 [.one (.d (.str s))] (.one (.d (.bool (pathB s)))) := by
 have hl := split_le s [47]
 have hm := fun i => @split_at s [47] i
 refine PureCall.of_body tOk (fn := Tryz.f116) Tryz.func116 (by kernel_rfl) rfl (Nat.le_of_ble_eq_true rfl) (fun E => ?_)
 refine W.seq ?_
 refine W.region ?_
 refine S.pure tOk zOk rfl rfl rfl ?_
 refine thenK_n ?_
 refine W.seq ?_
 refine W.seq ?_
 refine W.region ?_
 refine S.pure tOk zOk rfl rfl rfl ?_
 refine S.pure tOk zOk rfl rfl rfl ?_
 refine S.pure tOk zOk rfl rfl rfl ?_
 refine thenK_n ?_
 refine W.cond rfl (fun c1 => ?_) (fun c1 => ?_)
 ·skip
  refine W.seq ?_
  refine W.region ?_
  refine S.pure tOk zOk rfl rfl rfl ?_
  refine thenK_n ?_
  refine W.ret ?_
  refine thenK_r ?_
  exact ⟨_, rfl, rfl, LeV.of_force rfl (by rw [pathB, Bool.and_comm, not_le_of c1]; rfl)⟩
 ·skip
  refine W.skip ?_
  refine thenK_n ?_
  refine W.seq ?_
  refine W.seq ?_
  refine W.region ?_
  refine S.pure tOk zOk rfl rfl rfl ?_
  refine S.call rfl rfl rfl rfl rfl (pc_Split _ _ hs (by decide)) ?_
  refine S.pure tOk zOk rfl rfl rfl ?_
  refine S.pure tOk zOk rfl rfl rfl ?_
  refine thenK_n ?_
  refine W.block ?_
  refine W.loop (fun k st => ∃ i : Nat, i ≤ (Lib.split s [47]).length ∧ ((Lib.split s [47]).take i).all partB = true ∧ k = (Lib.split s [47]).length - i ∧ ∃ t b2 r2 m2, st = ⟨t, [] ++ b2, [] ++ r2, [] ++ m2⟩ ∧ holdsL t [(9, .one (.d (.vec 1 ((Lib.split s [47]).map fun x => [.str x])))), (10, .one (.d (.int .i64 (((Lib.split s [47]).map fun x => ([.str x] : List D)).length : Int)))), (11, .one (.d (.int .i64 (i : Int))))]) ((Lib.split s [47]).length) ⟨0, Nat.zero_le _, by simp, rfl, _, _, _, _, rfl, rfl, rfl, rfl, trivial⟩ ?_
  rintro k0 _ ⟨i, f0_0, f0_1, rfl, t0, bb0, rr0, mm0, rfl, hh0⟩
  refine W.keepR _ _ _ _ _ _ _ hh0 rfl ?_
  refine W.seq ?_
  refine W.region ?_
  refine S.pure tOk zOk rfl rfl rfl ?_
  refine thenK_n ?_
  refine W.seq ?_
  refine W.cond rfl (fun c2 => ?_) (fun c2 => ?_)
  ·skip
   have hi := row_lt c2
   refine W.skip ?_
   refine thenK_n ?_
   refine W.seq ?_
   refine W.block ?_
   refine W.seq ?_
   refine W.region ?_
   refine S.pureE tOk zOk rfl (row_ok hi) (row_at [] hi) rfl ?_
   refine S.pure tOk zOk rfl rfl rfl ?_
   refine S.pure tOk zOk rfl rfl rfl ?_
   refine thenK_n ?_
   refine W.seq ?_
   refine W.region ?_
   refine S.pure tOk zOk rfl rfl rfl ?_
   refine S.pure tOk zOk rfl rfl rfl ?_
   refine S.pure tOk zOk rfl rfl rfl ?_
   refine S.pureG tOk zOk rfl rfl tg (fun _ => rfl) rfl ?_
   refine S.pureG tOk zOk rfl rfl tg (fun _ => rfl) rfl ?_
   refine S.pickOr tOk zOk rfl rfl tg ?_
   refine S.pure tOk zOk rfl rfl rfl ?_
   refine S.pureG tOk zOk rfl rfl tg (fun _ => rfl) rfl ?_
   refine S.pureG tOk zOk rfl rfl tg (fun _ => rfl) rfl ?_
   refine S.pickOr tOk zOk rfl rfl tg ?_
   refine S.pure tOk zOk rfl rfl rfl ?_
   refine S.pureG tOk zOk rfl rfl tg (fun _ => rfl) rfl ?_
   refine S.pureG tOk zOk rfl rfl tg (fun _ => rfl) rfl ?_
   refine S.pureG tOk zOk rfl rfl tg (fun _ => rfl) rfl ?_
   refine S.pickOr tOk zOk rfl rfl tg ?_
   refine S.pure tOk zOk rfl rfl rfl ?_
   refine S.pureG tOk zOk rfl rfl tg (fun _ => rfl) rfl ?_
   refine S.callG rfl rfl rfl rfl tg rfl rfl (fun _ => pc_outref2_Of _ partS (by decide) (by decide) (by have := hm i; omega)) ?_
   refine S.pureG tOk zOk rfl rfl tg (fun _ => rfl) rfl ?_
   refine S.pickOr tOk zOk rfl rfl tg ?_
   refine thenK_n ?_
   refine W.cond rfl (fun c3 => ?_) (fun c3 => ?_)
   ·skip
    refine W.seq ?_
    refine W.region ?_
    refine S.pure tOk zOk rfl rfl rfl ?_
    refine thenK_n ?_
    refine W.ret ?_
    refine blockK_r ?_
    refine thenK_r ?_
    refine thenK_r ?_
    refine blockK_r ?_
    refine thenK_r ?_
    exact ⟨_, rfl, rfl, LeV.of_force rfl (by rw [pathB, all_false_of (d := []) hi (path_f c3)]; rfl)⟩
   ·skip
    refine W.skip ?_
    refine blockK_n ?_
    refine thenK_n ?_
    refine W.region ?_
    refine S.pure tOk zOk rfl rfl rfl ?_
    refine S.pure tOk zOk rfl rfl rfl ?_
    refine loop_n ((Lib.split s [47]).length - (i + 1)) (by omega) ⟨i + 1, hi, all_take_succ (d := []) hi f0_1 (path_t c3), rfl, _, _, _, _, rfl, rfl, rfl, inc_i64 (by omega), trivial⟩
  ·skip
   have hi := row_ge c2
   refine W.exit ?_
   refine thenK_e ?_
   refine thenK_e ?_
   refine blockK_x ?_
   refine thenK_n ?_
   refine W.seq ?_
   refine W.region ?_
   refine S.pure tOk zOk rfl rfl rfl ?_
   refine thenK_n ?_
   refine W.ret ?_
   exact ⟨_, rfl, rfl, LeV.of_force rfl (by rw [pathB, all_of_take hi f0_1, le_of c1]; rfl)⟩
theorem pc_outref2_ValueOf (s : List UInt8) (hs : s.length < 4294967281) :
  PureCall Tryz.prog J 117 [.one (.d (.str s))] (.one (.d (.bool (valueB s)))) := by
 refine PureCall.of_body tOk (fn := Tryz.f117) Tryz.func117 (by kernel_rfl) rfl (Nat.le_of_ble_eq_true rfl) (fun E => ?_)
 refine W.seq ?_
 refine W.region ?_
 refine S.pure tOk zOk rfl rfl rfl ?_
 refine thenK_n ?_
 refine W.seq ?_
 refine W.seq ?_
 refine W.region ?_
 refine S.pure tOk zOk rfl rfl rfl ?_
 refine S.pure tOk zOk rfl rfl rfl ?_
 refine S.pure tOk zOk rfl rfl rfl ?_
 refine thenK_n ?_
 refine W.block ?_
 refine W.loop (fun k st => ∃ i : Nat, i ≤ s.length ∧ (s.take i).all (fun c => !(decide (bI c < 32) || decide (bI c > 126))) = true ∧ k = s.length - i ∧ ∃ t b2 r2 m2, st = ⟨t, [] ++ b2, [] ++ r2, [] ++ m2⟩ ∧ holdsL t [(0, .one (.d (.str s))), (5, .one (.d (.int .i64 (s.length : Int)))), (6, .one (.d (.int .i64 (i : Int))))]) (s.length) ⟨0, Nat.zero_le _, by simp, rfl, _, _, _, _, rfl, rfl, rfl, rfl, trivial⟩ ?_
 rintro k0 _ ⟨i, f0_0, f0_1, rfl, t0, bb0, rr0, mm0, rfl, hh0⟩
 refine W.keepR _ _ _ _ _ _ _ hh0 rfl ?_
 refine W.seq ?_
 refine W.region ?_
 refine S.pure tOk zOk rfl rfl rfl ?_
 refine thenK_n ?_
 refine W.seq ?_
 refine W.cond rfl (fun c1 => ?_) (fun c1 => ?_)
 ·skip
  have hi : i < s.length := by simpa using c1
  refine W.skip ?_
  refine thenK_n ?_
  refine W.seq ?_
  refine W.block ?_
  refine W.seq ?_
  refine W.region ?_
  refine S.pure tOk zOk rfl rfl rfl ?_
  refine S.pure tOk zOk rfl rfl rfl ?_
  refine thenK_n ?_
  refine W.seq ?_
  refine W.region ?_
  refine S.pure tOk zOk rfl rfl rfl ?_
  refine S.pure tOk zOk rfl rfl rfl ?_
  refine S.pure tOk zOk rfl (str_ok hi) rfl ?_
  refine S.pure tOk zOk rfl rfl rfl ?_
  refine S.pure tOk zOk rfl rfl rfl ?_
  refine S.pureG tOk zOk rfl rfl tg (fun _ => rfl) rfl ?_
  refine S.pureG tOk zOk rfl rfl tg (fun _ => rfl) rfl ?_
  refine S.pureG tOk zOk rfl rfl tg (fun _ => str_ok hi) rfl ?_
  refine S.pureG tOk zOk rfl rfl tg (fun _ => rfl) rfl ?_
  refine S.pickOr tOk zOk rfl rfl tg ?_
  refine thenK_n ?_
  refine W.cond rfl (fun c2 => ?_) (fun c2 => ?_)
  ·skip
   refine W.seq ?_
   refine W.region ?_
   refine S.pure tOk zOk rfl rfl rfl ?_
   refine thenK_n ?_
   refine W.ret ?_
   refine blockK_r ?_
   refine thenK_r ?_
   refine thenK_r ?_
   refine blockK_r ?_
   refine thenK_r ?_
   exact ⟨_, rfl, rfl, LeV.of_force rfl (by rw [← valueR, all_false_of (d := 0) hi (not_t c2)]; rfl)⟩
  ·skip
   refine W.skip ?_
   refine blockK_n ?_
   refine thenK_n ?_
   refine W.region ?_
   refine S.pure tOk zOk rfl rfl rfl ?_
   refine S.pure tOk zOk rfl rfl rfl ?_
   refine loop_n (s.length - (i + 1)) (by omega) ⟨i + 1, by omega, all_take_succ (d := 0) hi f0_1 (not_f c2), rfl, _, _, _, _, rfl, rfl, rfl, inc_i64 (by omega), trivial⟩
 ·skip
  have hi : s.length ≤ i := by simpa using c1
  refine W.exit ?_
  refine thenK_e ?_
  refine thenK_e ?_
  refine blockK_x ?_
  refine thenK_n ?_
  refine W.seq ?_
  refine W.region ?_
  refine S.pure tOk zOk rfl rfl rfl ?_
  refine S.pure tOk zOk rfl rfl rfl ?_
  refine S.pure tOk zOk rfl rfl rfl ?_
  refine S.pure tOk zOk rfl rfl rfl ?_
  refine thenK_n ?_
  refine W.ret ?_
  exact ⟨_, rfl, rfl, LeV.of_force rfl (by rw [← valueR, all_of_take hi f0_1]; rfl)⟩
theorem pc_outref2_Number (s : List UInt8) (m : Int) (hm : 0 ≤ m) (hs : s.length < 4294967281) :
  PureCall Tryz.prog J 182 [.one (.d (.str s)), .one (.d (.int .i64 m))] (.tup [.one (.d (.int .i64 (numR s m).1)), .one (.d (.bool (numR s m).2))]) := by
 refine PureCall.of_body tOk (fn := Tryz.f182) Tryz.func182 (by kernel_rfl) rfl (Nat.le_of_ble_eq_true rfl) (fun E => ?_)
 refine W.seq ?_
 refine W.region ?_
 refine S.pure tOk zOk rfl rfl rfl ?_
 refine S.pure tOk zOk rfl rfl rfl ?_
 refine thenK_n ?_
 refine W.seq ?_
 refine W.seq ?_
 refine W.region ?_
 refine S.pure tOk zOk rfl rfl rfl ?_
 refine S.pure tOk zOk rfl rfl rfl ?_
 refine S.pure tOk zOk rfl rfl rfl ?_
 refine S.pureG tOk zOk rfl rfl tg (fun _ => rfl) rfl ?_
 refine S.pureG tOk zOk rfl rfl tg (fun _ => rfl) rfl ?_
 refine S.pureG tOk zOk rfl rfl tg (fun _ => rfl) rfl ?_
 refine S.pureG tOk zOk rfl rfl tg (fun _ => rfl) rfl ?_
 refine S.pickOr tOk zOk rfl rfl tg ?_
 refine S.pure tOk zOk rfl rfl rfl ?_
 refine S.pureG tOk zOk rfl rfl tg (fun _ => rfl) rfl ?_
 refine S.callG rfl rfl rfl rfl tg rfl rfl (fun _ => pc_outref2_Of _ digitS (by decide) (by decide) (by omega)) ?_
 refine S.pureG tOk zOk rfl rfl tg (fun _ => rfl) rfl ?_
 refine S.pickOr tOk zOk rfl rfl tg ?_
 refine S.pure tOk zOk rfl rfl rfl ?_
 refine S.pureG tOk zOk rfl rfl tg (fun _ => rfl) rfl ?_
 refine S.pureG tOk zOk rfl rfl tg (fun _ => rfl) rfl ?_
 refine S.pureG tOk zOk rfl rfl tg (fun _ => rfl) rfl ?_
 refine S.pureG tOk zOk rfl rfl tg (fun _ => rfl) rfl ?_
 refine S.pureG tOk zOk rfl rfl tg (fun _ => rfl) rfl ?_
 refine S.pureG tOk zOk rfl rfl tg (fun h => idx_ok (Int.le_refl _) (gt1 (andr h))) rfl ?_
 refine S.pureG tOk zOk rfl rfl tg (fun _ => rfl) rfl ?_
 refine S.pickAndG tOk zOk rfl rfl rfl tg tg ?_
 refine S.pickOr tOk zOk rfl rfl tg ?_
 refine thenK_n ?_
 refine W.cond rfl (fun c1 => ?_) (fun c1 => ?_)
 ·skip
  refine W.seq ?_
  refine W.region ?_
  refine S.pure tOk zOk rfl rfl rfl ?_
  refine S.pure tOk zOk rfl rfl rfl ?_
  refine thenK_n ?_
  refine W.ret ?_
  refine thenK_r ?_
  exact ⟨_, rfl, rfl, LeV.of_force rfl (by rw [show numR s m = (0, false) from if_pos c1]; rfl)⟩
 ·skip
  refine W.skip ?_
  refine thenK_n ?_
  refine W.seq ?_
  refine W.region ?_
  refine S.pure tOk zOk rfl rfl rfl ?_
  refine S.call rfl rfl rfl rfl rfl (pc_Atoi _ (by omega)) ?_
  refine S.pure tOk zOk rfl rfl rfl ?_
  refine S.pure tOk zOk rfl rfl rfl ?_
  refine S.pure tOk zOk rfl rfl rfl ?_
  refine S.pure tOk zOk rfl rfl rfl ?_
  refine S.pure tOk zOk rfl rfl rfl ?_
  refine thenK_n ?_
  refine W.seq ?_
  refine W.regionD mixed (by kernel_rfl) ?_
  refine D.pure tOk zOk rfl rfl rfl rfl ?_
  refine D.pure tOk zOk rfl rfl rfl rfl ?_
  refine D.pure tOk zOk rfl rfl rfl rfl ?_
  refine D.pure tOk zOk rfl rfl rfl rfl ?_
  refine D.pure tOk zOk rfl rfl rfl rfl ?_
  refine thenK_n ?_
  refine W.ret ?_
  exact ⟨_, rfl, rfl, LeV.of_force rfl (by rw [show numR s m = (atoiV s, atoiOk s) from if_neg (Bool.eq_false_iff.1 c1)])⟩
theorem pc_outref2_VersionText (v : Ver) (he : v.e.length < 4294967281) (ho : VerOk v) :
  PureCall Tryz.prog J 58 [verV v] (.one (.d (.str (textB v.a v.b v.c v.e)))) := by
 have h1 := Lib.itoa_length_le v.a ho.1 ho.2.1
 have h2 := Lib.itoa_length_le v.b ho.2.2.1 ho.2.2.2.1
 have h3 := Lib.itoa_length_le v.c ho.2.2.2.2.1 ho.2.2.2.2.2
 refine PureCall.of_body tOk (fn := Tryz.f58) Tryz.func58 (by kernel_rfl) rfl (Nat.le_of_ble_eq_true rfl) (fun E => ?_)
 refine W.seq ?_
 refine W.region ?_
 refine S.box rfl rfl rfl rfl ?_
 refine S.pure tOk zOk rfl rfl rfl ?_
 refine thenK_n ?_
 refine W.seq ?_
 refine W.regionD mixed (by kernel_rfl) ?_
 refine D.pure tOk zOk rfl rfl rfl rfl ?_
 refine D.pure tOk zOk rfl rfl rfl rfl ?_
 refine D.call rfl rfl rfl rfl rfl (pc_Itoa _ ho.1 ho.2.1) ?_
 refine D.pure tOk zOk rfl rfl (cat_ok (by simp [-List.getD_eq_getElem?_getD]; omega)) rfl ?_
 refine D.pure tOk zOk rfl rfl rfl rfl ?_
 refine D.pure tOk zOk rfl rfl rfl rfl ?_
 refine D.call rfl rfl rfl rfl rfl (pc_Itoa _ ho.2.2.1 ho.2.2.2.1) ?_
 refine D.pure tOk zOk rfl rfl (cat_ok (by simp [-List.getD_eq_getElem?_getD]; omega)) rfl ?_
 refine D.pure tOk zOk rfl rfl (cat_ok (by simp [-List.getD_eq_getElem?_getD]; omega)) rfl ?_
 refine D.pure tOk zOk rfl rfl rfl rfl ?_
 refine D.pure tOk zOk rfl rfl rfl rfl ?_
 refine D.call rfl rfl rfl rfl rfl (pc_Itoa _ ho.2.2.2.2.1 ho.2.2.2.2.2) ?_
 refine D.pure tOk zOk rfl rfl (cat_ok (by simp [-List.getD_eq_getElem?_getD]; omega)) rfl ?_
 refine D.pure tOk zOk rfl rfl rfl rfl ?_
 refine thenK_n ?_
 refine W.seq ?_
 refine W.seq ?_
 refine W.region ?_
 refine S.pure tOk zOk rfl rfl rfl ?_
 refine S.pure tOk zOk rfl rfl rfl ?_
 refine S.pure tOk zOk rfl rfl rfl ?_
 refine thenK_n ?_
 refine W.cond rfl (fun c1 => ?_) (fun c1 => ?_)
 ·skip
  refine W.region ?_
  refine S.pure tOk zOk rfl rfl rfl ?_
  refine S.pure tOk zOk rfl rfl rfl ?_
  refine S.pure tOk zOk rfl rfl rfl ?_
  refine S.pure tOk zOk rfl (cat_ok (by simp [-List.getD_eq_getElem?_getD]; omega)) rfl ?_
  refine S.pure tOk zOk rfl (cat_ok (by simp [-List.getD_eq_getElem?_getD]; omega)) rfl ?_
  refine S.pure tOk zOk rfl rfl rfl ?_
  refine thenK_n ?_
  refine W.seq ?_
  refine W.region ?_
  refine S.pure tOk zOk rfl rfl rfl ?_
  refine S.pure tOk zOk rfl rfl rfl ?_
  refine thenK_n ?_
  refine W.ret ?_
  exact ⟨_, rfl, rfl, LeV.of_force rfl (by simp_all [textB])⟩
 ·skip
  refine W.skip ?_
  refine thenK_n ?_
  refine W.seq ?_
  refine W.region ?_
  refine S.pure tOk zOk rfl rfl rfl ?_
  refine S.pure tOk zOk rfl rfl rfl ?_
  refine thenK_n ?_
  refine W.ret ?_
  exact ⟨_, rfl, rfl, LeV.of_force rfl (by simp_all [textB])⟩
end Go.Proofs.YtlkhdembbogcaaaGreatDoor

/- Plain words on cutting and splitting at one byte, and on decimal numerals. -/
set_option linter.unusedVariables false
set_option linter.unusedSimpArgs false
namespace Go.Proofs.YtlkhdembbogcaaaGreatDoor
open Go
theorem index_none {c : UInt8} : ∀ {s : List UInt8}, c ∉ s → Lib.index s [c] = -1
  | [], _ => rfl
  | b :: l, h => by
    have h1 : c ≠ b := fun e => h (e ▸ List.mem_cons_self ..)
    have h2 := index_none (s := l) (fun e => h (List.mem_cons_of_mem _ e))
    have hp : List.isPrefixOf [c] (b :: l) = false := by simp [List.isPrefixOf, h1]
    unfold Lib.index
    rw [hp, h2]; rfl
theorem index_at {c : UInt8} {y : List UInt8} : ∀ {x : List UInt8}, c ∉ x → Lib.index (x ++ c :: y) [c] = x.length
  | [], _ => by
    have hp : List.isPrefixOf [c] (c :: y) = true := by simp [List.isPrefixOf]
    show Lib.index (c :: y) [c] = 0
    unfold Lib.index
    rw [hp]; rfl
  | b :: l, h => by
    have h1 : c ≠ b := fun e => h (e ▸ List.mem_cons_self ..)
    have h2 := index_at (x := l) (y := y) (fun e => h (List.mem_cons_of_mem _ e))
    have hp : List.isPrefixOf [c] (b :: (l ++ c :: y)) = false := by simp [List.isPrefixOf, h1]
    show Lib.index (b :: (l ++ c :: y)) [c] = _
    unfold Lib.index
    rw [hp, h2]
    simp only [List.length_cons, Bool.false_eq_true, if_false]
    rw [if_neg (by simp)]
    rfl
theorem cut_none {c : UInt8} {s : List UInt8} (h : c ∉ s) : Lib.cut s [c] = (s, [], false) := by
  unfold Lib.cut
  rw [index_none h]; rfl
theorem cut_at {c : UInt8} {x y : List UInt8} (h : c ∉ x) : Lib.cut (x ++ c :: y) [c] = (x, y, true) := by
  unfold Lib.cut
  rw [index_at h, if_pos (by omega)]
  have e1 : ((x.length : Int)).toNat = x.length := by omega
  rw [e1]
  have e2 : x.length + [c].length = (x ++ [c]).length := by simp
  rw [e2]
  have e3 : x ++ c :: y = (x ++ [c]) ++ y := by simp
  rw [e3, List.drop_left]
  simp
theorem countFrom_fuel {sub : List UInt8} (hs : sub ≠ []) : ∀ (f g : Nat) (s : List UInt8), s.length < f → s.length < g → Lib.countFrom sub f s = Lib.countFrom sub g s
  | 0, _, _, h, _ => absurd h (Nat.not_lt_zero _)
  | _ + 1, 0, _, _, h => absurd h (Nat.not_lt_zero _)
  | f + 1, g + 1, s, h1, h2 => by
    unfold Lib.countFrom
    split
    · rfl
    · rename_i hi
      have h0 : 0 ≤ Lib.index s sub := by
        rcases Lib.index_spec s sub with h | ⟨i, h, _⟩
        · simp [h.1] at hi
        · omega
      have hr := Lib.index_room s sub h0
      have hl : 1 ≤ sub.length := by cases sub with | nil => exact absurd rfl hs | cons a l => simp
      rw [countFrom_fuel hs f g _ (by simp; omega) (by simp; omega)]
theorem split_none {c : UInt8} {s : List UInt8} (h : c ∉ s) : Lib.split s [c] = [s] := by
  have : Lib.count s [c] = 0 := by simp [Lib.count, Lib.countFrom, index_none h]
  unfold Lib.split
  rw [this]; rfl
theorem split_cons {c : UInt8} {x y : List UInt8} (h : c ∉ x) : Lib.split (x ++ c :: y) [c] = x :: Lib.split y [c] := by
  have hi := index_at (y := y) h
  have hm : ¬ (Lib.index (x ++ c :: y) [c] == -1) = true := by rw [hi]; simp
  have e1 : ((x.length : Int)).toNat = x.length := by omega
  have hd : (x ++ c :: y).drop (x.length + [c].length) = y := by
    have e2 : x.length + [c].length = (x ++ [c]).length := by simp
    have e3 : x ++ c :: y = (x ++ [c]) ++ y := by simp
    rw [e2, e3, List.drop_left]
  have hc : Lib.count (x ++ c :: y) [c] = Lib.count y [c] + 1 := by
    unfold Lib.count
    rw [Lib.countFrom, if_neg hm, hi, e1, hd, Nat.add_comm 1]
    rw [countFrom_fuel (by simp) _ (y.length + 1) y (by simp; omega) (by omega)]
  unfold Lib.split
  rw [hc, Lib.splitK, if_neg hm, hi, e1, hd]
  simp
def dstep (a : Nat) (c : UInt8) : Nat := a * 10 + (c.toNat - 48)
theorem dstep_eq (a : Nat) (c : UInt8) : dstep a c = a * 10 + (c.toNat - 48) := by unfold dstep; rfl
def dec (acc : Nat) (l : List UInt8) : Nat := l.foldl dstep acc
theorem dec_nil (acc : Nat) : dec acc [] = acc := by unfold dec; rw [List.foldl_nil]
theorem dec_cons (acc : Nat) (c : UInt8) (l : List UInt8) : dec acc (c :: l) = dec (acc * 10 + (c.toNat - 48)) l := by unfold dec; rw [List.foldl_cons, dstep_eq]
end Go.Proofs.YtlkhdembbogcaaaGreatDoor

/- Plain words on versions: the reference's order and errors are the program's. -/
set_option linter.unusedVariables false
set_option linter.unusedSimpArgs false
namespace Go.Proofs.YtlkhdembbogcaaaGreatDoor
open Go
section
variable {v : Ver}
theorem chk_a (h : (!inB v.a 0 999999) = true) : v.check = 3 := by
  rw [inB_eq, Bool.not_not] at h
  simp [Ver.check, checkB, outsideN, h]
theorem in_out {x : Int} (h : (!inB x 0 999999) = false) : outsideN x = false := by
  rw [inB_eq, Bool.not_not] at h; exact h
theorem chk_b (ha : (!inB v.a 0 999999) = false) (h : (!inB v.b 0 999999) = true) : v.check = 3 := by
  rw [inB_eq, Bool.not_not] at h
  simp [Ver.check, checkB, outsideN, h]
theorem chk_c (ha : (!inB v.a 0 999999) = false) (hb : (!inB v.b 0 999999) = false) (h : (!inB v.c 0 999999) = true) : v.check = 3 := by
  rw [inB_eq, Bool.not_not] at h
  simp [Ver.check, checkB, outsideN, h]
theorem chk_0 (ha : (!inB v.a 0 999999) = false) (hb : (!inB v.b 0 999999) = false) (hc : (!inB v.c 0 999999) = false) (he : (v.e == []) = true) : v.check = 0 := by
  simp [Ver.check, checkB, in_out ha, in_out hb, in_out hc, he]
theorem chk_e (ha : (!inB v.a 0 999999) = false) (hb : (!inB v.b 0 999999) = false) (hc : (!inB v.c 0 999999) = false) (he : (v.e == []) = false) : v.check = if earlyB v.e then 0 else 2 := by
  simp only [Ver.check, checkB, in_out ha, in_out hb, in_out hc, he]
  cases earlyB v.e <;> rfl
theorem chk_len (ha : (!inB v.a 0 999999) = false) (hb : (!inB v.b 0 999999) = false) (hc : (!inB v.c 0 999999) = false) (he : (v.e == []) = false) (h : decide ((v.e.length : Int) > 40) = true) : v.check = 2 := by
  rw [chk_e ha hb hc he, earlyB, Bool.and_comm, not_le_of h]; rfl
theorem chk_word {j : Nat} (ha : (!inB v.a 0 999999) = false) (hb : (!inB v.b 0 999999) = false) (hc : (!inB v.c 0 999999) = false) (he : (v.e == []) = false) (hj : j < (Lib.split v.e [46]).length) (h : wordB ((Lib.split v.e [46]).getD j []) = false) : v.check = 2 := by
  rw [chk_e ha hb hc he, earlyB, all_false_of hj h]; rfl
theorem chk_ok {j : Nat} (ha : (!inB v.a 0 999999) = false) (hb : (!inB v.b 0 999999) = false) (hc : (!inB v.c 0 999999) = false) (he : (v.e == []) = false) (hl : decide ((v.e.length : Int) ≤ 40) = true) (hj : (Lib.split v.e [46]).length ≤ j) (h : ((Lib.split v.e [46]).take j).all wordB = true) : v.check = 0 := by
  rw [chk_e ha hb hc he, earlyB, all_of_take hj h, hl]; rfl
end
theorem verr_at {vs : List Ver} {i : Nat} (hi : i < vs.length) : (vs.map Ver.check).getD i 0 = (vs.getD i Ver.z).check := by
  simp [List.getD, List.getElem?_eq_getElem hi]
theorem verr_go {vs : List Ver} {i : Nat} (hi : i < vs.length) (h : (vs.getD i Ver.z).check = 0) : ((vs.map Ver.check).getD i 0 == 0) = true := by
  rw [verr_at hi, h]; rfl
theorem verr_hit {vs : List Ver} {i : Nat} {n : Int} (hi : i < vs.length) (ht : ((vs.map Ver.check).take i).all (· == 0) = true) (h : (vs.getD i Ver.z).check = n) (hn : n ≠ 0) : firstNe (vs.map Ver.check) = n := by
  rw [firstNe_hit (by simpa using hi) ht (by rw [verr_at hi, h]; exact hn), verr_at hi, h]
theorem ver_at {vs : List Ver} {i n : Nat} (hv : ∀ v ∈ vs, v.e.length < n) (hi : i < vs.length) : (vs.getD i Ver.z).e.length < n := by
  rw [List.getD_eq_getElem?_getD, List.getElem?_eq_getElem hi]
  exact hv _ (List.getElem_mem hi)
theorem cw_pq {p q : List UInt8} (h : (ofB p digitS && ofB q digitS) = true) : cwR p q = Lib.compareInt (atoiV p) (atoiV q) := if_pos h
theorem cw_p {p q : List UInt8} (h : (ofB p digitS && ofB q digitS) = false) (hp : ofB p digitS = true) : cwR p q = -1 := by rw [cwR, if_neg (Bool.eq_false_iff.1 h), if_pos hp]
theorem cw_q {p q : List UInt8} (h : (ofB p digitS && ofB q digitS) = false) (hp : ofB p digitS = false) (hq : ofB q digitS = true) : cwR p q = 1 := by rw [cwR, if_neg (Bool.eq_false_iff.1 h), if_neg (Bool.eq_false_iff.1 hp), if_pos hq]
theorem cw_n {p q : List UInt8} (h : (ofB p digitS && ofB q digitS) = false) (hp : ofB p digitS = false) (hq : ofB q digitS = false) : cwR p q = Lib.compareBytes p q := by rw [cwR, if_neg (Bool.eq_false_iff.1 h), if_neg (Bool.eq_false_iff.1 hp), if_neg (Bool.eq_false_iff.1 hq)]
theorem cw_go {xs ys : List (List UInt8)} {i : Nat} {x : Int} (hi : i < xs.length ∧ i < ys.length) (h : cwR (xs.getD i []) (ys.getD i []) = x) (hx : (x != 0) = false) : ((List.zipWith cwR xs ys).getD i 0 == 0) = true := by
  rw [zip_at [] [] hi.1 hi.2, h]; simpa using hx
theorem cw_lt {xs ys : List (List UInt8)} {i : Nat} (hi : i < xs.length ∧ i < ys.length) : i < (List.zipWith cwR xs ys).length := by simp; omega
theorem cw_hit {xs ys : List (List UInt8)} {i : Nat} {x : Int} (hi : i < xs.length ∧ i < ys.length) (ht : ((List.zipWith cwR xs ys).take i).all (· == 0) = true) (h : cwR (xs.getD i []) (ys.getD i []) = x) (hx : (x != 0) = true) : rowsR xs ys = x := by
  have hz := zip_at (f := cwR) [] [] hi.1 hi.2
  have hh := firstNe_hit (cw_lt hi) ht (by rw [hz, h]; simpa using hx)
  rw [hz, h] at hh
  rw [rowsR, hh, if_pos hx]
theorem cw_end {xs ys : List (List UInt8)} {i : Nat} (hi : xs.length ≤ i ∨ ys.length ≤ i) (ht : ((List.zipWith cwR xs ys).take i).all (· == 0) = true) : rowsR xs ys = Lib.compareInt xs.length ys.length := by
  rw [rowsR, firstNe_none (by simp; omega) ht]; rfl
section
variable {v w : Ver}
theorem cmp_1 (h : (firstNe [Lib.compareInt v.a w.a, Lib.compareInt v.b w.b, Lib.compareInt v.c w.c] != 0) = true) : compareR v w = firstNe [Lib.compareInt v.a w.a, Lib.compareInt v.b w.b, Lib.compareInt v.c w.c] := if_pos h
theorem cmp_2 (h : (firstNe [Lib.compareInt v.a w.a, Lib.compareInt v.b w.b, Lib.compareInt v.c w.c] != 0) = false) (he : (v.e == [] || w.e == []) = true) : compareR v w = Lib.compareInt (min1 w.e.length) (min1 v.e.length) := by
  rw [compareR, if_neg (Bool.eq_false_iff.1 h), if_pos he]
theorem cmp_3 (h : (firstNe [Lib.compareInt v.a w.a, Lib.compareInt v.b w.b, Lib.compareInt v.c w.c] != 0) = false) (he : (v.e == [] || w.e == []) = false) : compareR v w = rowsR (Lib.split v.e [46]) (Lib.split w.e [46]) := by
  rw [compareR, if_neg (Bool.eq_false_iff.1 h), if_neg (Bool.eq_false_iff.1 he)]
end
theorem dec_ge : ∀ (l : List UInt8) (acc : Nat), acc * 10 ^ l.length ≤ dec acc l
  | [], acc => by rw [dec_nil]; exact Nat.le_of_eq (Nat.mul_one acc)
  | c :: l, acc => by
    have h := dec_ge l (acc * 10 + (c.toNat - 48))
    simp only [dec_cons, List.length_cons, Nat.pow_succ]
    refine Nat.le_trans ?_ h
    rw [Nat.mul_comm (10 ^ l.length) 10, ← Nat.mul_assoc]
    exact Nat.mul_le_mul_right _ (by omega)
theorem dig_le {c : UInt8} (h : isDigit (bI c) = true) : 48 ≤ c.toNat ∧ c.toNat ≤ 57 := by
  unfold isDigit bI at h; simp at h; omega
theorem dec_lt : ∀ (l : List UInt8) (acc : Nat), (l.all fun c => isDigit (bI c)) = true → dec acc l < (acc + 1) * 10 ^ l.length
  | [], acc, _ => by rw [dec_nil]; exact Nat.lt_of_lt_of_le (Nat.lt_succ_self acc) (Nat.le_of_eq (Nat.mul_one _).symm)
  | c :: l, acc, h => by
    simp only [List.all_cons, Bool.and_eq_true] at h
    have h1 := dig_le h.1
    have h2 := dec_lt l (acc * 10 + (c.toNat - 48)) h.2
    simp only [dec_cons, List.length_cons, Nat.pow_succ]
    refine Nat.lt_of_lt_of_le h2 ?_
    rw [Nat.mul_comm (10 ^ l.length) 10, ← Nat.mul_assoc]
    exact Nat.mul_le_mul_right _ (by omega)
theorem dec_mono {l m : List UInt8} {a b : Nat} (hn : l.length = m.length) (hl : (l.all fun c => isDigit (bI c)) = true) (h : a < b) : dec a l < dec b m := by
  refine Nat.lt_of_lt_of_le (dec_lt l a hl) (Nat.le_trans ?_ (dec_ge m b))
  rw [hn]; exact Nat.mul_le_mul_right _ h
theorem cmp_refl (x : Int) : Lib.compareInt x x = 0 := by unfold Lib.compareInt; rw [if_neg (by omega), if_neg (by omega)]
theorem cmp_lt {x y : Int} (h : x < y) : Lib.compareInt x y = -1 := by unfold Lib.compareInt; rw [if_pos h]
theorem cmp_gt {x y : Int} (h : y < x) : Lib.compareInt x y = 1 := by unfold Lib.compareInt; rw [if_neg (by omega), if_pos h]
theorem dec_cmp : ∀ (l m : List UInt8) (acc : Nat), l.length = m.length → (l.all fun c => isDigit (bI c)) = true → (m.all fun c => isDigit (bI c)) = true → Lib.compareBytes l m = Lib.compareInt (dec acc l) (dec acc m)
  | [], [], acc, _, _, _ => by rw [dec_nil, cmp_refl]; rfl
  | [], _ :: _, _, h, _, _ => by simp at h
  | _ :: _, [], _, h, _, _ => by simp at h
  | a :: l, b :: m, acc, h, hl, hm => by
    simp only [List.length_cons, Nat.add_right_cancel_iff] at h
    simp only [List.all_cons, Bool.and_eq_true] at hl hm
    have h1 := dig_le hl.1
    have h2 := dig_le hm.1
    unfold Lib.compareBytes
    split
    · rename_i hab
      have hab' : a.toNat < b.toNat := hab
      have := dec_mono (l := l) (m := m) (a := acc * 10 + (a.toNat - 48)) (b := acc * 10 + (b.toNat - 48)) h hl.2 (by omega)
      rw [cmp_lt (by rw [dec_cons, dec_cons]; omega)]
    · split
      · rename_i hab
        have hab' : b.toNat < a.toNat := hab
        have := dec_mono (l := m) (m := l) (a := acc * 10 + (b.toNat - 48)) (b := acc * 10 + (a.toNat - 48)) h.symm hm.2 (by omega)
        rw [cmp_gt (by rw [dec_cons, dec_cons]; omega)]
      · rename_i h3 h4
        have h3' : ¬ a.toNat < b.toNat := h3
        have h4' : ¬ b.toNat < a.toNat := h4
        have e : a.toNat = b.toNat := by omega
        rw [dec_cons, dec_cons, e]
        exact dec_cmp l m _ h hl.2 hm.2
theorem decFrom_dec : ∀ (l : List UInt8) (acc : Nat), (l.all fun c => isDigit (bI c)) = true → Lib.decFrom acc l = some (dec acc l)
  | [], acc, _ => by rw [dec_nil]; rfl
  | c :: l, acc, h => by
    simp only [List.all_cons, Bool.and_eq_true] at h
    have h1 := dig_le h.1
    unfold Lib.decFrom
    rw [show Lib.digitVal c = some (c.toNat - 48) by unfold Lib.digitVal; rw [if_pos h1]]
    rw [dec_cons]
    exact decFrom_dec l _ h.2
theorem atoi_dec {l : List UInt8} (hn : l ≠ []) (hl : l.length ≤ 18) (h : (l.all fun c => isDigit (bI c)) = true) : atoiV l = dec 0 l ∧ atoiOk l = true := by
  have e : Lib.atoiAll l = .ok ((dec 0 l : Nat) : Int) := by
    rw [Lib.atoiAll_short l hl]
    have : Lib.atoi l = some ((dec 0 l : Nat) : Int) := by
      match l, hn with
      | c :: r, _ =>
        have hd := decFrom_dec (c :: r) 0 h
        simp only [List.all_cons, Bool.and_eq_true] at h
        have h1 := dig_le h.1
        have h45 : (c == 45) = false := by rw [beq_eq_false_iff_ne]; intro e; subst e; simp at h1
        have h43 : (c == 43) = false := by rw [beq_eq_false_iff_ne]; intro e; subst e; simp at h1
        simp only [Lib.atoi, h45, h43, Lib.decNat, hd]
        rfl
    rw [this]; rfl
  unfold atoiV atoiOk
  rw [e]; exact ⟨rfl, rfl⟩
theorem numeral_of {w : List UInt8} (h : numeralB w = true) : (w.all fun c => isDigit (bI c)) = true ∧ w ≠ [] ∧ w.length ≤ 10 := by
  unfold numeralB eachB at h
  simp only [Bool.and_eq_true, Bool.not_eq_true', beq_eq_false_iff_ne, decide_eq_true_eq] at h
  exact ⟨h.1, h.2.1, by omega⟩
theorem word_of {w : List UInt8} (h : wordB w = true) : w ≠ [] ∧ w.length ≤ 10 ∧ numeralB w = ofB w digitS ∧ (numeralB w = true → bI (w.getD 0 0) = 48 → w = [48]) := by
  unfold wordB eachB at h
  simp only [Bool.and_eq_true, Bool.not_eq_true', beq_eq_false_iff_ne, decide_eq_true_eq] at h
  refine ⟨h.1.2.1, by omega, ?_, fun h1 h2 => ?_⟩
  · rw [ofB_digit, numeralB, eachB]
    have h10 : decide ((w.length : Int) ≤ 10) = true := decide_eq_true h.1.2.2
    rw [h10, show (w == []) = false from beq_eq_false_iff_ne.2 h.1.2.1]
    simp
  · have := h.2
    rw [h1, h2] at this
    simpa using this
theorem dec_long {p q : List UInt8} (hp : numeralB p = true) (hq : numeralB q = true) (h0 : bI (q.getD 0 0) = 48 → q = [48]) (h : p.length < q.length) : dec 0 p < dec 0 q := by
  obtain ⟨p1, p2, p3⟩ := numeral_of hp
  obtain ⟨q1, q2, q3⟩ := numeral_of hq
  have hlt := dec_lt p 0 p1
  match q, q2 with
  | c :: r, _ =>
    have hr : p.length ≤ r.length := by simp at h; omega
    have hc : c.toNat - 48 ≥ 1 := by
      simp only [List.all_cons, Bool.and_eq_true] at q1
      have h1 := dig_le q1.1
      apply Decidable.byContradiction; intro hh
      have e := h0 (by simp [bI]; omega)
      have : p.length = 0 := by
        have := congrArg List.length e; simp at this; simp [this] at hr
        exact hr ▸ rfl
      exact p2 (List.length_eq_zero_iff.1 this)
    have hge := dec_ge r (c.toNat - 48)
    have h2 : 10 ^ p.length ≤ 10 ^ r.length := Nat.pow_le_pow_right (by decide) hr
    have h3 : 1 * 10 ^ r.length ≤ (c.toNat - 48) * 10 ^ r.length := Nat.mul_le_mul_right _ hc
    simp only [dec_cons, Nat.zero_mul, Nat.zero_add] at hge ⊢
    omega
theorem cw_eq {p q : List UInt8} (hp : wordB p = true) (hq : wordB q = true) : cwB p q = cwR p q := by
  obtain ⟨p1, p2, p3, p4⟩ := word_of hp
  obtain ⟨q1, q2, q3, q4⟩ := word_of hq
  unfold cwB cwR
  rw [← p3, ← q3]
  cases np : numeralB p <;> cases nq : numeralB q <;> simp only [Bool.and_true, Bool.and_false, Bool.false_and, Bool.true_and, if_true, if_false, Bool.false_eq_true]
  · obtain ⟨dp, _, _⟩ := numeral_of np
    obtain ⟨dq, _, _⟩ := numeral_of nq
    rw [(atoi_dec p1 (by omega) dp).1, (atoi_dec q1 (by omega) dq).1]
    by_cases hl : p.length = q.length
    · rw [if_neg (by simp [hl])]
      exact dec_cmp p q 0 hl dp dq
    · rw [if_pos (by simp; omega)]
      by_cases h : p.length < q.length
      · rw [cmp_lt (by omega), cmp_lt (by have := dec_long np nq (q4 nq) h; omega)]
      · rw [cmp_gt (by omega), cmp_gt (by have := dec_long nq np (p4 np) (by omega); omega)]
theorem zip_eq : ∀ {xs ys : List (List UInt8)}, xs.all wordB = true → ys.all wordB = true → List.zipWith cwB xs ys = List.zipWith cwR xs ys
  | [], _, _, _ => by simp
  | _ :: _, [], _, _ => by simp
  | x :: xs, y :: ys, h1, h2 => by
    simp only [List.all_cons, Bool.and_eq_true] at h1 h2
    simp only [List.zipWith_cons_cons, cw_eq h1.1 h2.1, zip_eq h1.2 h2.2]
theorem bytes_refl : ∀ (l : List UInt8), Lib.compareBytes l l = 0
  | [] => rfl
  | a :: l => by
    unfold Lib.compareBytes
    rw [if_neg (by show ¬ a.toNat < a.toNat; omega), if_neg (by show ¬ a.toNat < a.toNat; omega)]
    exact bytes_refl l
theorem cwB_refl (p : List UInt8) : cwB p p = 0 := by
  unfold cwB
  cases numeralB p <;> simp [bytes_refl]
theorem rows_refl (xs : List (List UInt8)) : rowsB xs xs = 0 := by
  have : firstNe (List.zipWith cwB xs xs) = 0 := by
    unfold firstNe
    rw [List.find?_eq_none.2]
    · rfl
    · intro x hx
      have : ∀ (l : List (List UInt8)), ∀ x ∈ List.zipWith cwB l l, x = 0 := by
        intro l
        induction l with
        | nil => simp
        | cons a l ih => intro x hx; simp only [List.zipWith_cons_cons, List.mem_cons, cwB_refl] at hx; exact hx.elim id (ih x)
      simp [this xs x hx]
  rw [rowsB, this, cmp_refl]; rfl
theorem check_early {v : Ver} (h : v.check = 0) : v.e = [] ∨ (Lib.split v.e [46]).all wordB = true := by
  unfold Ver.check checkB at h
  split at h
  · cases h
  · split at h
    · cases h
    · rename_i h2
      cases he : (v.e == []) with
      | true => exact .inl (by simpa using he)
      | false =>
        refine .inr ?_
        rw [he] at h2
        simp only [Bool.not_false, Bool.true_and, Bool.not_eq_true, Bool.not_eq_false'] at h2
        unfold earlyB at h2
        exact (Bool.and_eq_true_iff.1 h2).1
theorem first3 (a b c d : Int) : firstNe [a, b, c, d] = if firstNe [a, b, c] != 0 then firstNe [a, b, c] else d := by
  unfold firstNe
  by_cases ha : a = 0 <;> by_cases hb : b = 0 <;> by_cases hc : c = 0 <;> by_cases hd : d = 0 <;> simp [ha, hb, hc, hd, bne_iff_ne]
theorem min1_nil : min1 (([] : List UInt8).length : Int) = 0 := rfl
theorem min1_pos {l : List UInt8} (h : l ≠ []) : min1 (l.length : Int) = 1 := by
  unfold min1
  cases l with
  | nil => exact absurd rfl h
  | cons a l => rw [if_neg (by simp only [List.length_cons]; omega)]
/-- Of right versions the reference's order is the program's. -/
theorem compare_eq {v w : Ver} (hv : v.check = 0) (hw : w.check = 0) : compareR v w = orderB v w := by
  unfold compareR orderB
  rw [first3]
  split
  · rfl
  · unfold ceB
    by_cases e1 : v.e = []
    · by_cases e2 : w.e = []
      · simp [e1, e2, min1, Lib.compareInt]
      · have hs : (([] : List UInt8) == w.e) = false := by rw [beq_eq_false_iff_ne]; exact fun e => e2 e.symm
        rw [e1, min1_nil, min1_pos e2, hs]; rfl
    · by_cases e2 : w.e = []
      · have hs : (v.e == ([] : List UInt8)) = false := by rw [beq_eq_false_iff_ne]; exact e1
        rw [e2, min1_nil, min1_pos e1, hs]; rfl
      · have h1 : (v.e == ([] : List UInt8)) = false := by rw [beq_eq_false_iff_ne]; exact e1
        have h2 : (w.e == ([] : List UInt8)) = false := by rw [beq_eq_false_iff_ne]; exact e2
        rw [h1, h2]
        have hr : rowsR (Lib.split v.e [46]) (Lib.split w.e [46]) = rowsB (Lib.split v.e [46]) (Lib.split w.e [46]) := by
          unfold rowsR rowsB
          rw [zip_eq ((check_early hv).resolve_left e1) ((check_early hw).resolve_left e2)]
        simp only [Bool.or_self, Bool.false_eq_true, if_false]
        rw [hr]
        by_cases e : v.e = w.e
        · rw [e, rows_refl]; simp
        · rw [if_neg (by simpa using e)]
end Go.Proofs.YtlkhdembbogcaaaGreatDoor
