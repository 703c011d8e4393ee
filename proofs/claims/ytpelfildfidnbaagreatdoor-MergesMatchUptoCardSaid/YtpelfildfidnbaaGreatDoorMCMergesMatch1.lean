/- Part 1 of a proof: A17, A18, A19, A21, A22, A23, A24, A25, A26, A27, A28, A29, A30, A32, A33, A34, A35, A36, A37, A39, A40, A41, A42, A43, A44, A62, Sh, A20, Shelf, P0, L1, V1, W1, V2, L2. -/
import Derived.Laws.AppendOwn
import Derived.Laws.OwnMore
import Derived.Shelf.Spec.SlicesGrow
import Derived.Laws.BytesArg
import Derived.MapKept
import Derived.Laws.MakeOwn
import Derived.Lib.ConvBytes
import Derived.Sort.KeysCollected
import Derived.Maps.RangeRun
import Derived.Shelf.Strings.Builder1
import Derived.Shelf.Strings.Builder2
import Derived.Shelf.Strings.Trim
import Derived.Shelf.Small.Utf8
import Derived.Shelf.Small.Bits
import Derived.Shelf.Small.Strs
import Derived.Shelf.Small.Wraps
import Derived.Shelf.Strings.BuilderF
import Derived.Shelf.Strings.BuilderK
import Derived.Shelf.Utf8.RuneCount
import Derived.Shelf.Strings.Builder2Cap
import Derived.Shelf.Strconv.Atoi
import Derived.Shelf.Strconv.Itoa0
import Derived.Shelf.Strconv.Itoa1
import Derived.Shelf.LaysM
import Derived.Shelf.Strconv.Itoa2
import Derived.Shelf.Strconv.Itoa3
import Derived.Shelf.Strconv.AtoiErrFast
import Derived.Shelf.Strconv.ParseIntEmpty
import Derived.Shelf.Strconv.AtoiFail
import Derived.Shelf.Strconv.Clone
import Derived.Shelf.Strconv.SyntaxError
import Derived.Shelf.LaysC
import Derived.Shelf.Strconv.ToError
import Derived.Shelf.Strconv.Lower
import Derived.Shelf.Strconv.ParseUint10
import Derived.Shelf.Strconv.ParseUint10Empty
import Derived.Shelf.Strconv.ParseUint10Any
import Derived.Shelf.Strconv.ParseInt10
import Derived.Shelf.Strconv.AtoiLong
import Derived.Shelf.Strconv.AtoiInnerAll
import Derived.Shelf.Strconv.RangeError
import Derived.Shelf.Strconv.ToErrorRange
import Derived.Shelf.Strconv.AtoiAll
import Derived.Shelf.Strconv.ErrVarAll
import Derived.Shelf.Strconv.ParseUintEmpty
import Derived.Shelf.Strconv.ParseUint10b64
import Derived.Shelf.Strconv.ParseUint10b32
import Derived.Shelf.Strconv.ParseUint10b16
import Derived.Shelf.Strconv.ParseUint10b8
import Derived.Shelf.Strings.Search1
import Derived.Shelf.Strings.Search2
import Derived.Shelf.Strings.Search3
import Derived.Shelf.Strings.Cut
import Derived.Shelf.Strings.Count
import Derived.Shelf.Strings.Shaped
import Derived.Shelf.Sort.Plain
import Derived.Shelf.Strings.Prefix
import Derived.Shelf.Strings.Split
import Derived.Shelf.Strings.Replace
import Derived.Shelf.Strings.SplitShaped
import Derived.Shelf.Unicode.Decode
import Derived.Shelf.Strings.Runes
import Derived.Shelf.Strings.RuneCount
import Derived.Shelf.Strings.AsciiSet
import Derived.Shelf.Strings.Explode
import Derived.Shelf.Unicode.DecodeSlow
import Derived.Shelf.Unicode.DecodeAny
import Derived.Shelf.Unicode.DecodeLast
import Derived.Shelf.Slices.Turned
import Derived.Shelf.Slices.Equal
import Derived.Ground.Names2Prog
import Derived.Shelf.Slices.Clone
import Derived.Shelf.Slices.SearchI
import Derived.Shelf.Slices.In.SortNone
import Derived.Shelf.Slices.Empties2
import Derived.Ground.SlgnProg
import Derived.Shelf.SlicesE.Clone
import Derived.Test.YtpelfildfidnbaaGreatDoorProg
import Derived.Lib.SplitLaws
import Derived.Lib.ItoaNum
import Derived.Lib.AtoiAll
import Derived.Shelf.Strings.SlTrimAscii
import Derived.Lib.TrailingZeros
import Derived.Lib.Small
import Derived.Lib.Bytealg
import Derived.Lib.IndexMore
import Derived.Test.YtpelfildfidnbaaGreatDoorMCMergesMatch0
set_option linter.unusedVariables false
set_option linter.unusedSimpArgs false
set_option maxRecDepth 100000
set_option maxHeartbeats 4000000
namespace Go.Proofs.YtpelfildfidnbaaGreatDoor
section
open Go Go.RowKit
variable {P : Program}
theorem append_cases {w : World} (base : Nat) (t ty e : TypeId) (i : TypeInfo) (z : Value) (size bytes : Nat) (ht : P.underlying t = some (.slice e)) (hi : P.info? e = some i) (hz : i.zero = some z)
    (hsize : i.size = size) (hby : i.bytes = bytes) (hzs : z.cells.size = size) (hsz : 0 < size) (v : Value) (n : Nat) (xs : List Value) (hown : w.ownsRow base e size v n xs)
    (a : Addr) (m c : Nat) (news : List Value) (hl : news.length = m * size) (hnews : ∀ j u, news[j]? = some u → w.cell? (a.add j) = some u) (h1 : ∀ u ∈ news, u.oneCell' = true)
    (h63 : n + m ≤ maxLen) (hbytes : (n + m) * bytes ≤ 140737488355328) (hbase : base ≤ w.heap.size) :
    ∃ v' w', (Builtin.append_ #[t, t] ty #[v, .slice (some a) m c]).run P w = .ok v' w' ∧ w'.ownsRow base e size v' (n + m) (xs ++ news) ∧ w.grownBy w' v.ownBlock ∧
      (v' = .slice none 0 0 ∨ ∃ g cap, v' = .slice (some ⟨g, 0, none⟩) (n + m) cap ∧ (v.ownBlock = some g ∨ g = w.heap.size)) ∧ (v' = .slice none 0 0 ↔ v = .slice none 0 0 ∧ m = 0) := by
  obtain ⟨v', w', hr, ho', hg, hn⟩ := run_append_own w base t ty e i z size bytes ht hi hz hsize hby hzs hsz v n xs hown a m c news hl hnews h1 h63 hbytes hbase
  refine ⟨v', w', hr, ho', hg, ?_, hn⟩
  have h63' : ((n + m : Nat) : Int) ≤ 9223372036854775807 := by simp only [maxLen] at h63; omega
  subst hsize; subst hby
  rcases hown.2 with ⟨rfl, rfl⟩ | ⟨g, cap, cur, rfl, hb, hcell, hnc, hcm, hcs, htk⟩
  · by_cases hm : m = 0
    · exact .inl (hn.2 ⟨rfl, hm⟩)
    · have h2 := run_append_nil (P := P) w t ty e i z ht hi hz a m c news hl hnews (by omega) (by simpa using h63') (by rw [Nat.zero_add] at hbytes; omega)
      rw [h2] at hr
      injection hr with e1 e2
      exact .inr ⟨_, _, by rw [← e1, Nat.zero_add], .inr rfl⟩
  · by_cases hroom : n + m ≤ cap
    · obtain ⟨w2, h2, _⟩ := run_append_fits (P := P) w base t ty e i i.size ht hi rfl g n cap xs ⟨hown.1, .inr ⟨g, cap, cur, rfl, hb, hcell, hnc, hcm, hcs, htk⟩⟩ a m c news hl hnews h1 hroom
      rw [h2] at hr
      injection hr with e1 e2
      exact .inr ⟨_, _, e1.symm, .inl rfl⟩
    · have hold : ∀ j u, xs[j]? = some u → w.cell? ((⟨g, 0, none⟩ : Addr).add j) = some u := fun j u hj => by
        have hjl := (List.getElem?_eq_some_iff.1 hj).1
        rw [← htk, List.getElem?_take] at hj
        split at hj
        · have : w.cell? ((⟨g, 0, none⟩ : Addr).add j) = cur[j]? := by
            unfold Addr.add
            split
            · rename_i h0; subst h0; simp [World.cell?, hcell]
            · simp [World.cell?, hcell]
          rw [this]; simpa using hj
        · cases hj
      have h2 := run_append_grow (P := P) w t ty e i z ht hi hz ⟨g, 0, none⟩ n cap xs hown.1 hold a m c news hl hnews (by omega) h63' (growslice_fits (by omega) hbytes)
      rw [h2] at hr
      injection hr with e1 e2
      exact .inr ⟨_, _, e1.symm, .inr rfl⟩
def Gh.row (g : Gh) (r at' cap' : Nat) : Gh := ⟨g.im, fun x => if x = .r r then at' else g.at_ x, fun l => if l = r then 0 else g.off l, fun l => if l = r then cap' else g.cap l⟩
def RowFit (im : Nat → Prop) (w : World) (o : RowO) (at' cap' : Nat) : Prop :=
 ∃ vs, w.heap[at']? = some (.cells vs o.ty (0, 0)) ∧ vs.size = cap' * o.sz ∧ cap' ≤ maxLen ∧ o.xs.length ≤ cap' ∧ (∀ x ∈ o.xs, x.length = o.sz) ∧ (∀ v ∈ vs, True) ∧
  (∀ (i j : Nat) (x : List D) (d : D) (v : Value), o.xs[i]? = some x → x[j]? = some d → vs[i * o.sz + j]? = some v → RD im w d v)
def St.withRow (s : St) (r : Nat) (o : RowO) : St := ⟨s.t, s.b, s.r.set r (some o), s.m⟩
theorem rows_get {s : St} {r : Nat} {o : RowO} (ho : s.r[r]? = some (some o)) : s.sh.rows[r]? = some (some o.form) := by simp [St.sh, ho]
theorem Rel.setRow {J : Inv} {k0 : Lens} {E : Env J k0} {n : Nat} {g : Gh} {s : St} {a : Act} {w w' : World} (rel : Rel E n g s a w) {r : Nat} {o o' : RowO} (ho : s.r[r]? = some (some o)) (hver : o.ver < o'.ver) {at' cap' : Nat}
  (hos : w'.os = w.os) (htape : w'.tape = w.tape) (hout : w'.output = w.output) (hsize : w.heap.size ≤ w'.heap.size)
  (hblk : ∀ k, k < w.heap.size → (o.al = true → k ≠ g.at_ (.r r)) → w'.heap[k]? = w.heap[k]?)
  (hnew : o'.al = true → (o.al = true ∧ at' = g.at_ (.r r)) ∨ (w.heap.size ≤ at')) (hfit : if o'.al then RowFit g.im w' o' at' cap' else o'.xs = []) :
  Rel E n (g.row r at' cap') (s.withRow r o') a w' ∧ Ext g s.sh w (g.row r at' cap') (s.withRow r o').sh w' := by
 have hr : r < s.r.length := (List.getElem?_eq_some_iff.1 ho).1
 have hrl : o.al = true → s.live (.r r) := fun h => ⟨o, ho, h⟩
 have hatr : (g.row r at' cap').at_ (.r r) = at' := by simp [Gh.row]
 have hato : ∀ x, x ≠ .r r → (g.row r at' cap').at_ x = g.at_ x := fun x hx => by simp [Gh.row, hx]
 have hin : at' < w'.heap.size ∨ o'.al = false := by
  cases hal : o'.al with
  | false => exact .inr rfl
  | true =>
   rw [hal, if_pos rfl] at hfit
   obtain ⟨vs, h, _⟩ := hfit
   exact .inl (Array.getElem?_eq_some_iff.1 h).1
 have hlive : ∀ x, (s.withRow r o').live x → x ≠ .r r → s.live x := fun x hx hne => by
  cases x with
  | b l => exact hx
  | m l => exact hx
  | r l =>
   obtain ⟨q, hq, hal⟩ := hx
   have hne' : r ≠ l := fun e => hne (by rw [e])
   refine ⟨q, ?_, hal⟩
   simpa [St.withRow, List.getElem?_set, hne'] using hq
 have hself : (s.withRow r o').live (.r r) → o'.al = true := fun ⟨q, hq, hal⟩ => by
  have : q = o' := by simpa [St.withRow, List.getElem?_set, hr] using hq.symm
  rw [← this]; exact hal
 have hsame : ∀ b, g.im b → w'.heap[b]? = w.heap[b]? := fun b hb => hblk b (rel.imlt b hb) (fun hal e => rel.heap.new _ (hrl hal) (e ▸ hb))
 have hkeep : ∀ x, s.live x → x ≠ .r r → w'.heap[g.at_ x]? = w.heap[g.at_ x]? := fun x hx hne => hblk _ (rel.heap.lt x hx) (fun hal e => hne (rel.heap.inj x (.r r) hx (hrl hal) e))
 have ext : Ext g s.sh w (g.row r at' cap') (s.withRow r o').sh w' := by
  refine ⟨fun b hb => hb, hsame, Nat.le_refl _, Nat.le_refl _, by simp [St.sh, St.withRow], fun l _ => hato _ (by simp), fun l _ => hato _ (by simp), fun q al ver sz len hq h => ?_⟩
  by_cases e : q = r
  ·skip
   subst e
   refine ⟨_, _, _, _, rows_get ho, ?_, ?_⟩
   ·skip
    simp [St.sh, St.withRow, List.getElem?_set, hr, RowO.form] at h
    obtain ⟨_, h, _⟩ := h
    omega
   ·skip
    intro he
    simp [St.sh, St.withRow, List.getElem?_set, hr, RowO.form] at h
    obtain ⟨_, h, _⟩ := h
    omega
  ·skip
   have hne : ¬ r = q := fun e' => e e'.symm
   have h' : s.sh.rows[q]? = some (some (al, ver, sz, len)) := by
    simpa [St.sh, St.withRow, List.getElem?_set, hne] using h
   exact ⟨al, ver, sz, len, h', Nat.le_refl _, fun _ => ⟨rfl, rfl, Nat.le_refl _, hato _ (by simp [e]), by simp [Gh.row, e], by simp [Gh.row, e]⟩⟩
 refine ⟨?_, ext⟩
 have hown : ∀ x, (s.withRow r o').live x → E.lent ((g.row r at' cap').at_ x) ∨ E.w0.heap.size ≤ (g.row r at' cap').at_ x := fun x hx => by
  by_cases e : x = .r r
  ·skip
   subst e
   rw [hatr]
   rcases hnew (hself hx) with ⟨h1, h2⟩ | h
   ·skip
    rw [h2]; exact rel.own _ (hrl h1)
   ·skip
    exact .inr (Nat.le_trans rel.below.size h)
  ·skip
   rw [hato x e]; exact rel.own x (hlive x hx e)
 have hbel : BelowX E.lent E.w0 w' := rel.below.trans (l2 := fun k => o.al = true ∧ k = g.at_ (.r r)) ⟨hos, htape, hout, hsize, fun k hk hn => hblk k hk (fun hal e => hn ⟨hal, e⟩)⟩ (fun k ⟨hal, e⟩ hk => by
  rcases rel.own _ (hrl hal) with h | h
  ·skip
   rw [e]; exact h
  ·skip
   omega)
 refine ⟨hbel, rel.ext.trans ext, fun b hb => Nat.lt_of_lt_of_le (rel.imlt b hb) hsize, rel.imold, hown, ⟨fun x hx => ?_, fun x hx => ?_, fun x y hx hy he => ?_, fun l cs hl => ?_, fun l q hq => ?_, fun l es hl => ?_⟩, rel.size, rel.defers, fun i hi => (rel.tmps i hi).mono ext⟩
 ·skip
  by_cases e : x = .r r
  ·skip
   subst e
   rw [hatr]
   exact hin.resolve_right (by rw [hself hx]; simp)
  ·skip
   rw [hato x e]; exact Nat.lt_of_lt_of_le (rel.heap.lt x (hlive x hx e)) hsize
 ·skip
  by_cases e : x = .r r
  ·skip
   subst e
   rw [hatr]
   rcases hnew (hself hx) with ⟨h1, h2⟩ | h
   ·skip
    rw [h2]; exact rel.heap.new _ (hrl h1)
   ·skip
    intro hb; have := rel.imlt _ hb; omega
  ·skip
   rw [hato x e]; exact rel.heap.new x (hlive x hx e)
 ·skip
  have cross : ∀ z, (s.withRow r o').live z → z ≠ .r r → (s.withRow r o').live (.r r) → at' = g.at_ z → False := fun z hz hne hx he => by
   rcases hnew (hself hx) with ⟨h1, h2⟩ | h
   ·skip
    exact hne (rel.heap.inj z (.r r) (hlive z hz hne) (hrl h1) (by rw [← he, h2]))
   ·skip
    have := rel.heap.lt z (hlive z hz hne); omega
  by_cases e1 : x = .r r
  ·skip
   by_cases e2 : y = .r r
   ·skip
    rw [e1, e2]
   ·skip
    subst e1
    rw [hatr, hato y e2] at he
    exact (cross y hy e2 hx he).elim
  ·skip
   by_cases e2 : y = .r r
   ·skip
    subst e2
    rw [hatr, hato x e1] at he
    exact (cross x hx e1 hy he.symm).elim
   ·skip
    rw [hato x e1, hato y e2] at he
    exact rel.heap.inj x y (hlive x hx e1) (hlive y hy e2) he
 ·skip
  have hl' : s.b[l]? = some cs := hl
  obtain ⟨vs, t, h1, h2, h3⟩ := rel.heap.box l cs hl'
  have hlv : s.live (.b l) := (List.getElem?_eq_some_iff.1 hl').1
  exact ⟨vs, t, by rw [hato _ (by simp), hkeep _ hlv (by simp)]; exact h1, h2, fun j c v hc hv => (h3 j c v hc hv).mono ext⟩
 ·skip
  by_cases e : l = r
  ·skip
   subst e
   have hq' : q = o' := by simpa [St.withRow, List.getElem?_set, hr] using hq.symm
   subst hq'
   by_cases hal : q.al = true
   ·skip
    rw [if_pos hal] at hfit ⊢
    obtain ⟨vs, h1, h2, h3, h4, h5, h6, h7⟩ := hfit
    have ho0 : (g.row l at' cap').off l = 0 := by simp [Gh.row]
    have hc0 : (g.row l at' cap').cap l = cap' := by simp [Gh.row]
    rw [hatr, ho0, hc0]
    exact ⟨vs, q.ty, h1, ⟨by rw [Nat.zero_add]; exact h2, rfl, rfl, h3⟩, h4, h5, h6, fun i j x d v p1 p2 p3 => h7 i j x d v p1 p2 (by rwa [Nat.zero_add] at p3)⟩
   ·skip
    rw [if_neg hal] at hfit ⊢; exact hfit
  ·skip
   have hne : ¬ r = l := fun e' => e e'.symm
   have hq' : s.r[l]? = some (some q) := by simpa [St.withRow, List.getElem?_set, hne] using hq
   have h := rel.heap.row l q hq'
   by_cases hal : q.al = true
   ·skip
    rw [if_pos hal] at h ⊢
    obtain ⟨vs, t, h1, h2, h3, h4, h5, h6⟩ := h
    have ho0 : (g.row r at' cap').off l = g.off l := by simp [Gh.row, e]
    have hc0 : (g.row r at' cap').cap l = g.cap l := by simp [Gh.row, e]
    have hlv : s.live (.r l) := ⟨q, hq', hal⟩
    rw [hato _ (by simp [e]), ho0, hc0]
    exact ⟨vs, t, by rw [hkeep _ hlv (by simp [e])]; exact h1, h2, h3, h4, h5, fun i j x d v p1 p2 p3 => (h6 i j x d v p1 p2 p3).mono ext.im ext.same⟩
   ·skip
    rw [if_neg hal] at h ⊢; exact h
 ·skip
  have hl' : s.m[l]? = some es := hl
  obtain ⟨arr, clock, h1, h2, h3⟩ := rel.heap.map l es hl'
  have hlv : s.live (.m l) := (List.getElem?_eq_some_iff.1 hl').1
  exact ⟨arr, clock, by rw [hato _ (by simp), hkeep _ hlv (by simp)]; exact h1, h2, fun i x y hx hy => ⟨(h3 i x y hx hy).1.mono ext, (h3 i x y hx hy).2.mono ext⟩⟩
theorem RD.of_im {im : Nat → Prop} {w w' : World} {d : D} {v : Value} (h : RD im w d v) (hs : ∀ b, im b → w'.heap[b]? = w.heap[b]?) : RD im w' d v := h.mono (fun _ h => h) hs
theorem row_form {J : Inv} {k0 : Lens} {E : Env J k0} {n : Nat} {g : Gh} {s : St} {a : Act} {w : World} (rel : Rel E n g s a w) {r : Nat} {o : RowO} (ho : s.r[r]? = some (some o)) {u : Value} (hu : RV g s.sh w (.one (.row r o.ver 0 o.xs.length)) u) :
    ∃ flat, w.ownsRow 0 o.ty o.sz u o.xs.length flat ∧ (u = .slice none 0 0 ↔ o.al = false) ∧ (o.al = true → u.ownBlock = some (g.at_ (.r r))) ∧
      (∀ (i j : Nat) (x : List D) (d : D) (v : Value), o.xs[i]? = some x → x[j]? = some d → flat[i * o.sz + j]? = some v → RD g.im w d v) ∧ (∀ x ∈ o.xs, x.length = o.sz) := by
  cases hu with | one _ _ hu => cases hu with | row _ _ _ _ _ h1 h2 hx =>
  obtain ⟨_, hx⟩ := hx _ _ _ _ (rows_get ho)
  obtain ⟨_, hx⟩ := hx rfl
  have hrow := rel.heap.row r o ho
  by_cases hal : o.al = true
  · rw [if_pos hal] at hrow hx
    obtain ⟨vs, t', q1, ⟨q2, q3, q4, q5⟩, q6, q7, _, q8⟩ := hrow
    rw [q4] at hx q2 q8
    simp only [Nat.zero_add, Nat.zero_mul, Nat.sub_zero] at hx q2 q8
    subst q3
    have hle : o.xs.length * o.sz ≤ vs.size := by rw [q2]; exact Nat.mul_le_mul_right _ q6
    refine ⟨vs.toList.take (o.xs.length * o.sz), ⟨by simp; omega, .inr ⟨g.at_ (.r r), g.cap r, vs, hx, Nat.zero_le _, q1, q6, q5, q2, rfl⟩⟩, ?_, fun _ => by rw [hx]; rfl, fun i j x d v p1 p2 p3 => ?_, q7⟩
    · rw [hx, hal]; simp
    · refine q8 i j x d v p1 p2 ?_
      rw [List.getElem?_take] at p3
      split at p3
      · simpa using p3
      · cases p3
  · have hf : o.al = false := by simpa using hal
    rw [if_neg hal] at hrow hx
    rw [hrow]
    exact ⟨[], ⟨by simp, .inl ⟨hx, rfl⟩⟩, by rw [hx, hf]; simp, fun h => absurd h hal, fun i j x d v p1 => by simp at p1, by simp⟩
theorem Rel.append {J : Inv} {k0 : Lens} {E : Env J k0} {T : TypeId → Option TI} (hT : TabOk P T) {n : Nat} {g : Gh} {s : St} {a : Act} {w : World} (rel : Rel E n g s a w) {t e ty : TypeId} {ti ei : TI} (hti : T t = some ti) (hd : ti.desc = .slice e)
    (hei : T e = some ei) (hz : ei.zero.cells.size = ei.size) (hpos : 0 < ei.size) {r : Nat} {o : RowO} (ho : s.r[r]? = some (some o)) (hsz : o.sz = ei.size) (hty : o.ty = e) {news : List (List D)} {u v : Value}
    (hu : RV g s.sh w (.one (.row r o.ver 0 o.xs.length)) u) (hv : RV g s.sh w (.one (.d (.vec ei.size news))) v) (h63 : o.xs.length + news.length ≤ maxLen) (hb : (o.xs.length + news.length) * ei.bytes ≤ 140737488355328) :
    ∃ v' w' g', (Builtin.append_ #[t, t] ty #[u, v]).run P w = .ok v' w' ∧ Rel E n g' (s.withRow r ⟨o.al || !news.isEmpty, o.ver + 1, o.sz, o.ty, o.xs ++ news⟩) a w' ∧
      Ext g s.sh w g' (s.withRow r ⟨o.al || !news.isEmpty, o.ver + 1, o.sz, o.ty, o.xs ++ news⟩).sh w' ∧
      RV g' (s.withRow r ⟨o.al || !news.isEmpty, o.ver + 1, o.sz, o.ty, o.xs ++ news⟩).sh w' (.one (.row r (o.ver + 1) 0 (o.xs ++ news).length)) v' := by
  have hr : r < s.r.length := (List.getElem?_eq_some_iff.1 ho).1
  obtain ⟨flat, hown, hnil, hblk, hcells, hrows⟩ := row_form rel ho hu
  obtain ⟨ht, _⟩ := hT t ti hti
  rw [hd] at ht
  obtain ⟨_, info, hi1, hi2, hi3, hi4, _⟩ := hT e ei hei
  have hu1 : u.oneCell' = true := by cases hu with | one _ _ hu => exact hu.one
  -- the state's new row, the value's relation
  have mkRV : ∀ (al : Bool) (at' cap' : Nat) (v' : Value) (w' : World), v'.oneCell' = true → (v' = if al then .slice (some ⟨at', 0, none⟩) (o.xs ++ news).length cap' else .slice none 0 0) →
      RV (g.row r at' cap') (s.withRow r ⟨al, o.ver + 1, o.sz, o.ty, o.xs ++ news⟩).sh w' (.one (.row r (o.ver + 1) 0 (o.xs ++ news).length)) v' := fun al at' cap' v' w' h1 h2 => by
    refine .one _ _ (.row _ _ _ _ _ h1 (by simpa [St.sh, St.withRow] using hr) (fun al' ver' sz len h => ?_))
    have hf := rows_get (s := s.withRow r ⟨al, o.ver + 1, o.sz, o.ty, o.xs ++ news⟩) (r := r) (o := ⟨al, o.ver + 1, o.sz, o.ty, o.xs ++ news⟩) (by simp [St.withRow, List.getElem?_set, hr])
    rw [hf] at h
    simp only [Option.some.injEq, RowO.form, Prod.mk.injEq] at h
    obtain ⟨rfl, rfl, rfl, rfl⟩ := h
    refine ⟨Nat.le_refl _, fun _ => ⟨by simp, ?_⟩⟩
    rw [h2]
    simp [Gh.row]
  -- the value that is appended
  have core : ∀ (ad : Addr) (c : Nat) (newsV : List Value), newsV.length = news.length * ei.size → (∀ j u, newsV[j]? = some u → w.cell? (ad.add j) = some u) → (∀ u ∈ newsV, u.oneCell' = true) →
      (∀ (i j : Nat) (x : List D) (d : D) (q : Value), news[i]? = some x → x[j]? = some d → newsV[i * ei.size + j]? = some q → RD g.im w d q) → (∀ x ∈ news, x.length = ei.size) → v = .slice (some ad) news.length c →
      ∃ v' w' g', (Builtin.append_ #[t, t] ty #[u, v]).run P w = .ok v' w' ∧ Rel E n g' (s.withRow r ⟨o.al || !news.isEmpty, o.ver + 1, o.sz, o.ty, o.xs ++ news⟩) a w' ∧
        Ext g s.sh w g' (s.withRow r ⟨o.al || !news.isEmpty, o.ver + 1, o.sz, o.ty, o.xs ++ news⟩).sh w' ∧
        RV g' (s.withRow r ⟨o.al || !news.isEmpty, o.ver + 1, o.sz, o.ty, o.xs ++ news⟩).sh w' (.one (.row r (o.ver + 1) 0 (o.xs ++ news).length)) v' := by
    intro ad c newsV l1 l2 l3 l4 l5 hv'
    subst hv'
    rw [hty, hsz] at hown
    obtain ⟨v', w', hrun, hown', hgr, hpl, hnn⟩ := append_cases (P := P) (w := w) 0 t ty e info ei.zero ei.size ei.bytes ht hi1 hi3 hi2 hi4 hz hpos u o.xs.length flat hown ad news.length c newsV l1 l2 l3 h63 hb (Nat.zero_le _)
    have hblk' : ∀ k, k < w.heap.size → (o.al = true → k ≠ g.at_ (.r r)) → w'.heap[k]? = w.heap[k]? := fun k hk hne => hgr.block k hk (fun e => by
      by_cases hal : o.al = true
      · rw [hblk hal] at e; exact hne hal (Option.some.inj e)
      · rw [hnil.2 (by simpa using hal)] at e; cases e)
    have hsame : ∀ b, g.im b → w'.heap[b]? = w.heap[b]? := fun b hb' => hblk' b (rel.imlt b hb') (fun hal e => rel.heap.new (.r r) ⟨o, ho, hal⟩ (e ▸ hb'))
    have hal' : v' = .slice none 0 0 ↔ (o.al || !news.isEmpty) = false := by
      rw [hnn, hnil]
      cases news with
      | nil => simp
      | cons x l => simp
    rcases hpl with hvn | ⟨g2, cap2, hv2, hpos2⟩
    · have hb1 := hal'.1 hvn
      have he : o.xs ++ news = [] := by
        have h1 := hown'.2
        rw [hvn] at h1
        rcases h1 with ⟨_, h⟩ | ⟨g', cap', cur, h, _⟩
        · have : (o.xs ++ news).length = 0 := by simpa using h
          exact List.length_eq_zero_iff.1 this
        · cases h
      obtain ⟨rel', ext⟩ := rel.setRow (o' := ⟨o.al || !news.isEmpty, o.ver + 1, o.sz, o.ty, o.xs ++ news⟩) (at' := 0) (cap' := 0) ho (Nat.lt_succ_self _) hgr.os hgr.tape hgr.output hgr.size hblk' (fun h => by simp only at h; rw [hb1] at h; cases h) (by simp only [hb1]; simpa using he)
      exact ⟨v', w', _, hrun, rel', ext, mkRV _ _ _ _ _ (by rw [hvn]; rfl) (by rw [hb1, hvn]; rfl)⟩
    · have hb1 : (o.al || !news.isEmpty) = true := by
        cases hh : (o.al || !news.isEmpty) with
        | true => rfl
        | false => have := hal'.2 hh; rw [hv2] at this; cases this
      obtain ⟨hlen, hcase⟩ := hown'
      rcases hcase with ⟨h, _⟩ | ⟨g', cap', cur, h, hb2, hc2, hn2, hm2, hs2, ht2⟩
      · rw [hv2] at h; cases h
      · rw [hv2] at h
        simp only [Value.slice.injEq, Option.some.injEq, Addr.mk.injEq, and_true, true_and] at h
        obtain ⟨rfl, rfl⟩ := h
        have hcur : ∀ k, k < (o.xs.length + news.length) * ei.size → cur[k]? = (flat ++ newsV)[k]? := fun k hk => by
          rw [← ht2, List.getElem?_take, if_pos hk]; simp
        have hfl : flat.length = o.xs.length * ei.size := hown.1
        obtain ⟨rel', ext⟩ := rel.setRow (o' := ⟨o.al || !news.isEmpty, o.ver + 1, o.sz, o.ty, o.xs ++ news⟩) (at' := g2) (cap' := cap2) ho (Nat.lt_succ_self _) hgr.os hgr.tape hgr.output hgr.size hblk'
          (fun _ => by
            rcases hpos2 with h | h
            · by_cases hal : o.al = true
              · rw [hblk hal] at h; exact .inl ⟨hal, (Option.some.inj h).symm⟩
              · rw [hnil.2 (by simpa using hal)] at h; cases h
            · exact .inr (by omega))
          (by
            rw [if_pos hb1]
            refine ⟨cur, by rw [hty]; exact hc2, by rw [hsz]; exact hs2, hm2, by simpa using hn2, fun x hx => ?_, fun _ _ => trivial, fun i j x d q p1 p2 p3 => ?_⟩
            · rcases List.mem_append.1 hx with h | h
              · exact hrows x h
              · rw [hsz]; exact l5 x h
            · refine RD.of_im ?_ hsame
              simp only at p1 p3
              rw [hsz] at p3
              by_cases hi : i < o.xs.length
              · rw [List.getElem?_append_left hi] at p1
                have hj : j < ei.size := by
                  have h1 := (List.getElem?_eq_some_iff.1 p2).1
                  rw [hrows x (List.mem_of_getElem? p1), hsz] at h1; exact h1
                have hk : i * ei.size + j < o.xs.length * ei.size := by
                  have := Nat.mul_le_mul_right ei.size (show i + 1 ≤ o.xs.length from hi)
                  rw [Nat.add_mul, Nat.one_mul] at this; omega
                have hk2 : i * ei.size + j < (o.xs.length + news.length) * ei.size := by rw [Nat.add_mul]; omega
                rw [hcur _ hk2, List.getElem?_append_left (by omega)] at p3
                exact hcells i j x d q p1 p2 (by rw [hsz]; exact p3)
              · rw [List.getElem?_append_right (by omega)] at p1
                have hin : i - o.xs.length < news.length := (List.getElem?_eq_some_iff.1 p1).1
                have hj : j < ei.size := by
                  have h1 := (List.getElem?_eq_some_iff.1 p2).1
                  rw [l5 x (List.mem_of_getElem? p1)] at h1; exact h1
                have e1 : i * ei.size = o.xs.length * ei.size + (i - o.xs.length) * ei.size := by rw [← Nat.add_mul]; congr 1; omega
                have hk2 : i * ei.size + j < (o.xs.length + news.length) * ei.size := by
                  have := Nat.mul_le_mul_right ei.size (show i + 1 ≤ o.xs.length + news.length by omega)
                  rw [Nat.add_mul i, Nat.one_mul] at this; omega
                rw [hcur _ hk2, List.getElem?_append_right (by omega)] at p3
                exact l4 (i - o.xs.length) j x d q p1 p2 (by rw [← p3]; congr 1; omega))
        exact ⟨v', w', _, hrun, rel', ext, mkRV _ _ _ _ _ (by rw [hv2]; rfl) (by rw [hb1, hv2]; simp)⟩
  cases hv with | one _ _ hv => cases hv with | d _ _ hv => cases hv with
  | empty _ A cap =>
    cases A with
    | some ad => exact core ad cap [] (by simp) (fun j u h => by simp at h) (fun u h => by simp at h) (fun i j x d q h => by simp at h) (by simp) rfl
    | none =>
      have hrun : (Builtin.append_ #[t, t] ty #[u, .slice none 0 cap]).run P w = .ok u w := by
        rw [hty, hsz] at hown
        rcases hown.2 with ⟨rfl, h0⟩ | ⟨g', cap', cur, rfl, _, _, hnc, _⟩
        · simp [Builtin.append_, run_underlying ht, sizeOf, typeInfo, hi1, Builtin.lenOf, Builtin.firstCells]
        · simp [Builtin.append_, run_underlying ht, sizeOf, typeInfo, hi1, Builtin.lenOf, Builtin.firstCells, hnc, storeCells]
      have hb1 : (o.al || !([] : List (List D)).isEmpty) = o.al := by simp
      have hrow := rel.heap.row r o ho
      obtain ⟨rel', ext⟩ := rel.setRow (w' := w) (o' := ⟨o.al || !([] : List (List D)).isEmpty, o.ver + 1, o.sz, o.ty, o.xs ++ []⟩) (at' := g.at_ (.r r)) (cap' := g.cap r) ho (Nat.lt_succ_self _) rfl rfl rfl (Nat.le_refl _) (fun _ _ _ => rfl)
        (fun h => .inl ⟨by simpa using h, rfl⟩)
        (by
          simp only [hb1, List.append_nil]
          by_cases hal : o.al = true
          · rw [if_pos hal] at hrow ⊢
            obtain ⟨vs, t', q1, ⟨q2, q3, q4, q5⟩, q6, q7, q8, q9⟩ := hrow
            rw [q4] at q2 q9
            subst q3
            exact ⟨vs, q1, by simpa using q2, q5, q6, q7, q8, fun i j x d v p1 p2 p3 => q9 i j x d v p1 p2 (by simpa using p3)⟩
          · rw [if_neg hal] at hrow ⊢; exact hrow)
      refine ⟨u, w, _, hrun, rel', ext, mkRV _ _ _ _ _ hu1 ?_⟩
      cases hu with | one _ _ hu => cases hu with | row _ _ _ _ _ h1 h2 hx =>
      obtain ⟨_, hx⟩ := hx _ _ _ _ (rows_get ho)
      obtain ⟨_, hx⟩ := hx rfl
      rw [hx, hb1]
      by_cases hal : o.al = true
      · rw [if_pos hal] at hrow
        obtain ⟨vs, t', q1, ⟨q2, q3, q4, q5⟩, _⟩ := hrow
        rw [if_pos hal, if_pos hal, q4]; simp
      · rw [if_neg hal, if_neg hal]
  | vec _ xs b oo cap uu hne hc hb' hsz' hcell hrd =>
    refine core ⟨b, oo, none⟩ cap ((List.range (news.length * ei.size)).map fun k => uu (k / ei.size) (k % ei.size)) (by simp) (fun j u h => ?_) (fun q h => ?_) (fun i j x d q p1 p2 p3 => ?_) hsz' rfl
    · simp only [List.getElem?_map, Option.map_eq_some_iff] at h
      obtain ⟨k, hk, rfl⟩ := h
      have hj := (List.getElem?_eq_some_iff.1 hk).1
      simp at hj
      have hkj : k = j := by simpa [hj] using hk.symm
      subst hkj
      have hi : k / ei.size < news.length := (Nat.div_lt_iff_lt_mul hpos).2 hj
      have hx : news[k / ei.size]? = some (news[k / ei.size]'hi) := List.getElem?_eq_getElem _
      have hxl := hsz' _ (List.getElem_mem hi)
      have hm : k % ei.size < (news[k / ei.size]'hi).length := by rw [hxl]; exact Nat.mod_lt _ hpos
      have := hcell (k / ei.size) (k % ei.size) _ _ hx (List.getElem?_eq_getElem hm)
      rw [← this]
      have e : oo + k / ei.size * ei.size + k % ei.size = oo + k := by
        have := Nat.div_add_mod k ei.size
        rw [Nat.mul_comm] at this; omega
      unfold Addr.add
      split
      · rename_i h0; subst h0; simp
      · rw [e]
    · simp only [List.mem_map, List.mem_range] at h
      obtain ⟨k, hj, rfl⟩ := h
      have hi : k / ei.size < news.length := (Nat.div_lt_iff_lt_mul hpos).2 hj
      have hx : news[k / ei.size]? = some (news[k / ei.size]'hi) := List.getElem?_eq_getElem _
      have hxl := hsz' _ (List.getElem_mem hi)
      have hm : k % ei.size < (news[k / ei.size]'hi).length := by rw [hxl]; exact Nat.mod_lt _ hpos
      exact (hrd (k / ei.size) (k % ei.size) _ _ hx (List.getElem?_eq_getElem hm)).one
    · have hj : j < ei.size := by
        have h1 := (List.getElem?_eq_some_iff.1 p2).1
        rw [hsz' x (List.mem_of_getElem? p1)] at h1; exact h1
      simp only [List.getElem?_map, Option.map_eq_some_iff] at p3
      obtain ⟨k, hk, rfl⟩ := p3
      have hkj : k = i * ei.size + j := by
        have hlt := (List.getElem?_eq_some_iff.1 hk).1
        simp at hlt
        simpa [hlt] using hk.symm
      have e1 : k / ei.size = i := by rw [hkj, Nat.mul_comm, Nat.mul_add_div hpos, Nat.div_eq_of_lt hj]; omega
      have e2 : k % ei.size = j := by rw [hkj, Nat.mul_comm, Nat.mul_add_mod, Nat.mod_eq_of_lt hj]
      rw [e1, e2]
      exact hrd i j x d p1 p2
end
section
open Go Go.RowKit
variable {J : Inv} {k0 : Lens} {E : Env J k0} {P : Program} {T : TypeId → Option TI} {n : Nat} {t : Nat → V} {b : List (List C)} {r : List (Option RowO)} {m : List (List (DV × DV))} {ops : Array Oper} {l : List Oper} {K : St → Prop}
  {i : Nat} {ty : TypeId} {pos : String} {after : Array Edge}
theorem Step.append {s : St} {o : Oper} {tt e : TypeId} {ti ei : TI} {x y : Operand} {ri : Nat} {q : RowO} {news : List (List D)} (hT : TabOk P T) (ho : o.op = .call { callee := .builtin .append, args := #[x, y], argTypes := #[tt, tt] }) (hg : o.guard = none)
  (hti : T tt = some ti) (hd : ti.desc = .slice e) (hei : T e = some ei) (hz : ei.zero.cells.size = ei.size) (hpos : 0 < ei.size) (hx : opd n s x = (true, .one (.row ri q.ver 0 q.xs.length))) (hy : opd n s y = (true, .one (.d (.vec ei.size news))))
  (hq : s.r[ri]? = some (some q)) (hsz : q.sz = ei.size) (hty : q.ty = e) (h63 : q.xs.length + news.length ≤ maxLen) (hb : (q.xs.length + news.length) * ei.bytes ≤ 140737488355328)
  (k : K ((s.withRow ri ⟨q.al || !news.isEmpty, q.ver + 1, q.sz, q.ty, q.xs ++ news⟩).set o.dst (.one (.row ri (q.ver + 1) 0 (q.xs ++ news).length)))) : Step E P n ops o K s := by
 intro g a w rel next Q hn
 have hw : Region.wanted o (yielded ops a.tmps) = true := by simp [Region.wanted, hg]
 rw [if_pos hw]
 obtain ⟨v', w', g', hrun, rel', ext, hv'⟩ := rel.append (P := P) hT (ty := o.type) hti hd hei hz hpos hq hsz hty (opd_ok rel hx rfl) (opd_ok rel hy rfl) h63 hb
 have hrun' : (execOp a.eval o).run P w = .ok (.value v') w' := by
  unfold execOp
  simp only [ho, resolve, invoke, builtin, Sem.run_bind, Sem.run_pure, Result.andThen_ok, List.map_toArray, List.map_cons, List.map_nil, hrun]
 unfold Oper.wp
 rw [hrun']
 exact hn _ _ _ _ k (rel'.put_same o.dst hv')
theorem W.newRow {c : Code} {KK : Ex → St → Prop} (k sz : Nat) (e : TypeId) (hk : t k = .one (.d .nilsl)) (h : W E P n c KK ⟨upd t k (.one (.row r.length 0 0 0)), b, r ++ [some ⟨false, 0, sz, e, []⟩], m⟩) : W E P n c KK ⟨t, b, r, m⟩ := by
  have hlive : ∀ x, (⟨upd t k (.one (.row r.length 0 0 0)), b, r ++ [some ⟨false, 0, sz, e, []⟩], m⟩ : St).live x → (⟨t, b, r, m⟩ : St).live x := fun x hx => by
    cases x with
    | b l => exact hx
    | m l => exact hx
    | r l =>
      obtain ⟨o, ho, hal⟩ := hx
      have ho : (r ++ [some ⟨false, 0, sz, e, []⟩])[l]? = some (some o) := ho
      by_cases hl : l < r.length
      · rw [List.getElem?_append_left hl] at ho; exact ⟨o, ho, hal⟩
      · rw [List.getElem?_append_right (by omega)] at ho
        have : l - r.length = 0 := by have := (List.getElem?_eq_some_iff.1 ho).1; simp at this; omega
        rw [this] at ho
        simp at ho; rw [← ho] at hal; cases hal
  refine h.weaken fun g a w rel => ?_
  have ext : Ext g (⟨t, b, r, m⟩ : St).sh w g (⟨upd t k (.one (.row r.length 0 0 0)), b, r ++ [some ⟨false, 0, sz, e, []⟩], m⟩ : St).sh w := by
    refine ⟨fun _ h => h, fun _ _ => rfl, Nat.le_refl _, Nat.le_refl _, by simp [St.sh], fun _ _ => rfl, fun _ _ => rfl, fun q al ver sz' len hq hh => ⟨al, ver, sz', len, ?_, Nat.le_refl _, fun _ => ⟨rfl, rfl, Nat.le_refl _, rfl, rfl, rfl⟩⟩⟩
    have hq' : q < r.length := by simpa [St.sh] using hq
    simpa [St.sh, List.getElem?_append_left hq', List.getElem?_append_left (show q < (r.map (·.map RowO.form)).length by simpa using hq')] using hh
  refine ⟨g, rel.below, rel.ext.trans ext, rel.imlt, rel.imold, fun x hx => rel.own x (hlive x hx), ⟨fun x hx => rel.heap.lt x (hlive x hx), fun x hx => rel.heap.new x (hlive x hx), fun x y hx hy => rel.heap.inj x y (hlive x hx) (hlive y hy), fun q cs hq => ?_, fun q o hq => ?_, fun q es hq => ?_⟩, rel.size, rel.defers, fun j hj => ?_⟩
  · obtain ⟨vs, ty, h1, h2, h3⟩ := rel.heap.box q cs hq
    exact ⟨vs, ty, h1, h2, fun j c v hc hv => (h3 j c v hc hv).mono ext⟩
  · have hq : (r ++ [some ⟨false, 0, sz, e, []⟩])[q]? = some (some o) := hq
    by_cases hl : q < r.length
    · rw [List.getElem?_append_left hl] at hq; exact rel.heap.row q o hq
    · rw [List.getElem?_append_right (by omega)] at hq
      have : q - r.length = 0 := by have := (List.getElem?_eq_some_iff.1 hq).1; simp at this; omega
      rw [this] at hq
      simp at hq; rw [← hq]; simp
  · obtain ⟨arr, clock, h1, h2, h3⟩ := rel.heap.map q es hq
    exact ⟨arr, clock, h1, h2, fun i x e hx he => ⟨(h3 i x e hx he).1.mono ext, (h3 i x e hx he).2.mono ext⟩⟩
  · cases hjk : Nat.beq k j with
    | true =>
      have hjk' : j = k := (Nat.eq_of_beq_eq_true hjk).symm
      have hup : (⟨upd t k (.one (.row r.length 0 0 0)), b, r ++ [some ⟨false, 0, sz, e, []⟩], m⟩ : St).t j = .one (.row r.length 0 0 0) := by show upd t k _ j = _; simp [upd, hjk]
      rw [hup]
      have hv := rel.tmps j hj
      have e1 : (⟨t, b, r, m⟩ : St).t j = .one (.d .nilsl) := by show t j = _; rw [hjk']; exact hk
      rw [e1] at hv
      generalize a.tmps.getD j undef = vv at hv ⊢
      cases hv with | one _ _ hv => cases hv with | d _ _ hv => 
      have hva : vv = .slice none 0 0 := by cases hv; rfl
      rw [hva]
      refine .one _ _ (.row _ _ _ _ _ rfl (by simp [St.sh]) (fun al ver' sz' len hh => ?_))
      have : (some (some (al, ver', sz', len)) : Option (Option _)) = some (some (false, 0, sz, 0)) := by rw [← hh]; simp [St.sh, RowO.form]
      simp only [Option.some.injEq, Prod.mk.injEq] at this
      obtain ⟨rfl, rfl, rfl, rfl⟩ := this
      exact ⟨Nat.le_refl _, fun _ => ⟨Nat.le_refl _, by simp⟩⟩
    | false =>
      have hup : (⟨upd t k (.one (.row r.length 0 0 0)), b, r ++ [some ⟨false, 0, sz, e, []⟩], m⟩ : St).t j = t j := by show upd t k _ j = _; simp [upd, hjk]
      rw [hup]
      exact (rel.tmps j hj).mono ext
def updL (t : Nat → V) : List Nat → V → Nat → V
 | [], _ => t
 | k :: ks, v => upd (updL t ks v) k v
theorem updL_or (t : Nat → V) (v : V) : ∀ (ks : List Nat) (j : Nat), (updL t ks v j = v ∧ j ∈ ks) ∨ updL t ks v j = t j
  | [], j => .inr rfl
  | k :: ks, j => by
    cases h : Nat.beq k j with
    | true => exact .inl ⟨by simp [updL, upd, h], by rw [(Nat.eq_of_beq_eq_true h)]; exact List.mem_cons_self ..⟩
    | false =>
      have e : updL t (k :: ks) v j = updL t ks v j := by simp [updL, upd, h]
      rw [e]
      rcases updL_or t v ks j with ⟨h1, h2⟩ | h1
      · exact .inl ⟨h1, List.mem_cons_of_mem _ h2⟩
      · exact .inr h1
theorem W.freeze {c : Code} {KK : Ex → St → Prop} {ri : Nat} {q : RowO} (ks : List Nat) (hq : r[ri]? = some (some q)) (hk : ∀ k ∈ ks, t k = .one (.row ri q.ver 0 q.xs.length))
    (h : W E P n c KK ⟨updL t ks (.one (.d (.vec q.sz q.xs))), b, r.set ri none, m⟩) : W E P n c KK ⟨t, b, r, m⟩ := by
  have hr : ri < r.length := (List.getElem?_eq_some_iff.1 hq).1
  have hlive : ∀ x, (⟨updL t ks (.one (.d (.vec q.sz q.xs))), b, r.set ri none, m⟩ : St).live x → (⟨t, b, r, m⟩ : St).live x ∧ x ≠ .r ri := fun x hx => by
    cases x with
    | b l => exact ⟨hx, by simp⟩
    | m l => exact ⟨hx, by simp⟩
    | r l =>
      obtain ⟨o, ho, hal⟩ := hx
      have ho : (r.set ri none)[l]? = some (some o) := ho
      by_cases e : ri = l
      · subst e; simp [List.getElem?_set, hr] at ho
      · exact ⟨⟨o, by simpa [List.getElem?_set, e] using ho, hal⟩, fun h => e (by injection h with h; exact h.symm)⟩
  refine h.weaken fun g a w rel => ?_
  have ho : (⟨t, b, r, m⟩ : St).r[ri]? = some (some q) := hq
  have hrl : q.al = true → (⟨t, b, r, m⟩ : St).live (.r ri) := fun h => ⟨q, hq, h⟩
  have ext : Ext g (⟨t, b, r, m⟩ : St).sh w ⟨fun x => g.im x ∨ (q.al = true ∧ x = g.at_ (.r ri)), g.at_, g.off, g.cap⟩ (⟨updL t ks (.one (.d (.vec q.sz q.xs))), b, r.set ri none, m⟩ : St).sh w := by
    refine ⟨fun _ h => .inl h, fun _ _ => rfl, Nat.le_refl _, Nat.le_refl _, by simp [St.sh], fun _ _ => rfl, fun _ _ => rfl, fun k al ver sz' len hk' hh => ?_⟩
    by_cases e : ri = k
    · subst e; simp [St.sh, List.getElem?_set, hr] at hh
    · exact ⟨al, ver, sz', len, by simpa [St.sh, List.getElem?_set, e] using hh, Nat.le_refl _, fun _ => ⟨rfl, rfl, Nat.le_refl _, rfl, rfl, rfl⟩⟩
  refine ⟨⟨fun x => g.im x ∨ (q.al = true ∧ x = g.at_ (.r ri)), g.at_, g.off, g.cap⟩, rel.below, rel.ext.trans ext, fun x hx => ?_, fun x hx => ?_, fun x hx => rel.own x (hlive x hx).1, ⟨fun x hx => rel.heap.lt x (hlive x hx).1, fun x hx => ?_, fun x y hx hy => rel.heap.inj x y (hlive x hx).1 (hlive y hy).1, fun k cs hk' => ?_, fun k o hk' => ?_, fun k es hk' => ?_⟩, rel.size, rel.defers, fun j hj => ?_⟩
  · rcases hx with h | ⟨h1, h2⟩
    · exact rel.imlt x h
    · rw [h2]; exact rel.heap.lt _ (hrl h1)
  · rcases hx with h | ⟨h1, h2⟩
    · exact rel.imold x h
    · rw [h2]; exact .inr (rel.own _ (hrl h1))
  · rintro (h | ⟨h1, h2⟩)
    · exact rel.heap.new x (hlive x hx).1 h
    · exact (hlive x hx).2 (rel.heap.inj x _ (hlive x hx).1 (hrl h1) h2)
  · obtain ⟨vs, ty, h1, h2, h3⟩ := rel.heap.box k cs hk'
    exact ⟨vs, ty, h1, h2, fun j c v hc hv => (h3 j c v hc hv).mono ext⟩
  · have hk' : (r.set ri none)[k]? = some (some o) := hk'
    by_cases e : ri = k
    · subst e; simp [List.getElem?_set, hr] at hk'
    · have h1 := rel.heap.row k o (by simpa [List.getElem?_set, e] using hk')
      by_cases hal : o.al = true
      · rw [if_pos hal] at h1 ⊢
        obtain ⟨vs, t', q1, q2, q3, q4, q5, q6⟩ := h1
        exact ⟨vs, t', q1, q2, q3, q4, q5, fun i j x d v p1 p2 p3 => (q6 i j x d v p1 p2 p3).mono ext.im ext.same⟩
      · rw [if_neg hal] at h1 ⊢; exact h1
  · obtain ⟨arr, clock, h1, h2, h3⟩ := rel.heap.map k es hk'
    exact ⟨arr, clock, h1, h2, fun i x e hx he => ⟨(h3 i x e hx he).1.mono ext, (h3 i x e hx he).2.mono ext⟩⟩
  · rcases updL_or t (.one (.d (.vec q.sz q.xs))) ks j with ⟨h1, h2⟩ | h1
    · have hup : (⟨updL t ks (.one (.d (.vec q.sz q.xs))), b, r.set ri none, m⟩ : St).t j = .one (.d (.vec q.sz q.xs)) := h1
      rw [hup]
      have hv := rel.tmps j hj
      have e1 : (⟨t, b, r, m⟩ : St).t j = .one (.row ri q.ver 0 q.xs.length) := hk j h2
      rw [e1] at hv
      obtain ⟨flat, hown, hnil, hblk, hcells, hrows⟩ := row_form rel ho hv
      refine .one _ _ (.d _ _ ?_)
      rcases hown.2 with ⟨hv2, h0⟩ | ⟨bb, cap, cur, hv2, hb2, hc2, hn2, hm2, hs2, ht2⟩
      · rw [hv2, List.length_eq_zero_iff.1 h0]; exact .empty _ _ _
      · have hal : q.al = true := by
          cases hh : q.al with
          | true => rfl
          | false => have := hnil.2 hh; rw [this] at hv2; cases hv2
        have hbb : bb = g.at_ (.r ri) := by have := hblk hal; rw [hv2] at this; exact Option.some.inj this
        by_cases hne : q.xs = []
        · rw [hv2, hne]; exact .empty _ _ _
        · rw [hv2]
          have hat : ∀ (i j : Nat) (x : List D) (d : D), q.xs[i]? = some x → x[j]? = some d → ∃ v, w.cell? ⟨bb, 0 + i * q.sz + j, none⟩ = some v ∧ RD (fun x => g.im x ∨ (q.al = true ∧ x = g.at_ (.r ri))) w d v := fun i j x d p1 p2 => by
            have hj' : j < q.sz := by
              have h3 := (List.getElem?_eq_some_iff.1 p2).1
              rw [hrows x (List.mem_of_getElem? p1)] at h3; exact h3
            have hi := (List.getElem?_eq_some_iff.1 p1).1
            have hk2 : i * q.sz + j < q.xs.length * q.sz := by
              have := Nat.mul_le_mul_right q.sz (show i + 1 ≤ q.xs.length from hi)
              rw [Nat.add_mul, Nat.one_mul] at this; omega
            have hf : flat[i * q.sz + j]? = some (flat[i * q.sz + j]'(by rw [hown.1]; exact hk2)) := List.getElem?_eq_getElem _
            refine ⟨_, ?_, (hcells i j x d _ p1 p2 hf).mono (fun _ h => .inl h) (fun _ _ => rfl)⟩
            have hf2 : (cur.toList.take (q.xs.length * q.sz))[i * q.sz + j]? = some (flat[i * q.sz + j]'(by rw [hown.1]; exact hk2)) := by rw [ht2]; exact hf
            rw [List.getElem?_take, if_pos hk2] at hf2
            simp only [Nat.zero_add, World.cell?, hc2, Option.isSome_none, Bool.false_eq_true, if_false]
            simpa using hf2
          exact RD.vec q.sz q.xs bb 0 cap (fun i j => (w.cell? ⟨bb, 0 + i * q.sz + j, none⟩).getD undef) hne hn2 (.inr ⟨hal, hbb⟩) hrows
            (fun i j x d p1 p2 => by obtain ⟨v, h3, _⟩ := hat i j x d p1 p2; rw [h3]; rfl)
            (fun i j x d p1 p2 => by obtain ⟨v, h3, h4⟩ := hat i j x d p1 p2; simp only [h3, Option.getD_some]; exact h4)
    · have hup : (⟨updL t ks (.one (.d (.vec q.sz q.xs))), b, r.set ri none, m⟩ : St).t j = t j := h1
      rw [hup]
      exact (rel.tmps j hj).mono ext
theorem S.append (hT : TabOk P T) {tt e : TypeId} {ti ei : TI} {x y : Operand} {ri ver sz ln : Nat} {al al' : Bool} {te : TypeId} {xs news ys : List (List D)} {r' : List (Option RowO)} (hti : T tt = some ti) (hd : ti.desc = .slice e) (hei : T e = some ei)
  (hz : ei.zero.cells.size = ei.size) (hpos : Nat.blt 0 ei.size = true) (hby : Nat.ble ei.bytes 4096 = true) (hx : opd n ⟨t, b, r, m⟩ x = (true, .one (.row ri ver 0 ln))) (hy : opd n ⟨t, b, r, m⟩ y = (true, .one (.d (.vec sz news))))
  (hq : r[ri]? = some (some ⟨al, ver, sz, te, xs⟩)) (hln : ln = xs.length) (hsz : sz = ei.size) (hty : te = e) (hlen : xs.length + news.length ≤ 34359738368)
  (hal : (al || !news.isEmpty) = al') (hys : xs ++ news = ys) (hr : forceL (r.set ri (some ⟨al', ver + 1, sz, te, ys⟩)) = some r')
  (k : WL E P n ops l K ⟨upd t i (.one (.row ri (ver + 1) 0 ys.length)), b, r', m⟩) : WL E P n ops (⟨some i, .call ⟨.builtin .append, #[x, y], #[tt, tt]⟩, ty, pos, after, none⟩ :: l) K ⟨t, b, r, m⟩ := by
 subst hln; subst hsz; subst hal; subst hys
 obtain rfl := forceL_eq hr
 have hb : (xs.length + news.length) * ei.bytes ≤ 140737488355328 := by
  have h1 : ei.bytes ≤ 4096 := Nat.le_of_ble_eq_true hby
  have := Nat.mul_le_mul hlen h1
  omega
 exact Step.append (s := ⟨t, b, r, m⟩) (q := ⟨al, ver, ei.size, te, xs⟩) (o := ⟨some i, .call ⟨.builtin .append, #[x, y], #[tt, tt]⟩, ty, pos, after, none⟩) hT rfl rfl hti hd hei hz (by simpa [Nat.blt_eq] using hpos) hx hy hq rfl hty (by simp only [maxLen]; omega) hb k
theorem pred_nat {i : Nat} (hi : i ≤ 4611686018427387904) : (IntKind.i64.wrap ((i : Int) - 1)).toNat = i - 1 := by
 rw [wrap_i64 (by omega) (by omega)]; omega
theorem row_pred {α : Type} {f : α → List D} {l : List α} (d : α) {i : Nat} (h : i < l.length) (hi : i ≤ 4611686018427387904) : V.one (.eptr ((l.map f).getD (IntKind.i64.wrap ((i : Int) - 1)).toNat [])) = V.one (.eptr (f (l.getD (i - 1) d))) := by
 rw [pred_nat hi]
 have : i - 1 < l.length := by omega
 simp [List.getD, List.getElem?_eq_getElem this]
theorem pred_ok {α : Type} {f : α → List D} {l : List α} {i : Nat} (h0 : decide ((i : Int) > 0) = true) (h : i < l.length) (hi : i ≤ 4611686018427387904) :
  (decide (0 ≤ IntKind.i64.wrap ((i : Int) - 1)) && decide (IntKind.i64.wrap ((i : Int) - 1) < ((l.map f).length : Int))) = true := by
 have h1 := of_decide_eq_true h0
 rw [wrap_i64 (by omega) (by omega)]; simp; omega
theorem take_snoc {α β : Type} {f : α → β} {l : List α} {i : Nat} (d : α) (h : i < l.length) : (l.take i).map f ++ [f (l.getD i d)] = (l.take (i + 1)).map f := by
 rw [List.take_add_one, List.getElem?_eq_getElem h, List.map_append]
 simp [List.getD, List.getElem?_eq_getElem h]
end
section
open Go Go.RowKit
mutual
def loC (L R M : Nat) : C → Bool
  | .ptr l _ => Nat.blt l L
  | .row r _ _ _ => Nat.blt r R
  | .rptr r _ _ _ => Nat.blt r R
  | .map m => Nat.blt m M
  | .clo _ cs => loCs L R M cs
  | .wr _ l _ => Nat.blt l L
  | _ => true
def loCs (L R M : Nat) : List C → Bool
  | [] => true
  | c :: l => loC L R M c && loCs L R M l
end
mutual
def loV (L R M : Nat) : V → Bool
  | .one c => loC L R M c
  | .agg cs => loCs L R M cs
  | .tup vs => loVs L R M vs
  | .when _ v => loV L R M v
  | .junk => true
def loVs (L R M : Nat) : List V → Bool
  | [] => true
  | c :: l => loV L R M c && loVs L R M l
end
theorem loCs_at {L R M : Nat} : ∀ {l : List C}, loCs L R M l = true → ∀ (i : Nat) (c : C), l[i]? = some c → loC L R M c = true
 | [], _, i, c, h => by simp at h
 | x :: l, h, 0, c, hc => by simp at hc; subst hc; exact (Bool.and_eq_true_iff.1 (by simpa [loCs] using h)).1
 | x :: l, h, i + 1, c, hc => by simp at hc; exact loCs_at (Bool.and_eq_true_iff.1 (by simpa [loCs] using h)).2 i c hc
theorem loVs_at {L R M : Nat} : ∀ {l : List V}, loVs L R M l = true → ∀ (i : Nat) (c : V), l[i]? = some c → loV L R M c = true
 | [], _, i, c, h => by simp at h
 | x :: l, h, 0, c, hc => by simp at hc; subst hc; exact (Bool.and_eq_true_iff.1 (by simpa [loVs] using h)).1
 | x :: l, h, i + 1, c, hc => by simp at hc; exact loVs_at (Bool.and_eq_true_iff.1 (by simpa [loVs] using h)).2 i c hc
theorem RC.lo {g : Gh} {h : Sh} {w : World} {c : C} {v : Value} (hx : RC g h w c v) (L R M : Nat) (hR : R ≤ h.rows.length) (hl : loC L R M c = true) : RC g ⟨L, h.rows.take R, M⟩ w c v := by
 induction hx with
 | d x v hx => exact .d _ _ hx
 | ptr l off _ => exact .ptr _ _ (by simpa [loC, Nat.blt_eq] using hl)
 | eptr cells b o u hb h1 h2 => exact .eptr cells b o u hb h1 h2
 | row r ver off n v hv hr hx =>
  have hlt : r < R := by simpa [loC, Nat.blt_eq] using hl
  exact .row _ _ _ _ _ hv (by simp; omega) (fun al ver' sz len h1 => hx al ver' sz len (by simpa [List.getElem?_take, hlt] using h1))
 | rptr r ver i fo v hv hr hx =>
  have hlt : r < R := by simpa [loC, Nat.blt_eq] using hl
  exact .rptr _ _ _ _ _ hv (by simp; omega) (fun al ver' sz len h1 => hx al ver' sz len (by simpa [List.getElem?_take, hlt] using h1))
 | map m hm => exact .map _ (by simpa [loC, Nat.blt_eq] using hl)
 | clo f caps vs hl' h ih => exact .clo f caps vs hl' (fun i c v h1 h2 => ih i c v h1 h2 (loCs_at (by simpa [loC] using hl) i c h1))
 | wr k l off _ => exact .wr _ _ _ (by simpa [loC, Nat.blt_eq] using hl)
 | junk v h => exact .junk v h
theorem RV.lo {g : Gh} {h : Sh} {w : World} {c : V} {v : Value} (hx : RV g h w c v) (L R M : Nat) (hR : R ≤ h.rows.length) (hl : loV L R M c = true) : RV g ⟨L, h.rows.take R, M⟩ w c v := by
 induction hx with
 | one c v h => exact .one _ _ (h.lo L R M hR (by simpa [loV] using hl))
 | agg cs vs hl' h => exact .agg cs vs hl' (fun i c v h1 h2 => (h i c v h1 h2).lo L R M hR (loCs_at (by simpa [loV] using hl) i c h1))
 | tup us vs hl' h ih => exact .tup us vs hl' (fun i u v h1 h2 => ih i u v h1 h2 (loVs_at (by simpa [loV] using hl) i u h1))
 | whenT u v h ih => exact .whenT _ _ (ih (by simpa [loV] using hl))
 | whenF u => exact .whenF _
 | junk v => exact .junk v
def loL (L R M : Nat) : List (Nat × V) → Bool
 | [] => true
 | (_, v) :: l => loV L R M v && loL L R M l
def loB (L R M : Nat) : List (List C) → Bool
 | [] => true
 | c :: l => loCs L R M c && loB L R M l
theorem loL_of {L R M : Nat} : ∀ {l : List (Nat × V)}, loL L R M l = true → ∀ j, loV L R M (ofL l j) = true
  | [], _, j => rfl
  | (k, v) :: l, h, j => by
    simp only [loL, Bool.and_eq_true] at h
    unfold ofL
    cases k.beq j with
    | true => exact h.1
    | false => exact loL_of h.2 j
theorem loB_at {L R M : Nat} : ∀ {l : List (List C)}, loB L R M l = true → ∀ (i : Nat) (c : List C), l[i]? = some c → loCs L R M c = true
 | [], _, i, c, h => by simp at h
 | x :: l, h, 0, c, hc => by simp at hc; subst hc; exact (Bool.and_eq_true_iff.1 (by simpa [loB] using h)).1
 | x :: l, h, i + 1, c, hc => by simp at hc; exact loB_at (Bool.and_eq_true_iff.1 (by simpa [loB] using h)).2 i c hc
theorem loDV (L R M : Nat) (x : DV) : loV L R M x.v = true := by
 have h : ∀ ds : List D, loCs L R M (ds.map .d) = true := fun ds => by
  induction ds with
  | nil => rfl
  | cons d ds ih => simpa [loCs, loC] using ih
 cases x with
 | one d => rfl
 | st _ _ d => rfl
 | agg ds => exact h ds
 | sta _ _ ds => exact h ds
theorem Rel.keep {J : Inv} {k0 : Lens} {E : Env J k0} {n : Nat} {t : Nat → V} {g : Gh} {a : Act} {w : World} (l : List (Nat × V)) (b1 b2 : List (List C)) (r1 r2 : List (Option RowO)) (m1 m2 : List (List (DV × DV))) (hl : holdsL t l)
  (hlow : ((loL b1.length r1.length m1.length l && loB b1.length r1.length m1.length b1) && (Nat.ble k0.L b1.length && (Nat.ble k0.R r1.length && Nat.ble k0.M m1.length))) = true) (rel : Rel E n g ⟨t, b1 ++ b2, r1 ++ r2, m1 ++ m2⟩ a w) : Rel E n g ⟨ofL l, b1, r1, m1⟩ a w := by
 simp only [Bool.and_eq_true] at hlow
 obtain ⟨hlow, hkL, hkR, hkM⟩ := hlow
 have hget : ∀ q o, r1[q]? = some o → (r1 ++ r2)[q]? = some o := fun q o hq => by
  rw [List.getElem?_append_left (List.getElem?_eq_some_iff.1 hq).1]; exact hq
 have hlive : ∀ x, (⟨ofL l, b1, r1, m1⟩ : St).live x → (⟨t, b1 ++ b2, r1 ++ r2, m1 ++ m2⟩ : St).live x := fun x hx => by
  cases x with
  | b q => exact Nat.lt_of_lt_of_le hx (by simp)
  | r q => obtain ⟨o, ho, hal⟩ := hx; exact ⟨o, hget q _ ho, hal⟩
  | m q => exact Nat.lt_of_lt_of_le hx (by simp)
 have hsh : (⟨ofL l, b1, r1, m1⟩ : St).sh = ⟨b1.length, (⟨t, b1 ++ b2, r1 ++ r2, m1 ++ m2⟩ : St).sh.rows.take r1.length, m1.length⟩ := by simp [St.sh]
 have hR : r1.length ≤ (⟨t, b1 ++ b2, r1 ++ r2, m1 ++ m2⟩ : St).sh.rows.length := by simp [St.sh]
 refine ⟨rel.below, ?_, rel.imlt, rel.imold, fun x hx => rel.own x (hlive x hx), ⟨fun x hx => rel.heap.lt x (hlive x hx), fun x hx => rel.heap.new x (hlive x hx), fun x y hx hy => rel.heap.inj x y (hlive x hx) (hlive y hy), fun q cs hq => ?_, fun q o hq => rel.heap.row q o (hget q _ hq), fun q es hq => ?_⟩, rel.size, rel.defers, fun i hi => ?_⟩
 ·skip
  have e := rel.ext
  refine ⟨e.im, e.same, ?_, ?_, ?_, e.atB, e.atM, fun r al ver sz len hr hx => e.rows r al ver sz len hr ?_⟩
  ·skip
   rw [E.hL]; exact Nat.le_of_ble_eq_true hkL
  ·skip
   rw [E.hM]; exact Nat.le_of_ble_eq_true hkM
  ·skip
   rw [E.hR]; simpa [St.sh] using Nat.le_of_ble_eq_true hkR
  ·skip
   rw [hsh] at hx
   simp only [List.getElem?_take] at hx
   split at hx
   ·skip
    exact hx
   ·skip
    cases hx
 ·skip
  have hq' : (b1 ++ b2)[q]? = some cs := by
   rw [List.getElem?_append_left (List.getElem?_eq_some_iff.1 hq).1]; exact hq
  obtain ⟨vs, ty, h1, h2, h3⟩ := rel.heap.box q cs hq'
  refine ⟨vs, ty, h1, h2, fun j c v hc hv => ?_⟩
  rw [hsh]
  exact (h3 j c v hc hv).lo b1.length r1.length m1.length hR (loCs_at (loB_at hlow.2 q cs hq) j c hc)
 ·skip
  have hq' : (m1 ++ m2)[q]? = some es := by
   rw [List.getElem?_append_left (List.getElem?_eq_some_iff.1 hq).1]; exact hq
  obtain ⟨arr, clock, h1, h2, h3⟩ := rel.heap.map q es hq'
  refine ⟨arr, clock, h1, h2, fun i x e hx he => ?_⟩
  rw [hsh]
  exact ⟨(h3 i x e hx he).1.lo b1.length r1.length m1.length hR (loDV _ _ _ x.1), (h3 i x e hx he).2.lo b1.length r1.length m1.length hR (loDV _ _ _ x.2)⟩
 ·skip
  rw [hsh]
  show RV _ _ _ (ofL l i) _
  rcases ofL_or t l hl i with h | h
  ·skip
   rw [h]; exact .junk _
  ·skip
   have h1 := loL_of hlow.1 i
   rw [h] at h1 ⊢
   exact (rel.tmps i hi).lo b1.length r1.length m1.length hR h1
theorem W.keepR {J : Inv} {k0 : Lens} {E : Env J k0} {P : Program} {n : Nat} {t : Nat → V} {c : Code} {K : Ex → St → Prop} (l : List (Nat × V)) (b1 b2 : List (List C)) (r1 r2 : List (Option RowO)) (m1 m2 : List (List (DV × DV))) (hl : holdsL t l)
  (hlow : ((loL b1.length r1.length m1.length l && loB b1.length r1.length m1.length b1) && (Nat.ble k0.L b1.length && (Nat.ble k0.R r1.length && Nat.ble k0.M m1.length))) = true) (h : W E P n c K ⟨ofL l, b1, r1, m1⟩) : W E P n c K ⟨t, b1 ++ b2, r1 ++ r2, m1 ++ m2⟩ :=
 h.weaken fun g a w rel => ⟨g, Rel.keep l b1 b2 r1 r2 m1 m2 hl hlow rel⟩
end
section
open Go Go.RowKit
variable {J : Inv} {k0 : Lens} {E : Env J k0} {P : Program} {n : Nat} {t : Nat → V} {b : List (List C)} {r : List (Option RowO)} {m : List (List (DV × DV))}
theorem W.newRowB {c : Code} {KK : Ex → St → Prop} (l j sz : Nat) (e : TypeId) {cs : List C} {b' : List (List C)} (hb : b[l]? = some cs) (hk : cs[j]? = some (.d .nilsl)) (hb' : forceL (b.set l (cs.set j (.row r.length 0 0 0))) = some b')
    (h : W E P n c KK ⟨t, b', r ++ [some ⟨false, 0, sz, e, []⟩], m⟩) : W E P n c KK ⟨t, b, r, m⟩ := by
  obtain rfl := forceL_eq hb'
  have hlive : ∀ x, (⟨t, b.set l (cs.set j (.row r.length 0 0 0)), r ++ [some ⟨false, 0, sz, e, []⟩], m⟩ : St).live x → (⟨t, b, r, m⟩ : St).live x := fun x hx => by
    cases x with
    | b q => have : q < (b.set l (cs.set j (.row r.length 0 0 0))).length := hx; show q < b.length; simpa using this
    | m q => exact hx
    | r q =>
      obtain ⟨o, ho, hal⟩ := hx
      have ho : (r ++ [some ⟨false, 0, sz, e, []⟩])[q]? = some (some o) := ho
      by_cases hl : q < r.length
      · rw [List.getElem?_append_left hl] at ho; exact ⟨o, ho, hal⟩
      · rw [List.getElem?_append_right (by omega)] at ho
        have : q - r.length = 0 := by have := (List.getElem?_eq_some_iff.1 ho).1; simp at this; omega
        rw [this] at ho
        simp at ho; rw [← ho] at hal; cases hal
  refine h.weaken fun g a w rel => ?_
  have ext : Ext g (⟨t, b, r, m⟩ : St).sh w g (⟨t, b.set l (cs.set j (.row r.length 0 0 0)), r ++ [some ⟨false, 0, sz, e, []⟩], m⟩ : St).sh w := by
    refine ⟨fun _ h => h, fun _ _ => rfl, by simp [St.sh], Nat.le_refl _, by simp [St.sh], fun _ _ => rfl, fun _ _ => rfl, fun q al ver sz' len hq hh => ⟨al, ver, sz', len, ?_, Nat.le_refl _, fun _ => ⟨rfl, rfl, Nat.le_refl _, rfl, rfl, rfl⟩⟩⟩
    have hq' : q < r.length := by simpa [St.sh] using hq
    simpa [St.sh, List.getElem?_append_left hq', List.getElem?_append_left (show q < (r.map (·.map RowO.form)).length by simpa using hq')] using hh
  refine ⟨g, rel.below, rel.ext.trans ext, rel.imlt, rel.imold, fun x hx => rel.own x (hlive x hx), ⟨fun x hx => rel.heap.lt x (hlive x hx), fun x hx => rel.heap.new x (hlive x hx), fun x y hx hy => rel.heap.inj x y (hlive x hx) (hlive y hy), fun q ds hq => ?_, fun q o hq => ?_, fun q es hq => ?_⟩, rel.size, rel.defers, fun i hi => (rel.tmps i hi).mono ext⟩
  · have hq : (b.set l (cs.set j (.row r.length 0 0 0)))[q]? = some ds := hq
    by_cases hql : l = q
    · subst hql
      have hlt := (List.getElem?_eq_some_iff.1 hb).1
      have hds : cs.set j (.row r.length 0 0 0) = ds := by simpa [List.getElem?_set, hlt] using hq
      obtain ⟨vs, ty, h1, h2, h3⟩ := rel.heap.box l cs hb
      refine ⟨vs, ty, h1, by rw [← hds]; simpa using h2, fun k c v hc hv => ?_⟩
      rw [← hds, List.getElem?_set] at hc
      split at hc
      · rename_i hjk
        subst hjk
        split at hc
        · simp only [Option.some.injEq] at hc
          subst hc
          have h4 := h3 j _ v hk hv
          cases h4 with | d _ _ h4 =>
          cases h4
          refine .row _ _ _ _ _ rfl (by simp [St.sh]) (fun al ver' sz' len hh => ?_)
          have : (some (some (al, ver', sz', len)) : Option (Option _)) = some (some (false, 0, sz, 0)) := by rw [← hh]; simp [St.sh, RowO.form]
          simp only [Option.some.injEq, Prod.mk.injEq] at this
          obtain ⟨rfl, rfl, rfl, rfl⟩ := this
          exact ⟨Nat.le_refl _, fun _ => ⟨Nat.le_refl _, by simp⟩⟩
        · cases hc
      · exact (h3 k c v hc hv).mono ext
    · obtain ⟨vs, ty, h1, h2, h3⟩ := rel.heap.box q ds (by simpa [List.getElem?_set, hql] using hq)
      exact ⟨vs, ty, h1, h2, fun k c v hc hv => (h3 k c v hc hv).mono ext⟩
  · have hq : (r ++ [some ⟨false, 0, sz, e, []⟩])[q]? = some (some o) := hq
    by_cases hl : q < r.length
    · rw [List.getElem?_append_left hl] at hq; exact rel.heap.row q o hq
    · rw [List.getElem?_append_right (by omega)] at hq
      have : q - r.length = 0 := by have := (List.getElem?_eq_some_iff.1 hq).1; simp at this; omega
      rw [this] at hq
      simp at hq; rw [← hq]; simp
  · obtain ⟨arr, clock, h1, h2, h3⟩ := rel.heap.map q es hq
    exact ⟨arr, clock, h1, h2, fun i x e hx he => ⟨(h3 i x e hx he).1.mono ext, (h3 i x e hx he).2.mono ext⟩⟩
theorem row_RD {s : St} {g : Gh} {a : Act} {w : World} (rel : Rel E n g s a w) {ri : Nat} {q : RowO} (ho : s.r[ri]? = some (some q)) {v : Value} (hv : RV g s.sh w (.one (.row ri q.ver 0 q.xs.length)) v) :
  RD (fun x => g.im x ∨ (q.al = true ∧ x = g.at_ (.r ri))) w (.vec q.sz q.xs) v := by
 obtain ⟨flat, hown, hnil, hblk, hcells, hrows⟩ := row_form rel ho hv
 rcases hown.2 with ⟨hv2, h0⟩ | ⟨bb, cap, cur, hv2, hb2, hc2, hn2, hm2, hs2, ht2⟩
 ·skip
  rw [hv2, List.length_eq_zero_iff.1 h0]; exact .empty _ _ _
 ·skip
  have hal : q.al = true := by
   cases hh : q.al with
   | true => rfl
   | false => have := hnil.2 hh; rw [this] at hv2; cases hv2
  have hbb : bb = g.at_ (.r ri) := by have := hblk hal; rw [hv2] at this; exact Option.some.inj this
  by_cases hne : q.xs = []
  ·skip
   rw [hv2, hne]; exact .empty _ _ _
  ·skip
   rw [hv2]
   have hat : ∀ (i j : Nat) (x : List D) (d : D), q.xs[i]? = some x → x[j]? = some d → ∃ v, w.cell? ⟨bb, 0 + i * q.sz + j, none⟩ = some v ∧ RD (fun x => g.im x ∨ (q.al = true ∧ x = g.at_ (.r ri))) w d v := fun i j x d p1 p2 => by
    have hj' : j < q.sz := by
     have h3 := (List.getElem?_eq_some_iff.1 p2).1
     rw [hrows x (List.mem_of_getElem? p1)] at h3; exact h3
    have hi := (List.getElem?_eq_some_iff.1 p1).1
    have hk2 : i * q.sz + j < q.xs.length * q.sz := by
     have := Nat.mul_le_mul_right q.sz (show i + 1 ≤ q.xs.length from hi)
     rw [Nat.add_mul, Nat.one_mul] at this; omega
    have hf : flat[i * q.sz + j]? = some (flat[i * q.sz + j]'(by rw [hown.1]; exact hk2)) := List.getElem?_eq_getElem _
    refine ⟨_, ?_, (hcells i j x d _ p1 p2 hf).mono (fun _ h => .inl h) (fun _ _ => rfl)⟩
    have hf2 : (cur.toList.take (q.xs.length * q.sz))[i * q.sz + j]? = some (flat[i * q.sz + j]'(by rw [hown.1]; exact hk2)) := by rw [ht2]; exact hf
    rw [List.getElem?_take, if_pos hk2] at hf2
    simp only [Nat.zero_add, World.cell?, hc2, Option.isSome_none, Bool.false_eq_true, if_false]
    simpa using hf2
   exact RD.vec q.sz q.xs bb 0 cap (fun i j => (w.cell? ⟨bb, 0 + i * q.sz + j, none⟩).getD undef) hne hn2 (.inr ⟨hal, hbb⟩) hrows
    (fun i j x d p1 p2 => by obtain ⟨v, h3, _⟩ := hat i j x d p1 p2; rw [h3]; rfl)
    (fun i j x d p1 p2 => by obtain ⟨v, h3, h4⟩ := hat i j x d p1 p2; simp only [h3, Option.getD_some]; exact h4)
theorem W.freezeB {c : Code} {KK : Ex → St → Prop} {ri : Nat} {q : RowO} (l j : Nat) {cs : List C} {b' : List (List C)} (hq : r[ri]? = some (some q)) (hb : b[l]? = some cs) (hk : cs[j]? = some (.row ri q.ver 0 q.xs.length)) (hb' : forceL (b.set l (cs.set j (.d (.vec q.sz q.xs)))) = some b')
    (h : W E P n c KK ⟨t, b', r.set ri none, m⟩) : W E P n c KK ⟨t, b, r, m⟩ := by
  obtain rfl := forceL_eq hb'
  have hr : ri < r.length := (List.getElem?_eq_some_iff.1 hq).1
  have hlive : ∀ x, (⟨t, b.set l (cs.set j (.d (.vec q.sz q.xs))), r.set ri none, m⟩ : St).live x → (⟨t, b, r, m⟩ : St).live x ∧ x ≠ .r ri := fun x hx => by
    cases x with
    | b l' => exact ⟨by have : l' < (b.set l (cs.set j (.d (.vec q.sz q.xs)))).length := hx; show l' < b.length; simpa using this, by simp⟩
    | m l => exact ⟨hx, by simp⟩
    | r l =>
      obtain ⟨o, ho, hal⟩ := hx
      have ho : (r.set ri none)[l]? = some (some o) := ho
      by_cases e : ri = l
      · subst e; simp [List.getElem?_set, hr] at ho
      · exact ⟨⟨o, by simpa [List.getElem?_set, e] using ho, hal⟩, fun h => e (by injection h with h; exact h.symm)⟩
  refine h.weaken fun g a w rel => ?_
  have ho : (⟨t, b, r, m⟩ : St).r[ri]? = some (some q) := hq
  have hrl : q.al = true → (⟨t, b, r, m⟩ : St).live (.r ri) := fun h => ⟨q, hq, h⟩
  have ext : Ext g (⟨t, b, r, m⟩ : St).sh w ⟨fun x => g.im x ∨ (q.al = true ∧ x = g.at_ (.r ri)), g.at_, g.off, g.cap⟩ (⟨t, b.set l (cs.set j (.d (.vec q.sz q.xs))), r.set ri none, m⟩ : St).sh w := by
    refine ⟨fun _ h => .inl h, fun _ _ => rfl, by simp [St.sh], Nat.le_refl _, by simp [St.sh], fun _ _ => rfl, fun _ _ => rfl, fun k al ver sz' len hk' hh => ?_⟩
    by_cases e : ri = k
    · subst e; simp [St.sh, List.getElem?_set, hr] at hh
    · exact ⟨al, ver, sz', len, by simpa [St.sh, List.getElem?_set, e] using hh, Nat.le_refl _, fun _ => ⟨rfl, rfl, Nat.le_refl _, rfl, rfl, rfl⟩⟩
  refine ⟨⟨fun x => g.im x ∨ (q.al = true ∧ x = g.at_ (.r ri)), g.at_, g.off, g.cap⟩, rel.below, rel.ext.trans ext, fun x hx => ?_, fun x hx => ?_, fun x hx => rel.own x (hlive x hx).1, ⟨fun x hx => rel.heap.lt x (hlive x hx).1, fun x hx => ?_, fun x y hx hy => rel.heap.inj x y (hlive x hx).1 (hlive y hy).1, fun k ds hk' => ?_, fun k o hk' => ?_, fun k es hk' => ?_⟩, rel.size, rel.defers, fun j' hj => ?_⟩
  · rcases hx with h | ⟨h1, h2⟩
    · exact rel.imlt x h
    · rw [h2]; exact rel.heap.lt _ (hrl h1)
  · rcases hx with h | ⟨h1, h2⟩
    · exact rel.imold x h
    · rw [h2]; exact .inr (rel.own _ (hrl h1))
  · rintro (h | ⟨h1, h2⟩)
    · exact rel.heap.new x (hlive x hx).1 h
    · exact (hlive x hx).2 (rel.heap.inj x _ (hlive x hx).1 (hrl h1) h2)
  · have hk2 : (b.set l (cs.set j (.d (.vec q.sz q.xs))))[k]? = some ds := hk'
    by_cases hql : l = k
    · subst hql
      have hlt := (List.getElem?_eq_some_iff.1 hb).1
      have hds : cs.set j (.d (.vec q.sz q.xs)) = ds := by simpa [List.getElem?_set, hlt] using hk2
      obtain ⟨vs, ty, h1, h2, h3⟩ := rel.heap.box l cs hb
      refine ⟨vs, ty, h1, by rw [← hds]; simpa using h2, fun i c v hc hv => ?_⟩
      rw [← hds, List.getElem?_set] at hc
      split at hc
      · rename_i hjk
        subst hjk
        split at hc
        · simp only [Option.some.injEq] at hc
          subst hc
          exact .d _ _ (row_RD rel ho (.one _ _ (h3 j _ v hk hv)))
        · cases hc
      · exact (h3 i c v hc hv).mono ext
    · obtain ⟨vs, ty, h1, h2, h3⟩ := rel.heap.box k ds (by simpa [List.getElem?_set, hql] using hk2)
      exact ⟨vs, ty, h1, h2, fun i c v hc hv => (h3 i c v hc hv).mono ext⟩
  · have hk' : (r.set ri none)[k]? = some (some o) := hk'
    by_cases e : ri = k
    · subst e; simp [List.getElem?_set, hr] at hk'
    · have h1 := rel.heap.row k o (by simpa [List.getElem?_set, e] using hk')
      by_cases hal : o.al = true
      · rw [if_pos hal] at h1 ⊢
        obtain ⟨vs, t', q1, q2, q3, q4, q5, q6⟩ := h1
        exact ⟨vs, t', q1, q2, q3, q4, q5, fun i j x d v p1 p2 p3 => (q6 i j x d v p1 p2 p3).mono ext.im ext.same⟩
      · rw [if_neg hal] at h1 ⊢; exact h1
  · obtain ⟨arr, clock, h1, h2, h3⟩ := rel.heap.map k es hk'
    exact ⟨arr, clock, h1, h2, fun i x e hx he => ⟨(h3 i x e hx he).1.mono ext, (h3 i x e hx he).2.mono ext⟩⟩
  · exact (rel.tmps j' hj).mono ext
theorem LeV.aggNil (sz : Nat) : LeV (.agg [.d .nilsl]) (.agg [.d (.vec sz [])]) := fun im w v h => by
 cases h with | agg _ vs hl hx =>
 refine .agg _ _ hl (fun i c v hc hv => ?_)
 match i with
 | 0 =>
  simp at hc; subst hc
  have h1 := hx 0 _ v rfl hv
  cases h1 with | d _ _ h1 =>
  cases h1
  exact .d _ _ (.empty _ _ _)
 | i + 1 => simp at hc
end
section
open Go Go.RowKit
def hst (b : List (List C)) (r : List (Option RowO)) (m : List (List (DV × DV))) : St := ⟨fun _ => .junk, b, r, m⟩
abbrev HPost := V → List (List C) → List (Option RowO) → List (List (DV × DV)) → Prop
theorem Heap.t {g : Gh} {b : List (List C)} {r : List (Option RowO)} {m : List (List (DV × DV))} {w : World} {t : Nat → V} (t' : Nat → V) (h : Heap g ⟨t, b, r, m⟩ w) : Heap g ⟨t', b, r, m⟩ w :=
 ⟨fun x hx => h.lt x (by cases x <;> exact hx), fun x hx => h.new x (by cases x <;> exact hx), fun x y hx hy => h.inj x y (by cases x <;> exact hx) (by cases y <;> exact hy), h.box, h.row, h.map⟩
theorem live_t {b : List (List C)} {r : List (Option RowO)} {m : List (List (DV × DV))} {t t' : Nat → V} {x : Loc} (h : (⟨t, b, r, m⟩ : St).live x) : (⟨t', b, r, m⟩ : St).live x := by cases x <;> exact h
structure HCall (P : Program) (J : Inv) (f : FuncId) (args : List V) (b : List (List C)) (r : List (Option RowO)) (m : List (List (DV × DV))) (Q : HPost) : Prop where
 enter : ∃ fn, P.funcs[f]? = some fn ∧ (fn.name == "runtime.NumGoroutine") = false ∧ fn.body.isNone = false
 calls : ∀ (g : Gh) (w : World) (vs : List Value), J.I w → (∀ k, g.im k → k < w.heap.size) → Heap g (hst b r m) w → (∀ x, (hst b r m).live x → J.N ≤ g.at_ x) → vs.length = args.length →
  (∀ (i : Nat) (u : V) (v : Value), args[i]? = some u → vs[i]? = some v → RV g (hst b r m).sh w u v) →
  Calls P f vs.toArray w fun e w' => ∃ v g' rv b' r' m', e = .returned v ∧ BelowX (fun k => ∃ x, (hst b r m).live x ∧ g.at_ x = k) w w' ∧ Ext g (hst b r m).sh w g' (hst b' r' m').sh w' ∧
   (∀ k, g'.im k → k < w'.heap.size) ∧ (∀ k, g'.im k → g.im k ∨ (∃ x, (hst b r m).live x ∧ g.at_ x = k) ∨ w.heap.size ≤ k) ∧
   (∀ x, (hst b' r' m').live x → (∃ y, (hst b r m).live y ∧ g.at_ y = g'.at_ x) ∨ w.heap.size ≤ g'.at_ x) ∧ Heap g' (hst b' r' m') w' ∧ RV g' (hst b' r' m').sh w' rv v ∧ Q rv b' r' m'
theorem HCall.mono {P : Program} {J : Inv} {f : FuncId} {args : List V} {b : List (List C)} {r : List (Option RowO)} {m : List (List (DV × DV))} {Q Q' : HPost} (h : HCall P J f args b r m Q) (hq : ∀ rv b' r' m', Q rv b' r' m' → Q' rv b' r' m') : HCall P J f args b r m Q' :=
 ⟨h.enter, fun g w vs h1 h2 h3 h4 h5 h6 => (h.calls g w vs h1 h2 h3 h4 h5 h6).mono fun e w' ⟨v, g', rv, b', r', m', p1, p2, p3, p4, p5, p6, p7, p8, p9⟩ => ⟨v, g', rv, b', r', m', p1, p2, p3, p4, p5, p6, p7, p8, hq _ _ _ _ p9⟩⟩
def LeG (r' r : V) : Prop := ∀ (g : Gh) (h : Sh) (w : World) (v : Value), RV g h w r' v → RV g h w r v
theorem LeG.refl (r : V) : LeG r r := fun _ _ _ _ h => h
theorem HCall.le {P : Program} {J : Inv} {f : FuncId} {args : List V} {b : List (List C)} {r : List (Option RowO)} {m : List (List (DV × DV))} {Q : HPost}
  (h : HCall P J f args b r m (fun rv b' r' m' => ∃ rv', LeG rv rv' ∧ Q rv' b' r' m')) : HCall P J f args b r m Q :=
 ⟨h.enter, fun g w vs h1 h2 h3 h4 h5 h6 => (h.calls g w vs h1 h2 h3 h4 h5 h6).mono fun e w' ⟨v, g', rv, b', r', m', p1, p2, p3, p4, p5, p6, p7, p8, rv', p9, p10⟩ => ⟨v, g', rv', b', r', m', p1, p2, p3, p4, p5, p6, p7, p9 _ _ _ _ p8, p10⟩⟩
section
variable {J : Inv} {k0 : Lens} {E : Env J k0} {P : Program} {T : TypeId → Option TI} {n : Nat} {t : Nat → V} {b : List (List C)} {r : List (Option RowO)} {m : List (List (DV × DV))} {ops : Array Oper} {l : List Oper}
  {K : St → Prop} {i : Nat} {ty : TypeId} {pos : String} {after : Array Edge}
theorem Rel.behind {g g' : Gh} {a : Act} {w w' : World} {b' : List (List C)} {r' : List (Option RowO)} {m' : List (List (DV × DV))} (rel : Rel E n g ⟨t, b, r, m⟩ a w)
  (hb : BelowX (fun k => ∃ x, (hst b r m).live x ∧ g.at_ x = k) w w') (he : Ext g (hst b r m).sh w g' (hst b' r' m').sh w') (h1 : ∀ k, g'.im k → k < w'.heap.size)
  (h2 : ∀ k, g'.im k → g.im k ∨ (∃ x, (hst b r m).live x ∧ g.at_ x = k) ∨ w.heap.size ≤ k) (h3 : ∀ x, (hst b' r' m').live x → (∃ y, (hst b r m).live y ∧ g.at_ y = g'.at_ x) ∨ w.heap.size ≤ g'.at_ x)
  (hh : Heap g' (hst b' r' m') w') : Rel E n g' ⟨t, b', r', m'⟩ a w' := by
 have hs : w.heap.size ≥ E.w0.heap.size := rel.below.size
 refine ⟨rel.below.trans hb (fun k ⟨x, hx, hk⟩ hlt => ?_), rel.ext.trans he, h1, fun k hk => ?_, fun x hx => ?_, hh.t t, rel.size, rel.defers, fun j hj => (rel.tmps j hj).mono he⟩
 ·skip
  rcases rel.own x (live_t hx) with h | h
  ·skip
   rw [← hk]; exact h
  ·skip
   omega
 ·skip
  rcases h2 k hk with h | ⟨x, hx, hk⟩ | h
  ·skip
   exact rel.imold k h
  ·skip
   rw [← hk]; exact .inr (rel.own x (live_t hx))
  ·skip
   exact .inr (.inr (by omega))
 ·skip
  rcases h3 x (live_t hx) with ⟨y, hy, hk⟩ | h
  ·skip
   rw [← hk]; exact rel.own y (live_t hy)
  ·skip
   exact .inr (by omega)
theorem hcall_wp {g : Gh} {a : Act} {w : World} (rel : Rel E n g ⟨t, b, r, m⟩ a w) {o : Oper} {fo : Operand} {args : Array Operand} {ats : Array TypeId} (ho : o.op = .call { callee := .value fo, args, argTypes := ats }) {u : V} {f : FuncId} {caps : List C} {us : List V} {Q : HPost}
  (hu : opd n ⟨t, b, r, m⟩ fo = (true, u)) (hc : calleeV u = some (f, caps)) (ha : allOpdL n ⟨t, b, r, m⟩ args.toList = (true, us)) (pc : HCall P J f (us ++ caps.map V.one) b r m Q)
  {next : Act → World → Prop} {Qx : Exit → Act → World → Prop} (k : ∀ v g' w' rv b' r' m', Rel E n g' ⟨t, b', r', m'⟩ a w' → RV g' (hst b' r' m').sh w' rv v → Q rv b' r' m' → next (a.put o.dst v) w') : o.wp P a w next Qx := by
 obtain ⟨fn, hf, h1, h2⟩ := pc.enter
 obtain ⟨vs, hl, hx, hrun⟩ := call_run rel ho hu hc hf h1 h2
 obtain ⟨hal, hav⟩ := allOpdL_ok rel _ _ _ ha rfl
 have hall := capsV_ok (s := ⟨t, b, r, m⟩) (g := g) (w := w) (us := us) (caps := caps) (ws := args.toList.map a.eval) (vs := vs) (by simp [hal]) hav hl hx
 have hN : ∀ x, (hst b r m).live x → J.N ≤ g.at_ x := fun x hx => by
  rcases rel.own x (live_t hx) with h | h
  ·skip
   exact E.hN _ h
  ·skip
   exact Nat.le_trans (J.lt _ E.hI) h
 have hcall := pc.calls g w (args.toList.map a.eval ++ vs) rel.inv rel.imlt (rel.heap.t _) hN (by simp [hal, hl]) hall
 unfold Oper.wp
 rw [hrun]
 show Calls P f _ w _
 refine hcall.mono ?_
 rintro e w' ⟨v, g', rv, b', r', m', rfl, p2, p3, p4, p5, p6, p7, p8, p9⟩
 exact k v g' w' rv b' r' m' (rel.behind p2 p3 p4 p5 p6 p7) p8 p9
theorem Step.hcall {o : Oper} {fo : Operand} {args : Array Operand} {ats : Array TypeId} {u : V} {f : FuncId} {caps : List C} {us : List V} {Q : HPost}
  (pc : HCall P J f (us ++ caps.map V.one) b r m Q) (ho : o.op = .call { callee := .value fo, args, argTypes := ats }) (hg : o.guard = none) (hu : opd n ⟨t, b, r, m⟩ fo = (true, u)) (hc : calleeV u = some (f, caps))
  (ha : allOpdL n ⟨t, b, r, m⟩ args.toList = (true, us)) (k : ∀ rv b' r' m', Q rv b' r' m' → K ((⟨t, b', r', m'⟩ : St).set o.dst rv)) : Step E P n ops o K ⟨t, b, r, m⟩ := by
 intro g a w rel next Qx hn
 have hw : Region.wanted o (yielded ops a.tmps) = true := by simp [Region.wanted, hg]
 rw [if_pos hw]
 exact hcall_wp rel ho hu hc ha pc (fun v g' w' rv b' r' m' rel' hv hq => hn _ g' _ _ (k rv b' r' m' hq) (rel'.put_same _ hv))
theorem S.hcall {dst : Option Nat} {fo : Operand} {args : Array Operand} {ats : Array TypeId} {u : V} {f : FuncId} {caps : List C} {us ws : List V} {Q : HPost} (hu : opd n ⟨t, b, r, m⟩ fo = (true, u)) (hc : calleeV u = some (f, caps))
  (ha : allOpdL n ⟨t, b, r, m⟩ args.toList = (true, us)) (hw : forceVs (appL us (caps.map V.one)) = some ws) (pc : HCall P J f ws b r m Q)
  (k : ∀ rv b' r' m', Q rv b' r' m' → WL E P n ops l K ⟨updO t dst rv, b', r', m'⟩) : WL E P n ops (⟨dst, .call ⟨.value fo, args, ats⟩, ty, pos, after, none⟩ :: l) K ⟨t, b, r, m⟩ := by
 obtain rfl := forceVs_eq hw
 rw [appL_eq] at pc
 refine Step.hcall pc rfl rfl hu hc ha (fun rv b' r' m' hq => ?_)
 have := k rv b' r' m' hq
 cases dst <;> exact this
def isH (rv : V) (b : List (List C)) (r : List (Option RowO)) (m : List (List (DV × DV))) : HPost := fun rv' b' r' m' => rv' = rv ∧ b' = b ∧ r' = r ∧ m' = m
theorem S.hcallD {dst : Option Nat} {fo : Operand} {args : Array Operand} {ats : Array TypeId} {u : V} {f : FuncId} {caps : List C} {us ws : List V} {rv : V} {b' : List (List C)} {r' : List (Option RowO)} {m' : List (List (DV × DV))}
  (hu : opd n ⟨t, b, r, m⟩ fo = (true, u)) (hc : calleeV u = some (f, caps))
  (ha : allOpdL n ⟨t, b, r, m⟩ args.toList = (true, us)) (hw : forceVs (appL us (caps.map V.one)) = some ws) (pc : HCall P J f ws b r m (isH rv b' r' m'))
  (k : WL E P n ops l K ⟨updO t dst rv, b', r', m'⟩) : WL E P n ops (⟨dst, .call ⟨.value fo, args, ats⟩, ty, pos, after, none⟩ :: l) K ⟨t, b, r, m⟩ :=
 S.hcall hu hc ha hw pc (fun _ _ _ _ ⟨h1, h2, h3, h4⟩ => by rw [h1, h2, h3, h4]; exact k)
theorem Rel.drop {g : Gh} {a : Act} {w : World} {b1 b2 : List (List C)} {r1 r2 : List (Option RowO)} {m1 m2 : List (List (DV × DV))} (rel : Rel E n g ⟨t, b1 ++ b2, r1 ++ r2, m1 ++ m2⟩ a w)
  (hlow : (loB b1.length r1.length m1.length b1 && (Nat.ble k0.L b1.length && (Nat.ble k0.R r1.length && Nat.ble k0.M m1.length))) = true) : Rel E n g ⟨fun _ => .junk, b1, r1, m1⟩ a w :=
 Rel.keep [] b1 b2 r1 r2 m1 m2 trivial (by simpa [loL] using hlow) rel
def HEnds (k0 : Lens) (T : TypeId → Option TI) (fn : Func) (Q : HPost) : Ex → St → Prop
  | .exit _, _ => False
  | _, s => ∃ vs, resAll T fn.ntmps s fn.results.toList = some vs ∧ (Q (resV vs) s.b s.r s.m ∨ ∃ k1 : Lens, (loV k1.L k1.R k1.M (resV vs) && (Nat.ble k1.L s.b.length && (Nat.ble k1.R s.r.length && (Nat.ble k1.M s.m.length &&
      (loB k1.L k1.R k1.M (s.b.take k1.L) && (Nat.ble k0.L k1.L && (Nat.ble k0.R k1.R && Nat.ble k0.M k1.M))))))) = true ∧ Q (resV vs) (s.b.take k1.L) (s.r.take k1.R) (s.m.take k1.M))
theorem HCall.of_body (hT : TabOk P T) {f : FuncId} {fn : Func} {c : Code} {args : List V} {Q : HPost} (hf : P.funcs[f]? = some fn) (hname : (fn.name == "runtime.NumGoroutine") = false) (hb : fn.body = some c)
    (hn : args.length ≤ fn.ntmps) (h : ∀ E : Env J ⟨b.length, r.length, m.length⟩, W E P fn.ntmps c (HEnds ⟨b.length, r.length, m.length⟩ T fn Q) ⟨argsV args, b, r, m⟩) : HCall P J f args b r m Q := by
  refine ⟨⟨fn, hf, hname, by rw [hb]; rfl⟩, fun g w vs hJ hi hH hN hl hx => ?_⟩
  refine calls_of_wp hf hb ?_
  let E : Env J ⟨b.length, r.length, m.length⟩ := ⟨w, g, (hst b r m).sh, fun k => ∃ x, (hst b r m).live x ∧ g.at_ x = k, rfl, by simp [hst, St.sh], rfl, hJ, fun k ⟨x, hx, hk⟩ => by rw [← hk]; exact hN x hx⟩
  have rel : Rel E fn.ntmps g ⟨argsV args, b, r, m⟩ { tmps := vs.toArray ++ Array.replicate (fn.ntmps - vs.toArray.size) undef, defers := [] } w := by
    refine ⟨BelowX.refl _ _, .refl _ _ _, hi, fun b h => .inl h, fun x hx => .inl ⟨x, live_t hx, rfl⟩, hH.t _, ?_, rfl, fun i hi' => ?_⟩
    · simp [hl]; omega
    · show RV _ _ _ (argsV args i) _
      rw [argsV_get]
      rcases Nat.lt_or_ge i args.length with h1 | h1
      · have h2 : vs[i]? = some vs[i] := List.getElem?_eq_getElem (by omega)
        have h3 : args[i]? = some args[i] := List.getElem?_eq_getElem h1
        rw [List.getD_eq_getElem?_getD, h3, Option.getD_some]
        have h4 : (vs.toArray ++ Array.replicate (fn.ntmps - vs.toArray.size) undef).getD i undef = vs[i] := by
          rw [Array.getD_eq_getD_getElem?, Array.getElem?_append_left (by simp; omega)]
          simp [h2]
        rw [h4]
        exact hx i _ _ h3 h2
      · rw [List.getD_eq_getElem?_getD, List.getElem?_eq_none h1]
        exact .junk _
  refine wp_mono (h E g _ w rel) ?_
  rintro _ a' w' ⟨e, s', g', rfl, hk, r'⟩
  have fin : (∃ vs, resAll T fn.ntmps s' fn.results.toList = some vs ∧ (Q (resV vs) s'.b s'.r s'.m ∨ ∃ k1 : Lens, (loV k1.L k1.R k1.M (resV vs) && (Nat.ble k1.L s'.b.length && (Nat.ble k1.R s'.r.length && (Nat.ble k1.M s'.m.length &&
      (loB k1.L k1.R k1.M (s'.b.take k1.L) && (Nat.ble b.length k1.L && (Nat.ble r.length k1.R && Nat.ble m.length k1.M))))))) = true ∧ Q (resV vs) (s'.b.take k1.L) (s'.r.take k1.R) (s'.m.take k1.M))) → a'.defers = [] ∧ ∃ v, (results fn a'.tmps).run P w' = .ok v w' ∧
      ∃ v_1 g1 rv b' r' m', Ending.returned v = Ending.returned v_1 ∧ BelowX (fun k => ∃ x, (hst b r m).live x ∧ g.at_ x = k) w w' ∧ Ext g (hst b r m).sh w g1 (hst b' r' m').sh w' ∧
      (∀ k, g1.im k → k < w'.heap.size) ∧ (∀ k, g1.im k → g.im k ∨ (∃ x, (hst b r m).live x ∧ g.at_ x = k) ∨ w.heap.size ≤ k) ∧
      (∀ x, (hst b' r' m').live x → (∃ y, (hst b r m).live y ∧ g.at_ y = g1.at_ x) ∨ w.heap.size ≤ g1.at_ x) ∧ Heap g1 (hst b' r' m') w' ∧ RV g1 (hst b' r' m').sh w' rv v_1 ∧ Q rv b' r' m' := by
    rintro ⟨vs, h1, h2⟩
    obtain ⟨z, h4, h5⟩ := results_ok (P := P) hT r' h1
    refine ⟨r'.defers, z, h4, z, g', resV vs, ?_⟩
    rcases h2 with h2 | ⟨k1, hk1, h2⟩
    · exact ⟨s'.b, s'.r, s'.m, rfl, r'.below, r'.ext, r'.imlt, r'.imold, fun x hx => r'.own x (live_t hx), r'.heap.t _, h5, h2⟩
    · simp only [Bool.and_eq_true] at hk1
      obtain ⟨c1, c2, c3, c4, c5, c6, c7, c8⟩ := hk1
      have l2 := Nat.le_of_ble_eq_true c2
      have l3 := Nat.le_of_ble_eq_true c3
      have l4 := Nat.le_of_ble_eq_true c4
      have e1 : (s'.b.take k1.L).length = k1.L := by simp; omega
      have e2 : (s'.r.take k1.R).length = k1.R := by simp; omega
      have e3 : (s'.m.take k1.M).length = k1.M := by simp; omega
      have hst' : (⟨s'.t, s'.b.take k1.L ++ s'.b.drop k1.L, s'.r.take k1.R ++ s'.r.drop k1.R, s'.m.take k1.M ++ s'.m.drop k1.M⟩ : St) = s' := by
        simp only [List.take_append_drop]
      have rel2 := Rel.drop (b1 := s'.b.take k1.L) (b2 := s'.b.drop k1.L) (r1 := s'.r.take k1.R) (r2 := s'.r.drop k1.R) (m1 := s'.m.take k1.M) (m2 := s'.m.drop k1.M) (t := s'.t) (by rw [hst']; exact r')
        (by rw [e1, e2, e3]; simp only [Bool.and_eq_true]; exact ⟨c5, c6, c7, c8⟩)
      refine ⟨s'.b.take k1.L, s'.r.take k1.R, s'.m.take k1.M, rfl, rel2.below, rel2.ext, rel2.imlt, rel2.imold, fun x hx => rel2.own x hx, rel2.heap, ?_, h2⟩
      have h6 := h5.lo k1.L k1.R k1.M (by simpa [St.sh] using l3) c1
      have : (hst (s'.b.take k1.L) (s'.r.take k1.R) (s'.m.take k1.M)).sh = ⟨k1.L, s'.sh.rows.take k1.R, k1.M⟩ := by
        simp only [hst, St.sh, e1, e3, List.map_take]
      rw [this]; exact h6
  cases e with
  | normal => exact fin hk
  | exit id => exact hk.elim
  | ret => exact fin hk
end
end
section
open Go Go.RowKit
def putL {α : Type} : List α → List Nat → List α → List α
 | B, [], xs => B ++ xs
 | B, _ :: _, [] => B
 | B, q :: ρ, x :: xs => putL (B.set q x) ρ xs
def posL (ρ : List Nat) (nB i : Nat) : Nat := bif Nat.blt i ρ.length then ρ.getD i 0 else nB + (i - ρ.length)
theorem posL_zero (q : Nat) (ρ : List Nat) (nB : Nat) : posL (q :: ρ) nB 0 = q := by
 show (bif Nat.blt 0 (ρ.length + 1) then q else nB + (0 - (ρ.length + 1))) = q
 rw [show Nat.blt 0 (ρ.length + 1) = true from by simp [Nat.blt_eq]]; rfl
theorem posL_succ (q : Nat) (ρ : List Nat) (nB i : Nat) : posL (q :: ρ) nB (i + 1) = posL ρ nB i := by
 unfold posL
 have h : Nat.blt (i + 1) (q :: ρ).length = Nat.blt i ρ.length := by
  rw [Bool.eq_iff_iff]; simp [Nat.blt_eq]
 rw [h]
 cases Nat.blt i ρ.length with
 | true => simp
 | false => simp
theorem posL_nil (nB i : Nat) : posL [] nB i = nB + i := by
 show (bif Nat.blt i 0 then ([] : List Nat).getD i 0 else nB + (i - 0)) = nB + i
 rw [show Nat.blt i 0 = false from rfl]; rfl
theorem posL_lt {ρ : List Nat} {nB i : Nat} (h : i < ρ.length) : posL ρ nB i = ρ.getD i 0 := by
 have : Nat.blt i ρ.length = true := by simpa [Nat.blt_eq] using h
 simp [posL, this]
theorem posL_ge {ρ : List Nat} {nB i : Nat} (h : ρ.length ≤ i) : posL ρ nB i = nB + (i - ρ.length) := by
 have : Nat.blt i ρ.length = false := by rw [← Bool.not_eq_true]; simpa [Nat.blt_eq] using h
 simp [posL, this]
section
variable {α : Type}
theorem putL_else : ∀ (ρ : List Nat) (B xs : List α) (l : Nat), (∀ i, i < xs.length → posL ρ B.length i ≠ l) → ρ.length ≤ xs.length → (putL B ρ xs)[l]? = B[l]?
  | [], B, xs, l, h, _ => by
    unfold putL
    rcases Nat.lt_or_ge l B.length with h1 | h1
    · rw [List.getElem?_append_left h1]
    · rw [List.getElem?_append_right h1, List.getElem?_eq_none, List.getElem?_eq_none h1]
      rcases Nat.lt_or_ge (l - B.length) xs.length with h2 | h2
      · exact absurd (by rw [posL_nil]; omega) (h _ h2)
      · exact h2
  | q :: ρ, B, [], l, h, hl => by simp at hl
  | q :: ρ, B, x :: xs, l, h, hl => by
    unfold putL
    rw [putL_else ρ (B.set q x) xs l (fun i hi => by have := h (i + 1) (by simpa using hi); rw [posL_succ] at this; simpa using this) (by simpa using hl)]
    have h0 := h 0 (by simp)
    rw [posL_zero] at h0
    rw [List.getElem?_set, if_neg h0]
theorem posL_inj {ρ : List Nat} {nB : Nat} (hn : ρ.Nodup) (hlt : ∀ q ∈ ρ, q < nB) {i j : Nat} (h : posL ρ nB i = posL ρ nB j) : i = j := by
 rcases Nat.lt_or_ge i ρ.length with hi | hi <;> rcases Nat.lt_or_ge j ρ.length with hj | hj
 ·skip
  rw [posL_lt hi, posL_lt hj] at h
  simp only [List.getD_eq_getElem?_getD, List.getElem?_eq_getElem hi, List.getElem?_eq_getElem hj, Option.getD_some] at h
  exact (List.getElem_inj hn).1 h
 ·skip
  rw [posL_lt hi, posL_ge hj] at h
  have := hlt (ρ.getD i 0) (by simp [List.getD_eq_getElem?_getD, List.getElem?_eq_getElem hi])
  omega
 ·skip
  rw [posL_ge hi, posL_lt hj] at h
  have := hlt (ρ.getD j 0) (by simp [List.getD_eq_getElem?_getD, List.getElem?_eq_getElem hj])
  omega
 ·skip
  rw [posL_ge hi, posL_ge hj] at h; omega
theorem putL_at : ∀ (ρ : List Nat) (B xs : List α) (i : Nat), ρ.Nodup → (∀ q ∈ ρ, q < B.length) → ρ.length ≤ xs.length → i < xs.length → (putL B ρ xs)[posL ρ B.length i]? = xs[i]?
  | [], B, xs, i, _, _, _, _ => by unfold putL; rw [posL_nil, List.getElem?_append_right (by omega)]; congr 1; omega
  | q :: ρ, B, [], i, _, _, hl, _ => by simp at hl
  | q :: ρ, B, x :: xs, 0, hn, hlt, hl, _ => by
    unfold putL
    rw [posL_zero, putL_else ρ (B.set q x) xs q (fun i hi he => ?_) (by simpa using hl)]
    · have := hlt q (List.mem_cons_self ..)
      simp [List.getElem?_set, this]
    · have h1 : posL (q :: ρ) B.length (i + 1) = posL (q :: ρ) B.length 0 := by rw [posL_succ, posL_zero]; simpa using he
      have := posL_inj hn hlt h1
      omega
  | q :: ρ, B, x :: xs, i + 1, hn, hlt, hl, hi => by
    unfold putL
    rw [posL_succ]
    have := putL_at ρ (B.set q x) xs i (List.nodup_cons.1 hn).2 (fun p hp => by simpa using hlt p (List.mem_cons_of_mem _ hp)) (by simpa using hl) (by simpa using hi)
    simpa using this
theorem putL_length : ∀ (ρ : List Nat) (B xs : List α), B.length ≤ (putL B ρ xs).length
 | [], B, xs => by simp [putL]
 | q :: ρ, B, [] => by simp [putL]
 | q :: ρ, B, x :: xs => by unfold putL; have := putL_length ρ (B.set q x) xs; simpa using this
end
structure Ren where
 b : Nat → Nat
 r : Nat → Nat
 m : Nat → Nat
mutual
def renC (p : Ren) : C → C
  | .ptr l off => .ptr (p.b l) off
  | .row r v o n => .row (p.r r) v o n
  | .rptr r v i o => .rptr (p.r r) v i o
  | .map m => .map (p.m m)
  | .clo f cs => .clo f (renCs p cs)
  | .wr k l off => .wr k (p.b l) off
  | .d x => .d x
  | .eptr cs => .eptr cs
  | .junk => .junk
def renCs (p : Ren) : List C → List C
  | [] => []
  | c :: l => renC p c :: renCs p l
end
mutual
def renV (p : Ren) : V → V
  | .one c => .one (renC p c)
  | .agg cs => .agg (renCs p cs)
  | .tup vs => .tup (renVs p vs)
  | .when b v => .when b (renV p v)
  | .junk => .junk
def renVs (p : Ren) : List V → List V
  | [] => []
  | c :: l => renV p c :: renVs p l
end
def renB (p : Ren) : List (List C) → List (List C)
 | [] => []
 | c :: l => renCs p c :: renB p l
theorem renCs_map (p : Ren) : ∀ l, renCs p l = l.map (renC p)
 | [] => rfl
 | c :: l => by simp [renCs, renCs_map p l]
theorem renVs_map (p : Ren) : ∀ l, renVs p l = l.map (renV p)
 | [] => rfl
 | c :: l => by simp [renVs, renVs_map p l]
theorem renB_map (p : Ren) : ∀ l, renB p l = l.map (renCs p)
 | [] => rfl
 | c :: l => by simp [renB, renB_map p l]
def Ren.loc (p : Ren) : Loc → Loc
 | .b l => .b (p.b l) | .r l => .r (p.r l) | .m l => .m (p.m l)
structure Emb (p : Ren) (h H : Sh) (g G : Gh) : Prop where
 atB : ∀ l, l < h.L → p.b l < H.L ∧ G.at_ (.b (p.b l)) = g.at_ (.b l)
 atR : ∀ r, r < h.rows.length → p.r r < H.rows.length ∧ H.rows[p.r r]? = h.rows[r]? ∧ G.at_ (.r (p.r r)) = g.at_ (.r r) ∧ G.off (p.r r) = g.off r ∧ G.cap (p.r r) = g.cap r
 atM : ∀ l, l < h.M → p.m l < H.M ∧ G.at_ (.m (p.m l)) = g.at_ (.m l)
section
variable {p : Ren} {h H : Sh} {g G : Gh} {w : World}
mutual
theorem RC.up (e : Emb p h H g G) (hi : G.im = g.im) : ∀ {c : C} {v : Value}, RC g h w c v → RC G H w (renC p c) v
  | .d x, v, hx => by cases hx with | d _ _ hx => exact .d _ _ (by rw [hi]; exact hx)
  | .ptr l off, v, hx => by cases hx with | ptr _ _ hl => rw [← (e.atB l hl).2]; exact .ptr _ _ (e.atB l hl).1
  | .eptr cs, v, hx => by cases hx with | eptr _ b o u h1 h2 h3 => exact .eptr _ b o u (by rw [hi]; exact h1) h2 (by rw [hi]; exact h3)
  | .row r ver off n, v, hx => by
    cases hx with | row _ _ _ _ _ hv hr hx =>
    obtain ⟨h1, h2, h3, h4, h5⟩ := e.atR r hr
    exact .row _ _ _ _ _ hv h1 (fun al ver' sz len hh => by rw [h3, h4, h5]; exact hx al ver' sz len (by rw [← h2]; exact hh))
  | .rptr r ver i fo, v, hx => by
    cases hx with | rptr _ _ _ _ _ hv hr hx =>
    obtain ⟨h1, h2, h3, h4, h5⟩ := e.atR r hr
    exact .rptr _ _ _ _ _ hv h1 (fun al ver' sz len hh => by rw [h3, h4]; exact hx al ver' sz len (by rw [← h2]; exact hh))
  | .map l, v, hx => by cases hx with | map _ hl => rw [← (e.atM l hl).2]; exact .map _ (e.atM l hl).1
  | .clo f cs, v, hx => by
    cases hx with | clo _ _ vs hl hx =>
    exact .clo f _ vs (by rw [renCs_map]; simpa using hl) (RC.ups e hi cs vs hx)
  | .wr k l off, v, hx => by cases hx with | wr _ _ _ hl => rw [← (e.atB l hl).2]; exact .wr _ _ _ (e.atB l hl).1
  | .junk, v, hx => by cases hx with | junk _ hx => exact .junk _ hx
theorem RC.ups (e : Emb p h H g G) (hi : G.im = g.im) : ∀ (cs : List C) (vs : List Value), (∀ (i : Nat) (c : C) (v : Value), cs[i]? = some c → vs[i]? = some v → RC g h w c v) →
    ∀ (i : Nat) (c : C) (v : Value), (renCs p cs)[i]? = some c → vs[i]? = some v → RC G H w c v
  | [], vs, _, i, c, v, h1, _ => by simp [renCs] at h1
  | c0 :: cs, vs, hx, 0, c, v, h1, h2 => by
    simp [renCs] at h1
    subst h1
    exact RC.up e hi (hx 0 c0 v rfl h2)
  | c0 :: cs, vs, hx, i + 1, c, v, h1, h2 => by
    cases vs with
    | nil => simp at h2
    | cons v0 vs => exact RC.ups e hi cs vs (fun i c v h3 h4 => hx (i + 1) c v h3 h4) i c v (by simpa [renCs] using h1) (by simpa using h2)
end
mutual
theorem RV.up (e : Emb p h H g G) (hi : G.im = g.im) : ∀ {u : V} {v : Value}, RV g h w u v → RV G H w (renV p u) v
  | .one c, v, hx => by cases hx with | one _ _ hx => exact .one _ _ (hx.up e hi)
  | .agg cs, v, hx => by cases hx with | agg _ vs hl hx => exact .agg _ vs (by rw [renCs_map]; simpa using hl) (RC.ups e hi cs vs hx)
  | .tup us, v, hx => by cases hx with | tup _ vs hl hx => exact .tup _ vs (by rw [renVs_map]; simpa using hl) (RV.ups e hi us vs hx)
  | .when b u, v, hx => by
    cases hx with
    | whenT _ _ hx => exact .whenT _ _ (RV.up e hi hx)
    | whenF _ => exact .whenF _
  | .junk, v, hx => .junk _
theorem RV.ups (e : Emb p h H g G) (hi : G.im = g.im) : ∀ (cs : List V) (vs : List Value), (∀ (i : Nat) (c : V) (v : Value), cs[i]? = some c → vs[i]? = some v → RV g h w c v) →
    ∀ (i : Nat) (c : V) (v : Value), (renVs p cs)[i]? = some c → vs[i]? = some v → RV G H w c v
  | [], vs, _, i, c, v, h1, _ => by simp [renVs] at h1
  | c0 :: cs, vs, hx, 0, c, v, h1, h2 => by
    simp [renVs] at h1
    subst h1
    exact RV.up e hi (hx 0 c0 v rfl h2)
  | c0 :: cs, vs, hx, i + 1, c, v, h1, h2 => by
    cases vs with
    | nil => simp at h2
    | cons v0 vs => exact RV.ups e hi cs vs (fun i c v h3 h4 => hx (i + 1) c v h3 h4) i c v (by simpa [renVs] using h1) (by simpa using h2)
end
mutual
theorem RC.down (e : Emb p h H g G) (hi : G.im = g.im) : ∀ {c : C} {v : Value}, loC h.L h.rows.length h.M c = true → RC G H w (renC p c) v → RC g h w c v
  | .d x, v, _, hx => by cases hx with | d _ _ hx => exact .d _ _ (by rw [← hi]; exact hx)
  | .ptr l off, v, hl, hx => by
    have hl : l < h.L := by simpa [loC, Nat.blt_eq] using hl
    cases hx with | ptr _ _ _ => rw [(e.atB l hl).2]; exact .ptr _ _ hl
  | .eptr cs, v, _, hx => by cases hx with | eptr _ b o u h1 h2 h3 => exact .eptr _ b o u (by rw [← hi]; exact h1) h2 (by rw [← hi]; exact h3)
  | .row r ver off n, v, hl, hx => by
    have hr : r < h.rows.length := by simpa [loC, Nat.blt_eq] using hl
    cases hx with | row _ _ _ _ _ hv _ hx =>
    obtain ⟨h1, h2, h3, h4, h5⟩ := e.atR r hr
    exact .row _ _ _ _ _ hv hr (fun al ver' sz len hh => by rw [← h3, ← h4, ← h5]; exact hx al ver' sz len (by rw [h2]; exact hh))
  | .rptr r ver i fo, v, hl, hx => by
    have hr : r < h.rows.length := by simpa [loC, Nat.blt_eq] using hl
    cases hx with | rptr _ _ _ _ _ hv _ hx =>
    obtain ⟨h1, h2, h3, h4, h5⟩ := e.atR r hr
    exact .rptr _ _ _ _ _ hv hr (fun al ver' sz len hh => by rw [← h3, ← h4]; exact hx al ver' sz len (by rw [h2]; exact hh))
  | .map l, v, hl, hx => by
    have hl : l < h.M := by simpa [loC, Nat.blt_eq] using hl
    cases hx with | map _ _ => rw [(e.atM l hl).2]; exact .map _ hl
  | .clo f cs, v, hl, hx => by
    cases hx with | clo _ _ vs hl' hx =>
    exact .clo f _ vs (by rw [renCs_map] at hl'; simpa using hl') (RC.downs e hi cs vs (by simpa [loC] using hl) hx)
  | .wr k l off, v, hl, hx => by
    have hl : l < h.L := by simpa [loC, Nat.blt_eq] using hl
    cases hx with | wr _ _ _ _ => rw [(e.atB l hl).2]; exact .wr _ _ _ hl
  | .junk, v, _, hx => by cases hx with | junk _ hx => exact .junk _ hx
theorem RC.downs (e : Emb p h H g G) (hi : G.im = g.im) : ∀ (cs : List C) (vs : List Value), loCs h.L h.rows.length h.M cs = true → (∀ (i : Nat) (c : C) (v : Value), (renCs p cs)[i]? = some c → vs[i]? = some v → RC G H w c v) →
    ∀ (i : Nat) (c : C) (v : Value), cs[i]? = some c → vs[i]? = some v → RC g h w c v
  | [], vs, _, _, i, c, v, h1, _ => by simp at h1
  | c0 :: cs, vs, hl, hx, 0, c, v, h1, h2 => by
    simp at h1
    subst h1
    simp only [loCs, Bool.and_eq_true] at hl
    exact RC.down e hi hl.1 (hx 0 _ v rfl h2)
  | c0 :: cs, vs, hl, hx, i + 1, c, v, h1, h2 => by
    simp only [loCs, Bool.and_eq_true] at hl
    cases vs with
    | nil => simp at h2
    | cons v0 vs => exact RC.downs e hi cs vs hl.2 (fun i c v h3 h4 => hx (i + 1) c v (by simpa [renCs] using h3) h4) i c v (by simpa using h1) (by simpa using h2)
end
mutual
theorem RV.down (e : Emb p h H g G) (hi : G.im = g.im) : ∀ {u : V} {v : Value}, loV h.L h.rows.length h.M u = true → RV G H w (renV p u) v → RV g h w u v
  | .one c, v, hl, hx => by cases hx with | one _ _ hx => exact .one _ _ (RC.down e hi (by simpa [loV] using hl) hx)
  | .agg cs, v, hl, hx => by cases hx with | agg _ vs hl' hx => exact .agg _ vs (by rw [renCs_map] at hl'; simpa using hl') (RC.downs e hi cs vs (by simpa [loV] using hl) hx)
  | .tup us, v, hl, hx => by cases hx with | tup _ vs hl' hx => exact .tup _ vs (by rw [renVs_map] at hl'; simpa using hl') (RV.downs e hi us vs (by simpa [loV] using hl) hx)
  | .when b u, v, hl, hx => by
    simp only [renV] at hx
    cases hx with
    | whenT _ _ hx => exact .whenT _ _ (RV.down e hi (by simpa [loV] using hl) hx)
    | whenF _ => exact .whenF _
  | .junk, v, _, hx => .junk _
theorem RV.downs (e : Emb p h H g G) (hi : G.im = g.im) : ∀ (cs : List V) (vs : List Value), loVs h.L h.rows.length h.M cs = true → (∀ (i : Nat) (c : V) (v : Value), (renVs p cs)[i]? = some c → vs[i]? = some v → RV G H w c v) →
    ∀ (i : Nat) (c : V) (v : Value), cs[i]? = some c → vs[i]? = some v → RV g h w c v
  | [], vs, _, _, i, c, v, h1, _ => by simp at h1
  | c0 :: cs, vs, hl, hx, 0, c, v, h1, h2 => by
    simp at h1
    subst h1
    simp only [loVs, Bool.and_eq_true] at hl
    exact RV.down e hi hl.1 (hx 0 _ v rfl h2)
  | c0 :: cs, vs, hl, hx, i + 1, c, v, h1, h2 => by
    simp only [loVs, Bool.and_eq_true] at hl
    cases vs with
    | nil => simp at h2
    | cons v0 vs => exact RV.downs e hi cs vs hl.2 (fun i c v h3 h4 => hx (i + 1) c v (by simpa [renVs] using h3) h4) i c v (by simpa using h1) (by simpa using h2)
end
end
end
section
open Go Go.RowKit
def nodupB : List Nat → Bool
 | [] => true
 | q :: l => l.all (fun x => !Nat.beq q x) && nodupB l
theorem nodupB_ok : ∀ {l : List Nat}, nodupB l = true → l.Nodup
  | [], _ => List.nodup_nil
  | q :: l, h => by
    simp only [nodupB, Bool.and_eq_true, List.all_eq_true] at h
    refine List.nodup_cons.2 ⟨fun hm => ?_, nodupB_ok h.2⟩
    have := h.1 q hm
    simp at this
def allLt (ρ : List Nat) (n : Nat) : Bool := ρ.all fun q => Nat.blt q n
theorem allLt_ok {ρ : List Nat} {n : Nat} (h : allLt ρ n = true) : ∀ q ∈ ρ, q < n := fun q hq => by
 have := List.all_eq_true.1 h q hq
 simpa [Nat.blt_eq] using this
def pickL {α : Type} (B : List α) : List Nat → Option (List α)
  | [] => some []
  | q :: ρ => match B[q]?, pickL B ρ with
    | some x, some l => some (x :: l)
    | _, _ => none
theorem pickL_at {α : Type} {B : List α} : ∀ {ρ : List Nat} {xs : List α}, pickL B ρ = some xs → xs.length = ρ.length ∧ ∀ i, i < ρ.length → B[ρ.getD i 0]? = xs[i]?
  | [], xs, h => by obtain rfl : [] = xs := by simpa [pickL] using h
                    exact ⟨rfl, fun i hi => absurd hi (Nat.not_lt_zero _)⟩
  | q :: ρ, xs, h => by
    unfold pickL at h
    split at h
    · rename_i x l hx hl
      obtain rfl : x :: l = xs := by simpa using h
      obtain ⟨h1, h2⟩ := pickL_at hl
      refine ⟨by simp [h1], fun i hi => ?_⟩
      cases i with
      | zero => simpa using hx
      | succ i => simpa using h2 i (by simpa using hi)
    · cases h
def renOf (ρb ρr ρm : List Nat) (nB nR nM : Nat) : Ren := ⟨posL ρb nB, posL ρr nR, posL ρm nM⟩
open Classical in
noncomputable def backL (pos : Nat → Nat) (n l : Nat) : Option Nat := if h : ∃ i, i < n ∧ pos i = l then some h.choose else none
theorem backL_pos {pos : Nat → Nat} {n i : Nat} (hinj : ∀ i j, pos i = pos j → i = j) (hi : i < n) : backL pos n (pos i) = some i := by
 unfold backL
 have h : ∃ j, j < n ∧ pos j = pos i := ⟨i, hi, rfl⟩
 rw [dif_pos h]
 exact congrArg some (hinj _ _ h.choose_spec.2)
theorem backL_else {pos : Nat → Nat} {n l : Nat} (h : ∀ i, i < n → pos i ≠ l) : backL pos n l = none := by
 unfold backL
 rw [dif_neg]
 rintro ⟨i, hi, he⟩
 exact h i hi he
def Gh.less (g : Gh) (p : Ren) : Gh := ⟨g.im, fun x => g.at_ (p.loc x), fun r => g.off (p.r r), fun r => g.cap (p.r r)⟩
noncomputable def Gh.back (g g1 : Gh) (p : Ren) (nb nr nm : Nat) : Gh where
 im := g1.im
 at_ := fun x => match x with
  | .b l => match backL p.b nb l with | some i => g1.at_ (.b i) | none => g.at_ (.b l)
  | .r l => match backL p.r nr l with | some i => g1.at_ (.r i) | none => g.at_ (.r l)
  | .m l => match backL p.m nm l with | some i => g1.at_ (.m i) | none => g.at_ (.m l)
 off := fun l => match backL p.r nr l with | some i => g1.off i | none => g.off l
 cap := fun l => match backL p.r nr l with | some i => g1.cap i | none => g.cap l
theorem DV_ren (p : Ren) (x : DV) : renV p x.v = x.v := by
 have h : ∀ ds : List D, V.agg (renCs p (ds.map .d)) = .agg (ds.map .d) := fun ds => by
  rw [renCs_map]
  simp only [List.map_map]
  congr 1
 cases x with
 | one d => rfl
 | st _ _ d => rfl
 | agg ds => exact h ds
 | sta _ _ ds => exact h ds
section
variable {P : Program} {J : Inv} {f : FuncId} {args : List V} {b B : List (List C)} {r R : List (Option RowO)} {m M : List (List (DV × DV))} {Q : HPost}
theorem live_lt {b : List (List C)} {r : List (Option RowO)} {m : List (List (DV × DV))} {x : Loc} (h : (hst b r m).live x) : (match x with | .b l => l < b.length | .r l => l < r.length | .m l => l < m.length) := by
  cases x with
  | b l => exact h
  | r l => obtain ⟨o, ho, _⟩ := h; exact (List.getElem?_eq_some_iff.1 ho).1
  | m l => exact h
def framed (ρb ρr ρm : List Nat) (B : List (List C)) (R : List (Option RowO)) (M : List (List (DV × DV))) (Q : HPost) : HPost := fun rv B' R' M' => ∃ rv0 b' r' m', Q rv0 b' r' m' ∧ rv = renV (renOf ρb ρr ρm B.length R.length M.length) rv0 ∧
 B' = putL B ρb (renB (renOf ρb ρr ρm B.length R.length M.length) b') ∧ R' = putL R ρr r' ∧ M' = putL M ρm m'
theorem HCall.frame (pc : HCall P J f args b r m Q) (ρb ρr ρm : List Nat) {Args : List V} (hA : renVs (renOf ρb ρr ρm B.length R.length M.length) args = Args)
    (hb : pickL B ρb = some (renB (renOf ρb ρr ρm B.length R.length M.length) b)) (hr : pickL R ρr = some r) (hm : pickL M ρm = some m)
    (hok : ((nodupB ρb && (nodupB ρr && nodupB ρm)) && ((allLt ρb B.length && (allLt ρr R.length && allLt ρm M.length)) && (loVs b.length r.length m.length args && loB b.length r.length m.length b))) = true) :
    HCall P J f Args B R M (framed ρb ρr ρm B R M Q) := by
  obtain ⟨p, hp⟩ : ∃ p, p = renOf ρb ρr ρm B.length R.length M.length := ⟨_, rfl⟩
  unfold framed
  rw [← hp] at hA hb ⊢
  subst hA
  simp only [Bool.and_eq_true] at hok
  obtain ⟨⟨nb, nr, nm⟩, ⟨lb, lr, lm⟩, hloA, hloB⟩ := hok
  have nb := nodupB_ok nb
  have nr := nodupB_ok nr
  have nm := nodupB_ok nm
  have lb := allLt_ok lb
  have lr := allLt_ok lr
  have lm := allLt_ok lm
  obtain ⟨eb, hb⟩ := pickL_at hb
  obtain ⟨er, hr⟩ := pickL_at hr
  obtain ⟨em, hm⟩ := pickL_at hm
  rw [renB_map, List.length_map] at eb
  have pb : p.b = posL ρb B.length := by rw [hp]; rfl
  have pr : p.r = posL ρr R.length := by rw [hp]; rfl
  have pm : p.m = posL ρm M.length := by rw [hp]; rfl
  have ib : ∀ i j, p.b i = p.b j → i = j := fun i j h => by rw [pb] at h; exact posL_inj nb lb h
  have ir : ∀ i j, p.r i = p.r j → i = j := fun i j h => by rw [pr] at h; exact posL_inj nr lr h
  have im : ∀ i j, p.m i = p.m j → i = j := fun i j h => by rw [pm] at h; exact posL_inj nm lm h
  have iloc : ∀ x y : Loc, p.loc x = p.loc y → x = y := fun x y h => by
    cases x <;> cases y <;> simp only [Ren.loc, Loc.b.injEq, Loc.r.injEq, Loc.m.injEq, reduceCtorEq] at h ⊢
    · exact ib _ _ h
    · exact ir _ _ h
    · exact im _ _ h
  -- the lesser lists' members
  have atb : ∀ i, i < b.length → B[p.b i]? = (b[i]?).map (renCs p) := fun i hi => by
    have := hb i (by omega)
    rw [pb, posL_lt (by omega), this, renB_map, List.getElem?_map]
  have atr : ∀ i, i < r.length → R[p.r i]? = r[i]? := fun i hi => by
    have := hr i (by omega)
    rw [pr, posL_lt (by omega), this]
  have atm : ∀ i, i < m.length → M[p.m i]? = m[i]? := fun i hi => by
    have := hm i (by omega)
    rw [pm, posL_lt (by omega), this]
  have ltb : ∀ i, i < b.length → p.b i < B.length := fun i hi => by
    have h1 := atb i hi
    rw [List.getElem?_eq_getElem hi] at h1
    exact (List.getElem?_eq_some_iff.1 h1).1
  have ltr : ∀ i, i < r.length → p.r i < R.length := fun i hi => by
    have h1 := atr i hi
    rw [List.getElem?_eq_getElem hi] at h1
    exact (List.getElem?_eq_some_iff.1 h1).1
  have ltm : ∀ i, i < m.length → p.m i < M.length := fun i hi => by
    have h1 := atm i hi
    rw [List.getElem?_eq_getElem hi] at h1
    exact (List.getElem?_eq_some_iff.1 h1).1
  have liveU : ∀ x, (hst b r m).live x → (hst B R M).live (p.loc x) := fun x hx => by
    cases x with
    | b i => exact ltb i hx
    | r i =>
      obtain ⟨o, ho, hal⟩ := hx
      exact ⟨o, (atr i (List.getElem?_eq_some_iff.1 ho).1).trans ho, hal⟩
    | m i => exact ltm i hx
  refine ⟨pc.enter, fun g w vs hJ hi hH hN hl hx => ?_⟩
  have emb : Emb p (hst b r m).sh (hst B R M).sh (g.less p) g := by
    refine ⟨fun l hl => ⟨ltb l hl, rfl⟩, fun k hk => ?_, fun l hl => ⟨ltm l hl, rfl⟩⟩
    have hk : k < r.length := by simpa [hst, St.sh] using hk
    refine ⟨by simpa [hst, St.sh] using ltr k hk, ?_, rfl, rfl, rfl⟩
    simp only [hst, St.sh, List.getElem?_map, atr k hk]
  have hlen : (hst b r m).sh.rows.length = r.length := by simp [hst, St.sh]
  have heap0 : Heap (g.less p) (hst b r m) w := by
    refine ⟨fun x hx => hH.lt _ (liveU x hx), fun x hx => hH.new _ (liveU x hx), fun x y hx hy he => iloc _ _ (hH.inj _ _ (liveU x hx) (liveU y hy) he), fun l cs hl => ?_, fun l o ho => ?_, fun l es hl => ?_⟩
    · have hlt := (List.getElem?_eq_some_iff.1 hl).1
      have h1 := atb l hlt
      have hl' : b[l]? = some cs := hl
      rw [hl'] at h1
      obtain ⟨us, ty, h2, h3, h4⟩ := hH.box (p.b l) (renCs p cs) h1
      refine ⟨us, ty, h2, by rw [h3, renCs_map, List.length_map], fun j c v hc hv => ?_⟩
      refine RC.down emb rfl ?_ (h4 j (renC p c) v (by rw [renCs_map, List.getElem?_map, hc]; rfl) hv)
      rw [hlen]
      exact loCs_at (loB_at hloB l cs hl) j c hc
    · have hlt := (List.getElem?_eq_some_iff.1 ho).1
      exact hH.row (p.r l) o ((atr l hlt).trans ho)
    · have hlt := (List.getElem?_eq_some_iff.1 hl).1
      obtain ⟨arr, clock, h1, h2, h3⟩ := hH.map (p.m l) es ((atm l hlt).trans hl)
      refine ⟨arr, clock, h1, h2, fun i x e hx he => ?_⟩
      obtain ⟨q1, q2⟩ := h3 i x e hx he
      exact ⟨RV.down emb rfl (loDV _ _ _ _) (by rw [DV_ren]; exact q1), RV.down emb rfl (loDV _ _ _ _) (by rw [DV_ren]; exact q2)⟩
  have hN0 : ∀ x, (hst b r m).live x → J.N ≤ (g.less p).at_ x := fun x hx => hN _ (liveU x hx)
  refine (pc.calls (g.less p) w vs hJ hi heap0 hN0 (by rw [hl, renVs_map]; simp) (RV.downs emb rfl args vs (by rw [hlen]; exact hloA) hx)).mono ?_
  rintro e w' ⟨v, g1, rv, b', r', m', rfl, p2, p3, p4, p5, p6, p7, p8, p9⟩
  have Lb : b.length ≤ b'.length := p3.lenL
  have Lr : r.length ≤ r'.length := by have := p3.lenR; simpa [hst, St.sh] using this
  have Lm : m.length ≤ m'.length := p3.lenM
  obtain ⟨G, hG⟩ : ∃ G, G = g.back g1 p b'.length r'.length m'.length := ⟨_, rfl⟩
  obtain ⟨B', hB'⟩ : ∃ B', B' = putL B ρb (renB p b') := ⟨_, rfl⟩
  obtain ⟨R', hR'⟩ : ∃ R', R' = putL R ρr r' := ⟨_, rfl⟩
  obtain ⟨M', hM'⟩ : ∃ M', M' = putL M ρm m' := ⟨_, rfl⟩
  have len_renB : (renB p b').length = b'.length := by rw [renB_map]; simp
  have atb' : ∀ i, i < b'.length → B'[p.b i]? = (b'[i]?).map (renCs p) := fun i hi => by
    rw [hB', pb, putL_at ρb B (renB p b') i nb lb (by omega) (by omega), renB_map, List.getElem?_map]
  have atr' : ∀ i, i < r'.length → R'[p.r i]? = r'[i]? := fun i hi => by
    rw [hR', pr, putL_at ρr R r' i nr lr (by omega) hi]
  have atm' : ∀ i, i < m'.length → M'[p.m i]? = m'[i]? := fun i hi => by
    rw [hM', pm, putL_at ρm M m' i nm lm (by omega) hi]
  have elb : ∀ l, (∀ i, i < b'.length → p.b i ≠ l) → B'[l]? = B[l]? := fun l h => by
    rw [hB', putL_else ρb B (renB p b') l (fun i hi => by rw [← pb]; exact h i (by omega)) (by omega)]
  have elr : ∀ l, (∀ i, i < r'.length → p.r i ≠ l) → R'[l]? = R[l]? := fun l h => by
    rw [hR', putL_else ρr R r' l (fun i hi => by rw [← pr]; exact h i (by omega)) (by omega)]
  have elm : ∀ l, (∀ i, i < m'.length → p.m i ≠ l) → M'[l]? = M[l]? := fun l h => by
    rw [hM', putL_else ρm M m' l (fun i hi => by rw [← pm]; exact h i (by omega)) (by omega)]
  have lenB : B.length ≤ B'.length := by rw [hB']; exact putL_length _ _ _
  have lenR : R.length ≤ R'.length := by rw [hR']; exact putL_length _ _ _
  have lenM : M.length ≤ M'.length := by rw [hM']; exact putL_length _ _ _
  -- the greater ghost behind the call
  have Gb : ∀ i, i < b'.length → G.at_ (.b (p.b i)) = g1.at_ (.b i) := fun i hi => by rw [hG]; simp only [Gh.back]; rw [backL_pos ib hi]
  have Gr : ∀ i, i < r'.length → G.at_ (.r (p.r i)) = g1.at_ (.r i) ∧ G.off (p.r i) = g1.off i ∧ G.cap (p.r i) = g1.cap i := fun i hi => by
    rw [hG]; simp only [Gh.back]; rw [backL_pos ir hi]; exact ⟨rfl, rfl, rfl⟩
  have Gm : ∀ i, i < m'.length → G.at_ (.m (p.m i)) = g1.at_ (.m i) := fun i hi => by rw [hG]; simp only [Gh.back]; rw [backL_pos im hi]
  have Gbe : ∀ l, (∀ i, i < b'.length → p.b i ≠ l) → G.at_ (.b l) = g.at_ (.b l) := fun l h => by rw [hG]; simp only [Gh.back]; rw [backL_else h]
  have Gre : ∀ l, (∀ i, i < r'.length → p.r i ≠ l) → G.at_ (.r l) = g.at_ (.r l) ∧ G.off l = g.off l ∧ G.cap l = g.cap l := fun l h => by rw [hG]; simp only [Gh.back]; rw [backL_else h]; exact ⟨rfl, rfl, rfl⟩
  have Gme : ∀ l, (∀ i, i < m'.length → p.m i ≠ l) → G.at_ (.m l) = g.at_ (.m l) := fun l h => by rw [hG]; simp only [Gh.back]; rw [backL_else h]
  have Gim : G.im = g1.im := by rw [hG]; rfl
  -- is a place one of the lesser lists'?
  have casB : ∀ l, (∃ i, i < b'.length ∧ p.b i = l) ∨ (∀ i, i < b'.length → p.b i ≠ l) := fun l => (Classical.em (∃ i, i < b'.length ∧ p.b i = l)).imp id (fun h i hi he => h ⟨i, hi, he⟩)
  have casR : ∀ l, (∃ i, i < r'.length ∧ p.r i = l) ∨ (∀ i, i < r'.length → p.r i ≠ l) := fun l => (Classical.em (∃ i, i < r'.length ∧ p.r i = l)).imp id (fun h i hi he => h ⟨i, hi, he⟩)
  have casM : ∀ l, (∃ i, i < m'.length ∧ p.m i = l) ∨ (∀ i, i < m'.length → p.m i ≠ l) := fun l => (Classical.em (∃ i, i < m'.length ∧ p.m i = l)).imp id (fun h i hi he => h ⟨i, hi, he⟩)
  have newB : ∀ i, b.length ≤ i → B.length ≤ p.b i := fun i hi => by rw [pb, posL_ge (by omega)]; omega
  have newR : ∀ i, r.length ≤ i → R.length ≤ p.r i := fun i hi => by rw [pr, posL_ge (by omega)]; omega
  have newM : ∀ i, m.length ≤ i → M.length ≤ p.m i := fun i hi => by rw [pm, posL_ge (by omega)]; omega
  have liveC : ∀ x, (hst B' R' M').live x → (∃ y, (hst b' r' m').live y ∧ x = p.loc y ∧ G.at_ x = g1.at_ y) ∨ ((hst B R M).live x ∧ (∀ y, (hst b r m).live y → p.loc y ≠ x) ∧ G.at_ x = g.at_ x) := fun x hx => by
    cases x with
    | b l =>
      rcases casB l with ⟨i, hi, rfl⟩ | h
      · exact .inl ⟨.b i, hi, rfl, Gb i hi⟩
      · have hx : l < B'.length := hx
        have h1 := elb l h
        rw [List.getElem?_eq_getElem hx] at h1
        refine .inr ⟨(List.getElem?_eq_some_iff.1 h1.symm).1, fun y hy he => ?_, Gbe l h⟩
        cases y <;> simp only [Ren.loc, Loc.b.injEq, reduceCtorEq] at he
        exact h _ (Nat.lt_of_lt_of_le hy Lb) he
    | r l =>
      obtain ⟨o, ho, hal⟩ := hx
      have ho : R'[l]? = some (some o) := ho
      rcases casR l with ⟨i, hi, rfl⟩ | h
      · exact .inl ⟨.r i, ⟨o, by rw [← ho]; exact (atr' i hi).symm, hal⟩, rfl, (Gr i hi).1⟩
      · refine .inr ⟨⟨o, by rw [← ho]; exact (elr l h).symm, hal⟩, fun y hy he => ?_, (Gre l h).1⟩
        cases y <;> simp only [Ren.loc, Loc.r.injEq, reduceCtorEq] at he
        exact h _ (Nat.lt_of_lt_of_le (live_lt hy) Lr) he
    | m l =>
      rcases casM l with ⟨i, hi, rfl⟩ | h
      · exact .inl ⟨.m i, hi, rfl, Gm i hi⟩
      · have hx : l < M'.length := hx
        have h1 := elm l h
        rw [List.getElem?_eq_getElem hx] at h1
        refine .inr ⟨(List.getElem?_eq_some_iff.1 h1.symm).1, fun y hy he => ?_, Gme l h⟩
        cases y <;> simp only [Ren.loc, Loc.m.injEq, reduceCtorEq] at he
        exact h _ (Nat.lt_of_lt_of_le hy Lm) he
  -- blocks of the caller that are not lent
  have keep : ∀ x, (hst B R M).live x → (∀ y, (hst b r m).live y → p.loc y ≠ x) → w'.heap[g.at_ x]? = w.heap[g.at_ x]? := fun x hx hne =>
    p2.block _ (hH.lt x hx) (fun ⟨y, hy, he⟩ => hne y hy (hH.inj _ _ (liveU y hy) hx he))
  have emb' : Emb p (hst b' r' m').sh (hst B' R' M').sh g1 G := by
    refine ⟨fun l hl => ⟨?_, Gb l hl⟩, fun k hk => ?_, fun l hl => ⟨?_, Gm l hl⟩⟩
    · have h1 := atb' l hl
      rw [List.getElem?_eq_getElem (show l < b'.length from hl)] at h1
      exact (List.getElem?_eq_some_iff.1 h1).1
    · have hk : k < r'.length := by simpa [hst, St.sh] using hk
      have h1 := atr' k hk
      refine ⟨?_, ?_, Gr k hk⟩
      · rw [List.getElem?_eq_getElem hk] at h1
        simpa [hst, St.sh] using (List.getElem?_eq_some_iff.1 h1).1
      · simp only [hst, St.sh, List.getElem?_map, h1]
    · have h1 := atm' l hl
      rw [List.getElem?_eq_getElem (show l < m'.length from hl)] at h1
      exact (List.getElem?_eq_some_iff.1 h1).1
  have ext : Ext g (hst B R M).sh w G (hst B' R' M').sh w' := by
    refine ⟨fun k hk => by rw [Gim]; exact p3.im k hk, p3.same, lenB, lenM, by simpa [hst, St.sh] using lenR, fun l hl => ?_, fun l hl => ?_, fun k al ver sz len hk hh => ?_⟩
    · rcases casB l with ⟨i, hi, rfl⟩ | h
      · rcases Nat.lt_or_ge i b.length with h1 | h1
        · rw [Gb i hi]; exact p3.atB i h1
        · exact absurd (show p.b i < B.length from hl) (by have := newB i h1; omega)
      · exact Gbe l h
    · rcases casM l with ⟨i, hi, rfl⟩ | h
      · rcases Nat.lt_or_ge i m.length with h1 | h1
        · rw [Gm i hi]; exact p3.atM i h1
        · exact absurd (show p.m i < M.length from hl) (by have := newM i h1; omega)
      · exact Gme l h
    · have hk : k < R.length := by simpa [hst, St.sh] using hk
      have hh : (R'[k]?).map (·.map RowO.form) = some (some (al, ver, sz, len)) := by simpa [hst, St.sh] using hh
      rcases casR k with ⟨i, hi, rfl⟩ | h
      · rcases Nat.lt_or_ge i r.length with h1 | h1
        · rw [atr' i hi] at hh
          obtain ⟨al0, ver0, sz0, len0, q1, q2, q3⟩ := p3.rows i al ver sz len (by simpa [hst, St.sh] using h1) (by simpa [hst, St.sh] using hh)
          refine ⟨al0, ver0, sz0, len0, ?_, q2, fun he => ?_⟩
          · have q1 : (r[i]?).map (·.map RowO.form) = some (some (al0, ver0, sz0, len0)) := by simpa [hst, St.sh] using q1
            simp only [hst, St.sh, List.getElem?_map, atr i h1]; exact q1
          · obtain ⟨c1, c2, c3, c4, c5, c6⟩ := q3 he
            obtain ⟨d1, d2, d3⟩ := Gr i hi
            exact ⟨c1, c2, c3, d1.trans c4, d2.trans c5, d3.trans c6⟩
        · exact absurd hk (by have := newR i h1; omega)
      · rw [elr k h] at hh
        obtain ⟨d1, d2, d3⟩ := Gre k h
        exact ⟨al, ver, sz, len, by simpa [hst, St.sh] using hh, Nat.le_refl _, fun _ => ⟨rfl, rfl, Nat.le_refl _, d1, d2, d3⟩⟩
  have notNew : ∀ x, (hst B R M).live x → (∀ y, (hst b r m).live y → p.loc y ≠ x) → ¬ g1.im (g.at_ x) := fun x hx hne h => by
    rcases p5 _ h with h | ⟨y, hy, he⟩ | h
    · exact hH.new x hx h
    · exact hne y hy (hH.inj _ _ (liveU y hy) hx he)
    · exact absurd (hH.lt x hx) (by omega)
  have cross : ∀ x y, (hst B R M).live x → (∀ y, (hst b r m).live y → p.loc y ≠ x) → (hst b' r' m').live y → g.at_ x = g1.at_ y → False := fun x y hx hne hy he => by
    rcases p6 y hy with ⟨z, hz, h⟩ | h
    · exact hne z hz (hH.inj _ _ (liveU z hz) hx (h.trans he.symm))
    · exact absurd (hH.lt x hx) (by omega)
  have heap' : Heap G (hst B' R' M') w' := by
    refine ⟨fun x hx => ?_, fun x hx => ?_, fun x y hx hy he => ?_, fun l cs hl => ?_, fun l o ho => ?_, fun l es hl => ?_⟩
    · rcases liveC x hx with ⟨y, hy, _, h⟩ | ⟨h1, h2, h3⟩
      · rw [h]; exact p7.lt y hy
      · rw [h3]; exact Nat.lt_of_lt_of_le (hH.lt x h1) p2.size
    · rcases liveC x hx with ⟨y, hy, _, h⟩ | ⟨h1, h2, h3⟩
      · rw [h, Gim]; exact p7.new y hy
      · rw [h3, Gim]; exact notNew x h1 h2
    · rcases liveC x hx with ⟨y1, hy1, e1, q1⟩ | ⟨h1, h2, h3⟩ <;> rcases liveC y hy with ⟨y2, hy2, e2, q2⟩ | ⟨h4, h5, h6⟩
      · rw [q1, q2] at he; rw [e1, e2, p7.inj y1 y2 hy1 hy2 he]
      · rw [q1, h6] at he; exact (cross y y1 h4 h5 hy1 he.symm).elim
      · rw [h3, q2] at he; exact (cross x y2 h1 h2 hy2 he).elim
      · rw [h3, h6] at he; exact hH.inj x y h1 h4 he
    · have hl : B'[l]? = some cs := hl
      rcases casB l with ⟨i, hi, rfl⟩ | h
      · rw [atb' i hi, Option.map_eq_some_iff] at hl
        obtain ⟨ds, hds, rfl⟩ := hl
        obtain ⟨us, ty, h1, h2, h3⟩ := p7.box i ds hds
        rw [Gb i hi]
        exact ⟨us, ty, h1, by rw [h2, renCs_map, List.length_map], fun j c v hc hv => RC.ups emb' Gim ds us.toList (fun j c v hc hv => h3 j c v hc (by simpa using hv)) j c v hc (by simpa using hv)⟩
      · rw [elb l h] at hl
        have hlv : (hst B R M).live (.b l) := (List.getElem?_eq_some_iff.1 hl).1
        obtain ⟨us, ty, h1, h2, h3⟩ := hH.box l cs hl
        rw [Gbe l h, keep (.b l) hlv (fun y hy he => by cases y <;> simp only [Ren.loc, Loc.b.injEq, reduceCtorEq] at he; exact h _ (Nat.lt_of_lt_of_le hy Lb) he)]
        exact ⟨us, ty, h1, h2, fun j c v hc hv => (h3 j c v hc hv).mono ext⟩
    · have ho : R'[l]? = some (some o) := ho
      rcases casR l with ⟨i, hi, rfl⟩ | h
      · rw [atr' i hi] at ho
        obtain ⟨d1, d2, d3⟩ := Gr i hi
        have h1 := p7.row i o ho
        rw [d1, d2, d3, Gim]; exact h1
      · rw [elr l h] at ho
        obtain ⟨d1, d2, d3⟩ := Gre l h
        have h1 := hH.row l o ho
        rw [d1, d2, d3, Gim]
        by_cases hal : o.al = true
        · rw [if_pos hal] at h1 ⊢
          obtain ⟨us, ty, q1, q2, q3, q4, q5, q6⟩ := h1
          have hlv : (hst B R M).live (.r l) := ⟨o, ho, hal⟩
          rw [keep (.r l) hlv (fun y hy he => by cases y <;> simp only [Ren.loc, Loc.r.injEq, reduceCtorEq] at he; exact h _ (Nat.lt_of_lt_of_le (live_lt hy) Lr) he)]
          exact ⟨us, ty, q1, q2, q3, q4, q5, fun i j x d v a1 a2 a3 => (q6 i j x d v a1 a2 a3).mono p3.im p3.same⟩
        · rw [if_neg hal] at h1 ⊢; exact h1
    · have hl : M'[l]? = some es := hl
      rcases casM l with ⟨i, hi, rfl⟩ | h
      · rw [atm' i hi] at hl
        obtain ⟨arr, clock, h1, h2, h3⟩ := p7.map i es hl
        rw [Gm i hi]
        refine ⟨arr, clock, h1, h2, fun j x e hx he => ?_⟩
        obtain ⟨q1, q2⟩ := h3 j x e hx he
        have q1 := RV.up emb' Gim q1
        have q2 := RV.up emb' Gim q2
        rw [DV_ren] at q1 q2
        exact ⟨q1, q2⟩
      · rw [elm l h] at hl
        have hlv : (hst B R M).live (.m l) := (List.getElem?_eq_some_iff.1 hl).1
        obtain ⟨arr, clock, h1, h2, h3⟩ := hH.map l es hl
        rw [Gme l h, keep (.m l) hlv (fun y hy he => by cases y <;> simp only [Ren.loc, Loc.m.injEq, reduceCtorEq] at he; exact h _ (Nat.lt_of_lt_of_le hy Lm) he)]
        exact ⟨arr, clock, h1, h2, fun j x e hx he => ⟨(h3 j x e hx he).1.mono ext, (h3 j x e hx he).2.mono ext⟩⟩
  refine ⟨v, G, renV p rv, B', R', M', rfl, ?_, ext, fun k hk => p4 k (by rw [← Gim]; exact hk), fun k hk => ?_, fun x hx => ?_, heap', RV.up emb' Gim p8, rv, b', r', m', p9, rfl, hB', hR', hM'⟩
  · exact ⟨p2.os, p2.tape, p2.output, p2.size, fun k hk hn => p2.block k hk (fun ⟨y, hy, he⟩ => hn ⟨p.loc y, liveU y hy, he⟩)⟩
  · rw [Gim] at hk
    rcases p5 k hk with h | ⟨y, hy, he⟩ | h
    · exact .inl h
    · exact .inr (.inl ⟨p.loc y, liveU y hy, he⟩)
    · exact .inr (.inr h)
  · rcases liveC x hx with ⟨y, hy, _, h⟩ | ⟨h1, h2, h3⟩
    · rw [h]
      rcases p6 y hy with ⟨z, hz, h⟩ | h
      · exact .inl ⟨p.loc z, liveU z hz, h⟩
      · exact .inr h
    · exact .inl ⟨x, h1, h3.symm⟩
theorem HCall.frameD {rv Rv : V} {b' B' : List (List C)} {r' R' : List (Option RowO)} {m' M' : List (List (DV × DV))} (pc : HCall P J f args b r m (isH rv b' r' m')) (ρb ρr ρm : List Nat) {Args : List V}
  (hA : renVs (renOf ρb ρr ρm B.length R.length M.length) args = Args)
  (hb : pickL B ρb = some (renB (renOf ρb ρr ρm B.length R.length M.length) b)) (hr : pickL R ρr = some r) (hm : pickL M ρm = some m)
  (hok : ((nodupB ρb && (nodupB ρr && nodupB ρm)) && ((allLt ρb B.length && (allLt ρr R.length && allLt ρm M.length)) && (loVs b.length r.length m.length args && loB b.length r.length m.length b))) = true)
  (h1 : renV (renOf ρb ρr ρm B.length R.length M.length) rv = Rv) (h2 : putL B ρb (renB (renOf ρb ρr ρm B.length R.length M.length) b') = B') (h3 : putL R ρr r' = R') (h4 : putL M ρm m' = M') :
  HCall P J f Args B R M (isH Rv B' R' M') :=
 (pc.frame ρb ρr ρm hA hb hr hm hok).mono fun rv B' R' M' ⟨rv0, b0, r0, m0, ⟨e1, e2, e3, e4⟩, e5, e6, e7, e8⟩ => by
  subst e1; subst e2; subst e3; subst e4
  exact ⟨e5.trans h1, e6.trans h2, e7.trans h3, e8.trans h4⟩
end
end
section
open Go Go.RowKit
def onesV : List V → Option (List C)
 | [] => some []
 | .one c :: l => match onesV l with | some r => some (c :: r) | none => none
 | _ :: _ => none
theorem onesV_eq : ∀ {us : List V} {cs : List C}, onesV us = some cs → us = cs.map .one
  | [], cs, h => by obtain rfl : [] = cs := by simpa [onesV] using h
                    rfl
  | .one c :: l, cs, h => by
    unfold onesV at h
    split at h
    · rename_i r hr
      obtain rfl : c :: r = cs := by simpa using h
      rw [onesV_eq hr]; rfl
    · cases h
  | .agg _ :: l, cs, h => by simp [onesV] at h
  | .tup _ :: l, cs, h => by simp [onesV] at h
  | .when _ _ :: l, cs, h => by simp [onesV] at h
  | .junk :: l, cs, h => by simp [onesV] at h
section
variable {J : Inv} {k0 : Lens} {E : Env J k0} {P : Program} {T : TypeId → Option TI} {n : Nat} {t : Nat → V} {b : List (List C)} {r : List (Option RowO)} {m : List (List (DV × DV))} {ops : Array Oper} {l : List Oper}
  {K : St → Prop} {i : Nat} {ty : TypeId} {pos : String} {after : Array Edge}
theorem S.makeFunc {f : FuncId} {caps : Array Operand} {us : List V} {cs cs' : List C} (ha : allOpdL n ⟨t, b, r, m⟩ caps.toList = (true, us)) (hc : onesV us = some cs) (hf : forceL cs = some cs')
  (k : WL E P n ops l K ⟨upd t i (.one (.clo f cs')), b, r, m⟩) : WL E P n ops (⟨some i, .makeFunc (.func f) #[] caps, ty, pos, after, none⟩ :: l) K ⟨t, b, r, m⟩ := by
 obtain rfl := forceL_eq hf
 intro g a w rel next Q hn
 have hw : Region.wanted (⟨some i, .makeFunc (.func f) #[] caps, ty, pos, after, none⟩ : Oper) (yielded ops a.tmps) = true := by simp [Region.wanted]
 rw [if_pos hw]
 obtain ⟨hal, hav⟩ := allOpdL_ok rel _ _ _ ha rfl
 have hus := onesV_eq hc
 have hrun : (execOp a.eval (⟨some i, .makeFunc (.func f) #[] caps, ty, pos, after, none⟩ : Oper)).run P w = .ok (.value (.func (.func f) #[] (caps.toList.map a.eval).toArray)) w := by
  have e : (caps.map a.eval) = (caps.toList.map a.eval).toArray := Array.toList_inj.1 (by simp)
  simp only [execOp, Instr.makeFunc, Sem.run_bind, Sem.run_pure, Result.andThen_ok, e]
  simp
 unfold Oper.wp
 rw [hrun]
 refine hn _ g _ _ k (rel.put_same (some i) (.one _ _ (.clo f cs _ (by rw [hus] at hal; simpa using hal.symm) (fun j c v hc hv => ?_))))
 have := hav j (.one c) v (by rw [hus]; simp [hc]) hv
 cases this with | one _ _ h => exact h
def putD (x : List D) (fo : Nat) (ds : List D) : List D := x.take fo ++ ds ++ x.drop (fo + ds.length)
theorem Rel.rstore {g : Gh} {a : Act} {w : World} (rel : Rel E n g ⟨t, b, r, m⟩ a w) {ri k fo : Nat} {o : RowO} {ds : List D} {us : List Value} {x0 : List D} (ho : r[ri]? = some (some o)) (hal : o.al = true) (hx0 : o.xs[k]? = some x0)
    (hlen : us.length = ds.length) (hfo : fo + ds.length ≤ o.sz) (hx : ∀ (j : Nat) (d : D) (v : Value), ds[j]? = some d → us[j]? = some v → RD g.im w d v) {vs : List Value} {tt : TypeId}
    (hb : w.heap[g.at_ (.r ri)]? = some (.cells vs.toArray tt (0, 0))) :
    Rel E n g ⟨t, b, r.set ri (some ⟨o.al, o.ver, o.sz, o.ty, o.xs.set k (putD x0 fo ds)⟩), m⟩ a
      { w with heap := w.heap.setIfInBounds (g.at_ (.r ri)) (.cells (vs.take (g.off ri + (k * o.sz + fo)) ++ us ++ vs.drop (g.off ri + (k * o.sz + fo) + us.length)).toArray tt (0, 0)) } := by
  obtain ⟨off, hoff⟩ : ∃ off, off = g.off ri + (k * o.sz + fo) := ⟨_, rfl⟩
  obtain ⟨o1, ho1⟩ : ∃ o1 : RowO, o1 = ⟨o.al, o.ver, o.sz, o.ty, o.xs.set k (putD x0 fo ds)⟩ := ⟨_, rfl⟩
  obtain ⟨s1, hs1⟩ : ∃ s1 : St, s1 = ⟨t, b, r.set ri (some o1), m⟩ := ⟨_, rfl⟩
  obtain ⟨w1, hw1⟩ : ∃ w1 : World, w1 = { w with heap := w.heap.setIfInBounds (g.at_ (.r ri)) (.cells (vs.take off ++ us ++ vs.drop (off + us.length)).toArray tt (0, 0)) } := ⟨_, rfl⟩
  rw [← hoff, ← ho1, ← hs1, ← hw1]
  have hk : k < o.xs.length := (List.getElem?_eq_some_iff.1 hx0).1
  have hr : ri < r.length := (List.getElem?_eq_some_iff.1 ho).1
  have hlive : (⟨t, b, r, m⟩ : St).live (.r ri) := ⟨o, ho, hal⟩
  have hlt := rel.heap.lt _ hlive
  have hold : ∀ q, q ≠ g.at_ (.r ri) → w1.heap[q]? = w.heap[q]? := fun q hq => by rw [hw1]; simp only; rw [Array.getElem?_setIfInBounds, if_neg (Ne.symm hq)]
  have hnew : w1.heap[g.at_ (.r ri)]? = some (.cells (vs.take off ++ us ++ vs.drop (off + us.length)).toArray tt (0, 0)) := by rw [hw1]; simp [Array.getElem?_setIfInBounds, hlt]
  have hsz : w1.heap.size = w.heap.size := by rw [hw1]; simp
  have hform : o1.form = o.form := by rw [ho1]; simp [RowO.form]
  have hsh : s1.sh = (⟨t, b, r, m⟩ : St).sh := by
    rw [hs1]
    simp only [St.sh, Sh.mk.injEq, true_and, and_true]
    apply List.ext_getElem? 
    intro q
    simp only [List.getElem?_map, List.getElem?_set]
    by_cases hq : ri = q
    · subst hq; rw [if_pos rfl, if_pos hr, ho]; simp [hform]
    · rw [if_neg hq]
  have hlv : s1.live = (⟨t, b, r, m⟩ : St).live := by
    rw [hs1]
    funext x
    cases x with
    | b l => rfl
    | m l => rfl
    | r l =>
      simp only [St.live, List.getElem?_set]
      by_cases hq : ri = l
      · subst hq
        simp only [if_true, hr]
        apply propext
        constructor
        · rintro ⟨o', h1, h2⟩; exact ⟨o, ho, hal⟩
        · rintro ⟨o', h1, h2⟩; exact ⟨o1, rfl, by rw [ho1]; exact hal⟩
      · simp [hq]
  have e : Ext g (⟨t, b, r, m⟩ : St).sh w g (⟨t, b, r, m⟩ : St).sh w1 := .of (fun _ h => h) (fun q hq => hold q (fun he => rel.heap.new _ hlive (he ▸ hq))) rfl rfl rfl
  have hother : ∀ x, (⟨t, b, r, m⟩ : St).live x → x ≠ .r ri → w1.heap[g.at_ x]? = w.heap[g.at_ x]? := fun x hx' hne => hold _ (fun he => hne (rel.heap.inj _ _ hx' hlive he))
  have hrow := rel.heap.row ri o ho
  rw [if_pos hal] at hrow
  obtain ⟨vs0, t0, q1, ⟨q2, q3, q4, q5⟩, q6, q7, q8, q9⟩ := hrow
  have hvs : vs0 = vs.toArray ∧ t0 = tt := by rw [hb] at q1; injection q1 with q1; injection q1 with q1 q1'; exact ⟨q1.symm, q1'.symm⟩
  obtain ⟨rfl, rfl⟩ := hvs
  have hvl : vs.length = g.off ri + g.cap ri * o.sz := by simpa using q2
  have hgk : x0 ∈ o.xs := List.mem_of_getElem? hx0
  have hkl : x0.length = o.sz := q7 _ hgk
  have hbound : off + us.length ≤ vs.length := by
    have h3 := Nat.mul_le_mul_right o.sz (show k + 1 ≤ g.cap ri by omega)
    rw [Nat.add_mul, Nat.one_mul] at h3
    omega
  have hheap : Heap g s1 w1 := by
    refine ⟨fun x hx' => by rw [hsz]; exact rel.heap.lt x (hlv ▸ hx'), fun x hx' => rel.heap.new x (hlv ▸ hx'), fun x y hx' hy => rel.heap.inj x y (hlv ▸ hx') (hlv ▸ hy), fun l' cs' hl' => ?_, fun l' o' ho' => ?_, fun l' es hes => ?_⟩
    · have hl2 : b[l']? = some cs' := by rw [hs1] at hl'; exact hl'
      obtain ⟨vs', t', h1, h2, h3⟩ := rel.heap.box l' cs' hl2
      have hlv' : (⟨t, b, r, m⟩ : St).live (.b l') := (List.getElem?_eq_some_iff.1 hl2).1
      rw [hsh]
      exact ⟨vs', t', by rw [hother _ hlv' (by simp)]; exact h1, h2, fun j c v hc hv => (h3 j c v hc hv).mono e⟩
    · by_cases hq : ri = l'
      · subst hq
        have : o' = o1 := by rw [hs1] at ho'; simpa [List.getElem?_set, hr] using ho'.symm
        subst this
        have hal1 : o'.al = true := by rw [ho1]; exact hal
        rw [if_pos hal1]
        refine ⟨_, t0, hnew, ⟨?_, by rw [ho1]; exact q3, q4, q5⟩, by rw [ho1]; simpa using q6, fun x hx' => ?_, fun _ _ => trivial, fun i j x d v p1 p2 p3 => ?_⟩
        · simp only [List.size_toArray, List.length_append, List.length_take, List.length_drop]
          rw [show o'.sz = o.sz by rw [ho1]]
          omega
        · rw [ho1] at hx'
          rw [show o'.sz = o.sz by rw [ho1]]
          rcases List.mem_or_eq_of_mem_set hx' with h | h
          · exact q7 x h
          · rw [h]; unfold putD; simp only [List.length_append, List.length_take, List.length_drop]; omega
        · rw [show o'.sz = o.sz by rw [ho1]] at p3
          have hxs : o'.xs = o.xs.set k (putD x0 fo ds) := by rw [ho1]
          rw [hxs, List.getElem?_set] at p1
          simp only [List.getElem?_toArray, List.append_assoc] at p3
          split at p1
          · rename_i hki
            subst hki
            simp only [hk, if_true, Option.some.injEq] at p1
            subst p1
            unfold putD at p2
            simp only [List.append_assoc] at p2
            have hjl : j < o.sz := by
              have := (List.getElem?_eq_some_iff.1 p2).1
              simp only [List.length_append, List.length_take, List.length_drop] at this; omega
            by_cases k1 : j < fo
            · rw [List.getElem?_append_left (by simp; omega), List.getElem?_take, if_pos k1] at p2
              rw [List.getElem?_append_left (by simp; omega), List.getElem?_take, if_pos (by omega)] at p3
              exact (q9 k j _ d v hx0 p2 (by simpa using p3)).mono e.im e.same
            · rw [List.getElem?_append_right (by simp; omega)] at p2 p3
              simp only [List.length_take] at p2 p3
              rw [show min fo x0.length = fo by omega] at p2
              rw [show min off vs.length = off by omega] at p3
              by_cases k2 : j - fo < ds.length
              · rw [List.getElem?_append_left k2] at p2
                rw [List.getElem?_append_left (by omega)] at p3
                exact (hx _ d v p2 (by rw [← p3]; congr 1; omega)).mono e.im e.same
              · rw [List.getElem?_append_right (by omega), List.getElem?_drop] at p2
                rw [List.getElem?_append_right (by omega), List.getElem?_drop] at p3
                exact (q9 k j _ d v hx0 (by rw [← p2]; congr 1; omega) (by rw [List.getElem?_toArray, ← p3]; congr 1; omega)).mono e.im e.same
          · rename_i hki
            have hil : i < o.xs.length := (List.getElem?_eq_some_iff.1 p1).1
            have hjl : j < o.sz := by
              have := (List.getElem?_eq_some_iff.1 p2).1
              rw [q7 x (List.mem_of_getElem? p1)] at this; exact this
            refine (q9 i j x d v p1 p2 ?_).mono e.im e.same
            rw [List.getElem?_toArray, ← p3]
            rcases Nat.lt_or_gt_of_ne hki with hlt' | hgt
            · have h3 := Nat.mul_le_mul_right o.sz (show k + 1 ≤ i from hlt')
              rw [Nat.add_mul, Nat.one_mul] at h3
              rw [List.getElem?_append_right (by simp; omega), List.getElem?_append_right (by simp; omega), List.getElem?_drop]
              congr 1
              simp only [List.length_take]
              omega
            · have h3 := Nat.mul_le_mul_right o.sz (show i + 1 ≤ k from hgt)
              rw [Nat.add_mul, Nat.one_mul] at h3
              rw [List.getElem?_append_left (by simp; omega), List.getElem?_take, if_pos (by omega)]
      · have ho2 : r[l']? = some (some o') := by rw [hs1] at ho'; simpa [List.getElem?_set, hq] using ho'
        have := rel.heap.row l' o' ho2
        by_cases hal' : o'.al = true
        · rw [if_pos hal'] at this ⊢
          obtain ⟨vs', t', h1, h2, h3, h4, h5, h6⟩ := this
          have hne : Loc.r l' ≠ .r ri := fun he => hq (by injection he with he; exact he.symm)
          exact ⟨vs', t', by rw [hother _ (show (⟨t, b, r, m⟩ : St).live (.r l') from ⟨o', ho2, hal'⟩) hne]; exact h1, h2, h3, h4, h5, fun i j x d v p q u => (h6 i j x d v p q u).mono e.im e.same⟩
        · rw [if_neg hal'] at this ⊢; exact this
    · have hes' : m[l']? = some es := by rw [hs1] at hes; exact hes
      obtain ⟨arr, clock, h1, h2, h3⟩ := rel.heap.map l' es hes'
      have hlv' : (⟨t, b, r, m⟩ : St).live (.m l') := (List.getElem?_eq_some_iff.1 hes').1
      rw [hsh]
      exact ⟨arr, clock, by rw [hother _ hlv' (by simp)]; exact h1, h2, fun i x y hx hy => ⟨(h3 i x y hx hy).1.mono e, (h3 i x y hx hy).2.mono e⟩⟩
  have hbelow : BelowX E.lent E.w0 w1 := by
    refine rel.below.trans (l2 := fun q => q = g.at_ (.r ri)) ⟨by rw [hw1], by rw [hw1], by rw [hw1], by rw [hsz]; exact Nat.le_refl _, fun q hq hn => hold q hn⟩ (fun q hq hlt' => ?_)
    rcases rel.own _ hlive with h | h
    · rw [hq]; exact h
    · omega
  refine ⟨hbelow, by rw [hsh]; exact rel.ext.trans e, fun q hq => by rw [hsz]; exact rel.imlt q hq, rel.imold, fun x hx' => rel.own x (hlv ▸ hx'), hheap, rel.size, rel.defers, fun q hq => ?_⟩
  have := (rel.tmps q hq).mono e
  rw [hsh]
  rw [hs1]; exact this
theorem S.rstore (hT : TabOk P T) {te : TypeId} {ti : TI} {x y : Operand} {ri ver kk fo : Nat} {v : V} {ds : List C} {dd : List D} {o : RowO} {xs' : List (List D)} {r' : List (Option RowO)} (hi : T te = some ti)
    (hx : opd n ⟨t, b, r, m⟩ x = (true, .one (.rptr ri ver kk fo))) (hy : opd n ⟨t, b, r, m⟩ y = (true, v)) (hv : cellsOfV v = some ds) (hd : allDs ds = some dd) (ho : rowAt ⟨t, b, r, m⟩ ri ver = some o)
    (hs : (Nat.beq ds.length ti.size && Nat.ble (fo + dd.length) o.sz) = true) (hxs : o.xs.set kk (putD (o.xs.getD kk []) fo dd) = xs') (hr : forceL (r.set ri (some ⟨o.al, o.ver, o.sz, o.ty, xs'⟩)) = some r')
    (k : WL E P n ops l K ⟨t, b, r', m⟩) : WL E P n ops (⟨none, .store te x y, ty, pos, after, none⟩ :: l) K ⟨t, b, r, m⟩ := by
  obtain rfl := forceL_eq hr
  subst hxs
  simp only [Bool.and_eq_true] at hs
  have hs1 := Nat.eq_of_beq_eq_true hs.1
  have hs2 := Nat.le_of_ble_eq_true hs.2
  intro g a w rel next Q hn
  have hw : Region.wanted (⟨none, .store te x y, ty, pos, after, none⟩ : Oper) (yielded ops a.tmps) = true := by simp [Region.wanted]
  rw [if_pos hw]
  obtain ⟨us, h1, h2, h3, h4⟩ := cellsOf_ok hv (opd_ok rel hy rfl)
  have hp := opd_ok rel hx rfl
  have hds := allDs_eq hd
  have hdl : dd.length = ds.length := by rw [hds]; simp
  generalize hz : a.eval x = z at hp
  cases hp with | one _ _ hp =>
  obtain ⟨hal, hk, rfl⟩ := rptr_val ho hp
  obtain ⟨ho1, ho2⟩ := rowAt_some ho
  have hrow := rel.heap.row ri o ho1
  rw [if_pos hal] at hrow
  obtain ⟨vs, tt, q1, ⟨q2, q3, q4, q5⟩, q6, q7, q8, q9⟩ := hrow
  obtain ⟨vs, rfl⟩ : ∃ l : List Value, vs = l.toArray := ⟨vs.toList, by simp⟩
  have hbound : g.off ri + (kk * o.sz + fo) + us.length ≤ vs.length := by
    have h5 := Nat.mul_le_mul_right o.sz (show kk + 1 ≤ g.cap ri by omega)
    rw [Nat.add_mul, Nat.one_mul] at h5
    have : vs.length = g.off ri + g.cap ri * o.sz := by simpa using q2
    omega
  have hrun : (execOp a.eval (⟨none, .store te x y, ty, pos, after, none⟩ : Oper)).run P w = .ok .skip { w with heap := w.heap.setIfInBounds (g.at_ (.r ri)) (.cells (vs.take (g.off ri + (kk * o.sz + fo)) ++ us ++ vs.drop (g.off ri + (kk * o.sz + fo) + us.length)).toArray tt (0, 0)) } := by
    have hst := storeCells_run (P := P) us (g.off ri + (kk * o.sz + fo)) w vs.toArray q1 (by simp; omega) h4 _ (Nat.le_refl _)
    simp only [Nat.sub_self] at hst
    have hsz : us.toArray.size = ti.size := by simp [h2, hs1]
    simp only [execOp, Instr.storeAt, hz, Instr.sureAddr, storeVar, Sem.run_bind, Sem.run_pure, Result.andThen_ok, run_sizeOf' hT hi, h1, hsz, ne_eq, not_true_eq_false, if_false, hst]
  unfold Oper.wp
  rw [hrun]
  refine hn _ g _ _ k ?_
  show Rel E n g _ (a.put none undef) _
  exact rel.rstore ho1 hal (show o.xs[kk]? = some (o.xs.getD kk []) by rw [List.getD_eq_getElem?_getD, List.getElem?_eq_getElem hk]; rfl) (by omega) hs2 (fun j d v hd' hv' => by
    have := h3 j (.d d) v (by rw [hds]; simp [hd']) hv'
    cases this with | d _ _ h => exact h) q1
def viewV (s : St) : V → V
  | .one (.row ri ver off k) => match rowAt s ri ver with
    | some o => .one (.d (.vec o.sz ((o.xs.drop off).take k)))
    | none => .junk
  | v => v
def viewVs (s : St) : List V → List V
 | [] => []
 | v :: l => viewV s v :: viewVs s l
def flatD : D → Bool
 | .vec _ _ => false
 | _ => true
def flatCs : List C → Bool
 | [] => true
 | .d d :: l => flatD d && flatCs l
 | _ :: _ => false
mutual
def flatV : V → Bool
  | .one (.d d) => flatD d
  | .agg cs => flatCs cs
  | .tup vs => flatVs vs
  | _ => false
def flatVs : List V → Bool
  | [] => true
  | v :: l => flatV v && flatVs l
end
theorem RD.flat {im im' : Nat → Prop} {w w' : World} {d : D} {v : Value} (hf : flatD d = true) (h : RD im w d v) : RD im' w' d v := by
 cases h with
 | int => exact .int _ _
 | bool => exact .bool _
 | str => exact .str _
 | nilsl => exact .nilsl
 | nilmap => exact .nilmap
 | nilptr => exact .nilptr
 | empty => simp [flatD] at hf
 | vec => simp [flatD] at hf
 | fn => exact .fn _
 | errNil => exact .errNil
 | errSome => exact .errSome _ _
 | raw v h => exact .raw _ h
theorem flatCs_at : ∀ {l : List C}, flatCs l = true → ∀ (i : Nat) (c : C), l[i]? = some c → ∃ d, c = .d d ∧ flatD d = true
 | [], _, i, c, h => by simp at h
 | .d d :: l, h, 0, c, hc => by simp at hc; subst hc; exact ⟨d, rfl, (Bool.and_eq_true_iff.1 (by simpa [flatCs] using h)).1⟩
 | .d d :: l, h, i + 1, c, hc => by simp at hc; exact flatCs_at (Bool.and_eq_true_iff.1 (by simpa [flatCs] using h)).2 i c hc
 | .ptr _ _ :: l, h, _, _, _ => by simp [flatCs] at h
 | .eptr _ :: l, h, _, _, _ => by simp [flatCs] at h
 | .row _ _ _ _ :: l, h, _, _, _ => by simp [flatCs] at h
 | .rptr _ _ _ _ :: l, h, _, _, _ => by simp [flatCs] at h
 | .map _ :: l, h, _, _, _ => by simp [flatCs] at h
 | .clo _ _ :: l, h, _, _, _ => by simp [flatCs] at h
 | .wr _ _ _ :: l, h, _, _, _ => by simp [flatCs] at h
 | .junk :: l, h, _, _, _ => by simp [flatCs] at h
theorem RV.flat {g g' : Gh} {h h' : Sh} {w w' : World} {u : V} {v : Value} (hx : RV g h w u v) : flatV u = true → RV g' h' w' u v := by
 induction hx with
 | one c v hx =>
  intro hf
  cases c <;> simp [flatV] at hf
  cases hx with | d _ _ hx => exact .one _ _ (.d _ _ (hx.flat hf))
 | agg cs vs hl hx =>
  intro hf
  refine .agg cs vs hl (fun i c v h1 h2 => ?_)
  obtain ⟨d, rfl, hd⟩ := flatCs_at (by simpa [flatV] using hf) i c h1
  have := hx i _ v h1 h2
  cases this with | d _ _ h => exact .d _ _ (h.flat hd)
 | tup us vs hl hx ih =>
  intro hf
  refine .tup us vs hl (fun i u v h1 h2 => ih i u v h1 h2 ?_)
  have key : ∀ (l : List V) (i : Nat) (u : V), flatVs l = true → l[i]? = some u → flatV u = true := fun l => by
   induction l with
   | nil => intro i u _ h; simp at h
   | cons a l ih2 =>
    intro i u hf h
    simp only [flatVs, Bool.and_eq_true] at hf
    cases i with
    | zero => simp at h; subst h; exact hf.1
    | succ i => exact ih2 i u hf.2 (by simpa using h)
  exact key us i u (by simpa [flatV] using hf) h1
 | whenT => intro hf; simp [flatV] at hf
 | whenF => intro hf; simp [flatV] at hf
 | junk => intro hf; simp [flatV] at hf
def imRows (g : Gh) (s : St) : Nat → Prop := fun x => g.im x ∨ ∃ ri, s.live (.r ri) ∧ x = g.at_ (.r ri)
theorem view_ok {s : St} {g : Gh} {w : World} (hh : Heap g s w) {u : V} {v : Value} (hu : RV g s.sh w u v) (hp : pureV (viewV s u) = true) : RV (noGh (imRows g s)) noSh w (viewV s u) v := by
 have gen : pureV u = true → RV (noGh (imRows g s)) noSh w u v := fun hp => by
  have h1 := hu.pure (noGh g.im) noSh (show (noGh g.im).im = g.im from rfl) hp
  exact h1.mono (Ext.of (g := noGh g.im) (g' := noGh (imRows g s)) (h := noSh) (fun x hx => (Or.inl hx : imRows g s x)) (fun _ _ => rfl) rfl rfl rfl)
 cases u with
 | one c =>
  cases c with
  | row ri ver off k =>
   simp only [viewV] at hp ⊢
   cases ho : rowAt s ri ver with
   | none => rw [ho] at hp; simp [pureV] at hp
   | some o =>
    simp only [ho] at hp ⊢
    cases hu with | one _ _ hu =>
    obtain ⟨q1, q2, q3⟩ := row_val hh ho hu
    refine .one _ _ (.d _ _ ?_)
    rcases q3 with ⟨hal, rfl⟩ | ⟨hal, hn, rfl⟩
    ·skip
     by_cases hk0 : k = 0
     ·skip
      subst hk0; simp only [List.take_zero]; exact .empty _ _ _
     ·skip
      obtain ⟨ho1, ho2⟩ := rowAt_some ho
      have hrow := hh.row ri o ho1
      rw [if_pos hal] at hrow
      obtain ⟨vs, tt, p1, ⟨p2, p3, p4, p5⟩, p6, p7, p8, p9⟩ := hrow
      have hl : ((o.xs.drop off).take k).length = k := by simp; omega
      have hat : ∀ (i j : Nat) (x : List D) (d : D), ((o.xs.drop off).take k)[i]? = some x → x[j]? = some d → ∃ v, w.cell? ⟨g.at_ (.r ri), g.off ri + off * o.sz + i * o.sz + j, none⟩ = some v ∧ RD g.im w d v := fun i j x d h1 h2 => by
       have hi : i < k := by have := (List.getElem?_eq_some_iff.1 h1).1; omega
       rw [List.getElem?_take, if_pos hi, List.getElem?_drop] at h1
       have hk' : off + i < o.xs.length := (List.getElem?_eq_some_iff.1 h1).1
       have hgd : o.xs.getD (off + i) [] = x := by rw [List.getD_eq_getElem?_getD, h1]; rfl
       obtain ⟨v, h3, h4⟩ := row_cell hh ho hal hk' j d (by rw [hgd]; exact h2)
       refine ⟨v, ?_, h4⟩
       rw [Nat.add_mul, ← Nat.add_assoc] at h3
       exact h3
      have := RD.vec (im := imRows g s) (w := w) o.sz ((o.xs.drop off).take k) (g.at_ (.r ri)) (g.off ri + off * o.sz) (g.cap ri - off) (fun i j => (w.cell? ⟨g.at_ (.r ri), g.off ri + off * o.sz + i * o.sz + j, none⟩).getD undef)
       (fun h => by rw [h] at hl; simp at hl; omega) (by omega) (.inr ⟨ri, ⟨o, ho1, hal⟩, rfl⟩) (fun x hx => p7 x (List.mem_of_mem_drop (List.mem_of_mem_take hx)))
       (fun i j x d h1 h2 => by obtain ⟨v, h3, _⟩ := hat i j x d h1 h2; rw [h3]; rfl)
       (fun i j x d h1 h2 => by obtain ⟨v, h3, h4⟩ := hat i j x d h1 h2; simp only [h3, Option.getD_some]; exact h4.mono (fun x hx => .inl hx) (fun _ _ => rfl))
      rw [hl] at this; exact this
    ·skip
     subst hn; simp only [List.take_zero]; exact .empty _ _ _
  | d x => exact gen hp
  | clo f cs => exact gen hp
  | ptr l o => simp [viewV, pureV, pureC] at hp
  | eptr cs => simp [viewV, pureV, pureC] at hp
  | rptr a b c d => simp [viewV, pureV, pureC] at hp
  | map k => simp [viewV, pureV, pureC] at hp
  | wr a b c => simp [viewV, pureV, pureC] at hp
  | junk => simp [viewV, pureV, pureC] at hp
 | agg cs => exact gen hp
 | tup vs => simp [viewV, pureV] at hp
 | when c v => simp [viewV, pureV] at hp
 | junk => simp [viewV, pureV] at hp
theorem viewVs_at {s : St} : ∀ {us : List V} {i : Nat} {u : V}, us[i]? = some u → (viewVs s us)[i]? = some (viewV s u)
 | [], i, u, h => by simp at h
 | a :: l, 0, u, h => by simp at h; subst h; rfl
 | a :: l, i + 1, u, h => by simp only [viewVs, List.getElem?_cons_succ]; exact viewVs_at (by simpa using h)
theorem viewVs_length {s : St} : ∀ (us : List V), (viewVs s us).length = us.length
 | [] => rfl
 | a :: l => by simp [viewVs, viewVs_length l]
theorem S.callV {fo : Operand} {args : Array Operand} {ats : Array TypeId} {u : V} {f : FuncId} {caps : List C} {us ws : List V} {rv : V} (hu : opd n ⟨t, b, r, m⟩ fo = (true, u)) (hc : calleeV u = some (f, caps))
    (ha : allOpdL n ⟨t, b, r, m⟩ args.toList = (true, us)) (hw : forceVs (viewVs ⟨t, b, r, m⟩ (appL us (caps.map V.one))) = some ws) (hp : pureVs ws = true) (hfl : flatV rv = true) (pc : PureCall P J f ws rv)
    (k : WL E P n ops l K ⟨upd t i rv, b, r, m⟩) : WL E P n ops (⟨some i, .call ⟨.value fo, args, ats⟩, ty, pos, after, none⟩ :: l) K ⟨t, b, r, m⟩ := by
  obtain rfl := forceVs_eq hw
  rw [appL_eq] at pc hp
  intro g a w rel next Q hn
  have hwd : Region.wanted (⟨some i, .call ⟨.value fo, args, ats⟩, ty, pos, after, none⟩ : Oper) (yielded ops a.tmps) = true := by simp [Region.wanted]
  rw [if_pos hwd]
  obtain ⟨fn, hf, h1, h2⟩ := pc.enter
  obtain ⟨vs, hl, hx, hrun⟩ := call_run rel (o := ⟨some i, .call ⟨.value fo, args, ats⟩, ty, pos, after, none⟩) rfl hu hc hf h1 h2
  obtain ⟨hal, hav⟩ := allOpdL_ok rel _ _ _ ha rfl
  have hall := capsV_ok (s := ⟨t, b, r, m⟩) (g := g) (w := w) (us := us) (caps := caps) (ws := args.toList.map a.eval) (vs := vs) (by simp [hal]) hav hl hx
  have himlt : ∀ x, imRows g ⟨t, b, r, m⟩ x → x < w.heap.size := fun x hx => by
    rcases hx with h | ⟨ri, h, rfl⟩
    · exact rel.imlt x h
    · exact rel.heap.lt _ h
  have hcall := pc.calls (imRows g ⟨t, b, r, m⟩) w (args.toList.map a.eval ++ vs) rel.inv himlt (by simp [viewVs_length, hal, hl]) (fun j q v h3 h4 => by
    have hjl : j < (us ++ caps.map V.one).length := by have := (List.getElem?_eq_some_iff.1 h3).1; rwa [viewVs_length] at this
    have hj : (us ++ caps.map V.one)[j]? = some (us ++ caps.map V.one)[j] := List.getElem?_eq_getElem hjl
    have h5 := viewVs_at (s := ⟨t, b, r, m⟩) hj
    rw [h5] at h3
    obtain rfl := Option.some.inj h3
    exact view_ok rel.heap (hall j _ v hj h4) (pureVs_get hp j _ h5))
  unfold Oper.wp
  rw [hrun]
  show Calls P f _ w _
  refine hcall.mono ?_
  rintro e w' ⟨v, im', rfl, hb, hi1, hi2, hi3, hv⟩
  have rel' := rel.later g.im hb (fun _ h => h) (fun x hx => Nat.lt_of_lt_of_le (rel.imlt x hx) hb.size) (fun x hx => .inl hx)
  exact hn _ _ _ _ k (rel'.put_same (some i) (hv.flat hfl))
def HEndsD (k0 k1 : Lens) (T : TypeId → Option TI) (fn : Func) (rv : V) (b' : List (List C)) (r' : List (Option RowO)) (m' : List (List (DV × DV))) : Ex → St → Prop
  | .exit _, _ => False
  | _, s => ∃ vs, resAll T fn.ntmps s fn.results.toList = some vs ∧ (loV k1.L k1.R k1.M (resV vs) && (Nat.ble k1.L s.b.length && (Nat.ble k1.R s.r.length && (Nat.ble k1.M s.m.length &&
      (loB k1.L k1.R k1.M (s.b.take k1.L) && (Nat.ble k0.L k1.L && (Nat.ble k0.R k1.R && Nat.ble k0.M k1.M))))))) = true ∧ LeG (resV vs) rv ∧ s.b.take k1.L = b' ∧ s.r.take k1.R = r' ∧ s.m.take k1.M = m'
theorem HCall.ofD (hT : TabOk P T) (k1 : Lens) {f : FuncId} {fn : Func} {c : Code} {args : List V} {rv : V} {b' : List (List C)} {r' : List (Option RowO)} {m' : List (List (DV × DV))} (hf : P.funcs[f]? = some fn)
  (hname : (fn.name == "runtime.NumGoroutine") = false) (hb : fn.body = some c) (hn : args.length ≤ fn.ntmps)
  (h : ∀ E : Env J ⟨b.length, r.length, m.length⟩, W E P fn.ntmps c (HEndsD ⟨b.length, r.length, m.length⟩ k1 T fn rv b' r' m') ⟨argsV args, b, r, m⟩) : HCall P J f args b r m (isH rv b' r' m') := by
 refine HCall.le (HCall.of_body hT hf hname hb hn (fun E => (h E).mono ?_))
 have key : ∀ s, (∃ vs, resAll T fn.ntmps s fn.results.toList = some vs ∧ (loV k1.L k1.R k1.M (resV vs) && (Nat.ble k1.L s.b.length && (Nat.ble k1.R s.r.length && (Nat.ble k1.M s.m.length &&
   (loB k1.L k1.R k1.M (s.b.take k1.L) && (Nat.ble b.length k1.L && (Nat.ble r.length k1.R && Nat.ble m.length k1.M))))))) = true ∧ LeG (resV vs) rv ∧ s.b.take k1.L = b' ∧ s.r.take k1.R = r' ∧ s.m.take k1.M = m') →
   ∃ vs, resAll T fn.ntmps s fn.results.toList = some vs ∧ ((∃ rv', LeG (resV vs) rv' ∧ isH rv b' r' m' rv' s.b s.r s.m) ∨ ∃ k1 : Lens, (loV k1.L k1.R k1.M (resV vs) && (Nat.ble k1.L s.b.length && (Nat.ble k1.R s.r.length && (Nat.ble k1.M s.m.length &&
   (loB k1.L k1.R k1.M (s.b.take k1.L) && (Nat.ble b.length k1.L && (Nat.ble r.length k1.R && Nat.ble m.length k1.M))))))) = true ∧ ∃ rv', LeG (resV vs) rv' ∧ isH rv b' r' m' rv' (s.b.take k1.L) (s.r.take k1.R) (s.m.take k1.M)) :=
  fun s ⟨vs, h1, h2, h3, h4, h5, h6⟩ => ⟨vs, h1, .inr ⟨k1, h2, rv, h3, rfl, h4, h5, h6⟩⟩
 intro e s hs
 cases e with
 | normal => exact key s hs
 | exit id => exact hs.elim
 | ret => exact key s hs
end
end
end Go.Proofs.YtpelfildfidnbaaGreatDoor
namespace Go.Proofs.YtpelfildfidnbaaGreatDoor
section
open Go Go.RowKit
def reC (ri v : Nat) : C → C
 | .row q w off n => bif Nat.beq q ri then .row q v off n else .row q w off n
 | .rptr q w i fo => bif Nat.beq q ri then .rptr q v i fo else .rptr q w i fo
 | c => c
def flatC : C → Bool
 | .row _ _ _ _ => false
 | .rptr _ _ _ _ => false
 | .clo _ _ => false
 | _ => true
def reOkC (ri : Nat) : C → Bool
 | .row q w _ _ => !Nat.beq q ri || Nat.beq w 0
 | .rptr q w _ _ => !Nat.beq q ri || Nat.beq w 0
 | .clo _ caps => caps.all flatC
 | _ => true
def reV (ri v : Nat) : V → V
 | .one c => .one (reC ri v c)
 | .agg cs => .agg (cs.map (reC ri v))
 | u => u
def reOkV (ri : Nat) : V → Bool
 | .one c => reOkC ri c
 | .agg cs => cs.all (reOkC ri)
 | .junk => true
 | _ => false
structure ReSh (ri v : Nat) (h h' : Sh) : Prop where
 L : h'.L = h.L
 M : h'.M = h.M
 len : h'.rows.length = h.rows.length
 other : ∀ q, q ≠ ri → h'.rows[q]? = h.rows[q]?
 at_ : ∃ al sz ln, h.rows[ri]? = some (some (al, v, sz, ln)) ∧ h'.rows[ri]? = some (some (al, 0, sz, ln))
theorem RC.re {ri v : Nat} {g : Gh} {h h' : Sh} {w : World} (hs : ReSh ri v h h') {c : C} {x : Value} (hok : reOkC ri c = true) (hc : RC g h w (reC ri v c) x) : RC g h' w c x := by
 have hfl : ∀ {c : C} {x : Value}, flatC c = true → RC g h w c x → RC g h' w c x := fun {c x} hf hc => by
  cases hc with
  | d _ _ hx => exact .d _ _ hx
  | ptr l off hl => exact .ptr _ _ (by rw [hs.L]; exact hl)
  | eptr cells b o u hb h1 h2 => exact .eptr _ _ _ _ hb h1 h2
  | row => cases hf
  | rptr => cases hf
  | map m hm => exact .map _ (by rw [hs.M]; exact hm)
  | clo => cases hf
  | wr k l off hl => exact .wr _ _ _ (by rw [hs.L]; exact hl)
  | junk _ hv => exact .junk _ hv
 obtain ⟨al, sz, ln, a1, a2⟩ := hs.at_
 cases c with
 | row q w' off n =>
  have hc : RC g h w (bif Nat.beq q ri then .row q v off n else .row q w' off n) x := hc
  cases hb : Nat.beq q ri with
  | true =>
   obtain rfl : q = ri := Nat.eq_of_beq_eq_true hb
   rw [hb] at hc
   have hw0 : w' = 0 := by
    have hok : (!Nat.beq q q || Nat.beq w' 0) = true := hok
    rw [hb] at hok
    exact Nat.eq_of_beq_eq_true (by simpa using hok)
   subst hw0
   cases hc with | row _ _ _ _ _ h1 h2 h3 =>
   refine .row _ _ _ _ _ h1 (by rw [hs.len]; exact h2) (fun al' ver' sz' len' hh => ?_)
   rw [a2] at hh
   simp only [Option.some.injEq, Prod.mk.injEq] at hh
   obtain ⟨rfl, rfl, rfl, rfl⟩ := hh
   exact ⟨Nat.le_refl _, fun _ => (h3 _ _ _ _ a1).2 rfl⟩
  | false =>
   have hne : q ≠ ri := fun e => by rw [e] at hb; simp at hb
   rw [hb] at hc
   cases hc with | row _ _ _ _ _ h1 h2 h3 =>
   exact .row _ _ _ _ _ h1 (by rw [hs.len]; exact h2) (fun al' ver' sz' len' hh => h3 _ _ _ _ (by rw [← hs.other q hne]; exact hh))
 | rptr q w' i fo =>
  have hc : RC g h w (bif Nat.beq q ri then .rptr q v i fo else .rptr q w' i fo) x := hc
  cases hb : Nat.beq q ri with
  | true =>
   obtain rfl : q = ri := Nat.eq_of_beq_eq_true hb
   rw [hb] at hc
   have hw0 : w' = 0 := by
    have hok : (!Nat.beq q q || Nat.beq w' 0) = true := hok
    rw [hb] at hok
    exact Nat.eq_of_beq_eq_true (by simpa using hok)
   subst hw0
   cases hc with | rptr _ _ _ _ _ h1 h2 h3 =>
   refine .rptr _ _ _ _ _ h1 (by rw [hs.len]; exact h2) (fun al' ver' sz' len' hh => ?_)
   rw [a2] at hh
   simp only [Option.some.injEq, Prod.mk.injEq] at hh
   obtain ⟨rfl, rfl, rfl, rfl⟩ := hh
   exact ⟨Nat.le_refl _, fun _ => (h3 _ _ _ _ a1).2 rfl⟩
  | false =>
   have hne : q ≠ ri := fun e => by rw [e] at hb; simp at hb
   rw [hb] at hc
   cases hc with | rptr _ _ _ _ _ h1 h2 h3 =>
   exact .rptr _ _ _ _ _ h1 (by rw [hs.len]; exact h2) (fun al' ver' sz' len' hh => h3 _ _ _ _ (by rw [← hs.other q hne]; exact hh))
 | clo f caps =>
  have hall : ∀ c ∈ caps, flatC c = true := List.all_eq_true.1 hok
  have hc : RC g h w (.clo f caps) x := hc
  cases hc with | clo _ _ vs hl hx =>
  exact .clo _ _ _ hl (fun i c v h1 h2 => hfl (hall c (List.mem_of_getElem? h1)) (hx i c v h1 h2))
 | d x => exact hfl rfl hc
 | ptr l off => exact hfl rfl hc
 | eptr cells => exact hfl rfl hc
 | map m => exact hfl rfl hc
 | wr k l off => exact hfl rfl hc
 | junk => exact hfl rfl hc
theorem RV.re {ri v : Nat} {g : Gh} {h h' : Sh} {w : World} (hs : ReSh ri v h h') {u : V} {x : Value} (hok : reOkV ri u = true) (hu : RV g h w (reV ri v u) x) : RV g h' w u x := by
 cases u with
 | one c => cases hu with | one _ _ hc => exact .one _ _ (hc.re hs hok)
 | agg cs =>
  have hu : RV g h w (.agg (cs.map (reC ri v))) x := hu
  cases hu with | agg _ vs hl hx =>
  refine .agg _ _ (by simpa using hl) (fun i c y h1 h2 => (hx i (reC ri v c) y (by simp [h1]) h2).re hs (List.all_eq_true.1 hok c (List.mem_of_getElem? h1)))
 | junk => exact .junk _
 | tup => cases hok
 | when => cases hok
def reL (ri v : Nat) (l : List (Nat × V)) : List (Nat × V) := l.map fun x => (x.1, reV ri v x.2)
theorem ofL_re (ri v : Nat) : ∀ (l : List (Nat × V)) (j : Nat), ofL (reL ri v l) j = reV ri v (ofL l j)
  | [], _ => rfl
  | (k, u) :: l, j => by
    show (bif Nat.beq k j then reV ri v u else ofL (reL ri v l) j) = reV ri v (bif Nat.beq k j then u else ofL l j)
    cases Nat.beq k j with
    | true => rfl
    | false => exact ofL_re ri v l j
theorem ofL_ok {ri : Nat} : ∀ {l : List (Nat × V)}, (l.all fun x => reOkV ri x.2) = true → ∀ j, reOkV ri (ofL l j) = true
  | [], _, _ => rfl
  | (k, u) :: l, h, j => by
    simp only [List.all_cons, Bool.and_eq_true] at h
    show reOkV ri (bif Nat.beq k j then u else ofL l j) = true
    cases Nat.beq k j with
    | true => exact h.1
    | false => exact ofL_ok h.2 j
theorem W.reVer {J : Inv} {k0 : Lens} {E : Env J k0} {P : Program} {n : Nat} {c : Code} {K : Ex → St → Prop} {l l0 : List (Nat × V)} {b b0 : List (List C)} {r r' : List (Option RowO)} {v sz : Nat} {al : Bool} {e : TypeId} {xs : List (List D)} (ri : Nat)
  (hr : r[ri]? = some (some ⟨al, v, sz, e, xs⟩)) (hl : reL ri v l = l0) (hb : b.map (fun cs => cs.map (reC ri v)) = b0) (hr' : r.set ri (some ⟨al, 0, sz, e, xs⟩) = r')
  (hok : (Nat.ble k0.R ri && ((l.all fun x => reOkV ri x.2) && b.all fun cs => cs.all (reOkC ri))) = true) (h : W E P n c K ⟨ofL l, b, r', []⟩) : W E P n c K ⟨ofL l0, b0, r, []⟩ := by
 subst hl; subst hb; subst hr'
 simp only [Bool.and_eq_true] at hok
 have hR := Nat.le_of_ble_eq_true hok.1
 have hlt : ri < r.length := (List.getElem?_eq_some_iff.1 hr).1
 refine h.weaken fun g a w rel => ⟨g, ?_⟩
 have hs : ReSh ri v (⟨ofL (reL ri v l), b.map (fun cs => cs.map (reC ri v)), r, []⟩ : St).sh (⟨ofL l, b, r.set ri (some ⟨al, 0, sz, e, xs⟩), []⟩ : St).sh := by
  refine ⟨by simp [St.sh], rfl, by simp [St.sh], fun q hq => ?_, al, sz, xs.length, by simp [St.sh, hr, RowO.form], by simp [St.sh, hlt, RowO.form]⟩
  have hq' : ¬ ri = q := fun e => hq e.symm
  simp [St.sh, List.getElem?_set, hq']
 have hlive : ∀ x, (⟨ofL l, b, r.set ri (some ⟨al, 0, sz, e, xs⟩), []⟩ : St).live x → (⟨ofL (reL ri v l), b.map (fun cs => cs.map (reC ri v)), r, []⟩ : St).live x := fun x hx => by
  cases x with
  | b q => have : q < b.length := hx; show q < (b.map _).length; simpa using this
  | m q => exact hx
  | r q =>
   obtain ⟨o, ho, hal⟩ := hx
   have ho : (r.set ri (some ⟨al, 0, sz, e, xs⟩))[q]? = some (some o) := ho
   by_cases hq : ri = q
   ·skip
    subst hq
    simp [hlt] at ho
    exact ⟨_, hr, by rw [← ho] at hal; exact hal⟩
   ·skip
    rw [List.getElem?_set, if_neg hq] at ho; exact ⟨o, ho, hal⟩
 refine ⟨rel.below, ?_, rel.imlt, rel.imold, fun x hx => rel.own x (hlive x hx), ⟨fun x hx => rel.heap.lt x (hlive x hx), fun x hx => rel.heap.new x (hlive x hx), fun x y hx hy => rel.heap.inj x y (hlive x hx) (hlive y hy), fun q cs hq => ?_, fun q o hq => ?_, fun q es hq => by cases hq⟩, rel.size, rel.defers, fun i hi => ?_⟩
 ·skip
  have x := rel.ext
  refine ⟨x.im, x.same, by rw [hs.L]; exact x.lenL, by rw [hs.M]; exact x.lenM, by rw [hs.len]; exact x.lenR, x.atB, x.atM, fun q al' ver' sz' len' hq hh => x.rows q al' ver' sz' len' hq ?_⟩
  rw [← hs.other q (by rw [E.hR] at hq; omega)]; exact hh
 ·skip
  have hq : b[q]? = some cs := hq
  obtain ⟨vs, t, h1, h2, h3⟩ := rel.heap.box q (cs.map (reC ri v)) (by simp [hq])
  refine ⟨vs, t, h1, by simpa using h2, fun j c x hc hx => (h3 j (reC ri v c) x (by simp [hc]) hx).re hs ?_⟩
  exact List.all_eq_true.1 (List.all_eq_true.1 hok.2.2 cs (List.mem_of_getElem? hq)) c (List.mem_of_getElem? hc)
 ·skip
  have hq : (r.set ri (some ⟨al, 0, sz, e, xs⟩))[q]? = some (some o) := hq
  by_cases hqe : ri = q
  ·skip
   subst hqe
   simp [hlt] at hq
   subst hq
   exact rel.heap.row ri ⟨al, v, sz, e, xs⟩ hr
  ·skip
   rw [List.getElem?_set, if_neg hqe] at hq; exact rel.heap.row q o hq
 ·skip
  have h1 := rel.tmps i hi
  have e1 : (⟨ofL (reL ri v l), b.map (fun cs => cs.map (reC ri v)), r, []⟩ : St).t i = reV ri v (ofL l i) := ofL_re ri v l i
  rw [e1] at h1
  exact h1.re hs (ofL_ok hok.2.1 i)
end
end Go.Proofs.YtpelfildfidnbaaGreatDoor
namespace Go.Proofs.YtpelfildfidnbaaGreatDoor
section
open Go Go.RowKit
section
variable {J : Inv} {k0 : Lens} {E : Env J k0} {P : Program} {T : TypeId → Option TI} {n : Nat} {t : Nat → V} {b : List (List C)} {r : List (Option RowO)} {m : List (List (DV × DV))} {ops : Array Oper} {l : List Oper}
  {K : St → Prop} {i : Nat} {ty : TypeId} {pos : String} {after : Array Edge} {md : Region.Mode}
theorem pv_rload (hT : TabOk P T) {s : St} {o : Oper} {te : TypeId} {ti : TI} {x : Operand} {ri ver kk fo : Nat} {q : RowO} {xd : List D} {v : V} (hop : o.op = .load te x) (hti : T te = some ti) (hx : opd n s x = (true, .one (.rptr ri ver kk fo))) (hq : rowAt s ri ver = some q)
  (hk : q.xs.getD kk [] = xd) (hp : partC ti (xd.map .d) fo = some v) : Pv E P n o v s := by
 intro g a w rel
 have h := opd_ok rel hx rfl
 obtain ⟨z, h1, h2⟩ := evLoad_ok (P := P) (t := te) (u := .one (.rptr ri ver kk fo)) (r := v) hT rel.heap (by unfold evLoad; simp only [hti, hq, hk]; exact hp) h
 refine ⟨z, ?_, h2⟩
 simp only [execOp, hop, Sem.run_bind, h1, Result.andThen_ok, Sem.run_pure]
theorem S.rload (hT : TabOk P T) {te : TypeId} {ti : TI} {x : Operand} {ri ver kk fo : Nat} {q : RowO} {xd : List D} {v0 v : V} (hti : T te = some ti) (hx : opd n ⟨t, b, r, m⟩ x = (true, .one (.rptr ri ver kk fo))) (hq : rowAt ⟨t, b, r, m⟩ ri ver = some q)
  (hk : q.xs.getD kk [] = xd) (hp : partC ti (xd.map .d) fo = some v0) (hf : forceV v0 = some v) (k : WL E P n ops l K ⟨upd t i v, b, r, m⟩) : WL E P n ops (⟨some i, .load te x, ty, pos, after, none⟩ :: l) K ⟨t, b, r, m⟩ := by
 obtain rfl := forceV_eq hf
 intro g a w rel next Q hn
 have hw : Region.wanted (⟨some i, .load te x, ty, pos, after, none⟩ : Oper) (yielded ops a.tmps) = true := by simp [Region.wanted]
 rw [if_pos hw]
 obtain ⟨z, h1, h2⟩ := pv_rload (o := ⟨some i, .load te x, ty, pos, after, none⟩) hT rfl hti hx hq hk hp g a w rel
 unfold Oper.wp
 rw [h1]
 exact hn _ g _ _ k (rel.put_same (some i) h2)
def endL : Nat → Nat → Array Bool → Array Bool
 | 0, _, listed => listed
 | f + 1, k, listed => endL f (k + 1) (listed.setIfInBounds k true)
def tailD (md : Region.Mode) (ops : Array Oper) (L1 : Array Bool) (k : Nat) : Bool := (List.range ops.size).all fun j => L1.getD j true || depB md ops ops.size j k
def seqC (md : Region.Mode) (ops : Array Oper) : Nat → Nat → Array Bool → Bool
 | 0, _, listed => (Region.ready md ops listed).isEmpty
 | f + 1, k, listed => (match Region.ready md ops listed with | [j] => Nat.beq j k | _ => false) && seqC md ops f (k + 1) (listed.setIfInBounds k true)
theorem wpAny_of_seq {K : St → Prop} {Q : Exit → Act → World → Prop} (hQ : ∀ s g a w, K s → Rel E n g s a w → Q .normal a w) :
    ∀ (l : List Oper) (k : Nat) (listed : Array Bool) (s : St) (g : Gh) (a : Act) (w : World), (∀ j, l[j]? = ops[k + j]?) → seqC md ops l.length k listed = true → Rel E n g s a w → WL E P n ops l K s → wpAny P md ops Q l.length listed a w
  | [], k, listed, s, g, a, w, hl, hB, rel, h => ⟨by simpa [seqC] using hB, hQ _ _ _ _ h rel⟩
  | o :: l, k, listed, s, g, a, w, hl, hB, rel, h => by
    have h0 : ops[k]? = some o := by simpa using (hl 0).symm
    simp only [List.length_cons, seqC, Bool.and_eq_true] at hB
    obtain ⟨hr, hB'⟩ := hB
    split at hr
    · rename_i j hj
      have hjk : j = k := Nat.eq_of_beq_eq_true hr
      subst hjk
      refine ⟨fun h0 => (by rw [hj] at h0; cases h0), fun i hi => ?_⟩
      rw [hj, List.mem_singleton] at hi
      subst hi
      unfold wpOp
      rw [h0]
      have h3 := h g a w rel (wpAny P md ops Q l.length (listed.setIfInBounds i true)) Q (fun s' g' a' w' hk rel' =>
        wpAny_of_seq hQ l (i + 1) _ s' g' a' w' (fun j => by have := hl (j + 1); simpa [Nat.add_assoc, Nat.add_comm 1 j] using this) hB' rel' hk)
      simp only
      split
      · rename_i hw; rw [if_pos hw] at h3; exact .inl h3
      · rename_i hw; rw [if_neg hw] at h3; exact h3
    · cases hr
def cutF : Nat → List Oper → Option (List Oper × List Oper)
 | 0, l => some ([], l)
 | _ + 1, [] => none
 | k + 1, x :: l => match cutF k l with | some (p, q) => some (x :: p, q) | none => none
theorem cutF_eq : ∀ {k : Nat} {l p q : List Oper}, cutF k l = some (p, q) → l = p ++ q
  | 0, l, p, q, h => by simp only [cutF, Option.some.injEq, Prod.mk.injEq] at h; obtain ⟨rfl, rfl⟩ := h; rfl
  | k + 1, [], p, q, h => by cases h
  | k + 1, x :: l, p, q, h => by
    unfold cutF at h
    split at h
    · rename_i p' q' hc
      simp only [Option.some.injEq, Prod.mk.injEq] at h
      obtain ⟨rfl, rfl⟩ := h
      rw [cutF_eq hc]; rfl
    · cases h
end
end
end Go.Proofs.YtpelfildfidnbaaGreatDoor
namespace Go.Proofs.YtpelfildfidnbaaGreatDoor
section
open Go Go.RowKit
section
variable {J : Inv} {k0 : Lens} {E : Env J k0} {P : Program} {T : TypeId → Option TI} {n : Nat} {t : Nat → V} {b : List (List C)} {r : List (Option RowO)} {m : List (List (DV × DV))} {ops : Array Oper} {md : Region.Mode}
def HTr {J : Inv} {k0 : Lens} (E : Env J k0) (P : Program) (n : Nat) (ops : Array Oper) (o : Oper) (s : St) (Post : HPost) : Prop :=
 ∀ t', (∀ i ∈ o.looksAt ops, t' i = s.t i) → Step E P n ops o (fun s1 => ∃ v b r m, s1 = ⟨updO t' o.dst v, b, r, m⟩ ∧ Post v b r m) ⟨t', s.b, s.r, s.m⟩
def qS {J : Inv} {k0 : Lens} (E : Env J k0) (P : Program) (n : Nat) (ops : Array Oper) (i : Nat) (K : St → Prop) (s : St) : Prop :=
 match ops[i]? with
 | none => K s
 | some o => ∃ Post, HTr E P n ops o s Post ∧ ∀ v b r m, Post v b r m → K ⟨updO s.t o.dst v, b, r, m⟩
def AnyS {J : Inv} {k0 : Lens} (E : Env J k0) (P : Program) (n : Nat) (md : Region.Mode) (ops : Array Oper) (L1 : Array Bool) (K : St → Prop) : Nat → Array Bool → St → Prop
 | 0, listed, s => listed = L1 ∧ K s
 | fuel + 1, listed, s => Region.ready md ops listed ≠ [] ∧ ∀ i ∈ Region.ready md ops listed, qS E P n ops i (AnyS E P n md ops L1 K fuel (listed.setIfInBounds i true)) s
theorem wpAny_of_AnyS {f2 : Nat} {L1 : Array Bool} {K : St → Prop} {Q : Exit → Act → World → Prop} (hQ : ∀ s g a w, K s → Rel E n g s a w → wpAny P md ops Q f2 L1 a w) :
    ∀ (fuel : Nat) (listed : Array Bool) (s : St) (g : Gh) (a : Act) (w : World), Rel E n g s a w → AnyS E P n md ops L1 K fuel listed s → wpAny P md ops Q (f2 + fuel) listed a w
  | 0, listed, s, g, a, w, rel, h => by obtain ⟨rfl, h⟩ := h; exact hQ _ _ _ _ h rel
  | fuel + 1, listed, s, g, a, w, rel, h => by
    refine ⟨fun h0 => absurd h0 h.1, fun i hi => ?_⟩
    have hq := h.2 i hi
    unfold qS at hq
    unfold wpOp
    split
    · rename_i ho; simp only [ho] at hq; exact wpAny_of_AnyS hQ fuel _ s g a w rel hq
    · rename_i o ho
      simp only [ho] at hq
      obtain ⟨Post, h1, h2⟩ := hq
      have h3 := h1 s.t (fun _ _ => rfl) g a w rel (wpAny P md ops Q (f2 + fuel) (listed.setIfInBounds i true)) Q (fun s' g' a' w' ⟨v, b, r, m, he, hp⟩ rel' => wpAny_of_AnyS hQ fuel _ s' g' a' w' rel' (he ▸ h2 v b r m hp))
      split
      · rename_i hw; rw [if_pos hw] at h3; exact .inl h3
      · rename_i hw; rw [if_neg hw] at h3; exact h3
def Eag {J : Inv} {k0 : Lens} (E : Env J k0) (P : Program) (n : Nat) (ops : Array Oper) (o : Oper) (t : Nat → V) (v : V) : Prop :=
 ∀ t' b r m, (∀ i ∈ o.looksAt ops, t' i = t i) → ∀ g a w, Rel E n g ⟨t', b, r, m⟩ a w →
  if Region.wanted o (yielded ops a.tmps) then ∃ z, (execOp a.eval o).run P w = .ok (.value z) w ∧ RV g (⟨t', b, r, m⟩ : St).sh w v z else RV g (⟨t', b, r, m⟩ : St).sh w v undef
theorem Eag.agree {o : Oper} {t t2 : Nat → V} {v : V} (h : Eag E P n ops o t v) (ht : ∀ i ∈ o.looksAt ops, t2 i = t i) : Eag E P n ops o t2 v := fun t' b r m h' => h t' b r m (fun i hi => (h' i hi).trans (ht i hi))
theorem updO_put {s : St} {d : Option Nat} {v : V} : (⟨updO s.t d v, s.b, s.r, s.m⟩ : St) = s.set d v := by cases d <;> rfl
theorem Eag.htr {o : Oper} {s : St} {v : V} (h : Eag E P n ops o s.t v) : HTr E P n ops o s (fun v' b r m => v' = v ∧ b = s.b ∧ r = s.r ∧ m = s.m) := by
 intro t' ht g a w rel next Q hn
 have hz := h t' s.b s.r s.m ht g a w rel
 by_cases hw : Region.wanted o (yielded ops a.tmps) = true
 ·skip
  rw [if_pos hw] at hz ⊢
  obtain ⟨z, h1, h2⟩ := hz
  unfold Oper.wp
  rw [h1]
  exact hn _ g _ _ ⟨v, s.b, s.r, s.m, rfl, rfl, rfl, rfl, rfl⟩ (by have := rel.put_same o.dst h2; rw [← updO_put] at this; exact this)
 ·skip
  rw [if_neg hw] at hz ⊢
  exact hn _ g _ _ ⟨v, s.b, s.r, s.m, rfl, rfl, rfl, rfl, rfl⟩ (by have := rel.put_same o.dst hz; rw [← updO_put] at this; exact this)
theorem anyS_first {K : St → Prop} {L1 : Array Bool} {i : Nat} {oi : Oper} {v : V} (hi : ops[i]? = some oi) (hdep : ∀ j oj, ops[j]? = some oj → L1.getD j true = false → DepOn md ops j i) :
  ∀ (fuel : Nat) (listed : Array Bool) (s : St), Closed md ops listed → (∀ j oj, ops[j]? = some oj → j ≠ i → listed.getD j true = false → DepOn md ops j i ∨ oi.apart ops oj = true) →
   i ∈ Region.ready md ops listed → Eag E P n ops oi s.t v → AnyS E P n md ops L1 K fuel (listed.setIfInBounds i true) ⟨updO s.t oi.dst v, s.b, s.r, s.m⟩ → AnyS E P n md ops L1 K (fuel + 1) listed s := by
 intro fuel
 induction fuel with
 | zero =>
  intro listed s hcl hfree hr he H
  refine ⟨fun h => (by rw [h] at hr; cases hr), fun j hj => ?_⟩
  by_cases hji : j = i
  ·skip
   subst hji; unfold qS; simp only [hi]; exact ⟨_, he.htr, fun v' b r m ⟨e1, e2, e3, e4⟩ => by subst e1; subst e2; subst e3; subst e4; exact H⟩
  ·skip
   exfalso
   obtain ⟨hjun, oj, hoj, hall⟩ := mem_ready.1 hj
   have hiun := (mem_ready.1 hr).1
   have h1 : L1.getD j true = false := by rw [← H.1, getD_set_ne true (Ne.symm hji)]; exact hjun
   have h2 := dep_ready hcl (hdep j oj hoj h1) hj
   rcases Nat.lt_or_ge i listed.size with h' | h'
   ·skip
    simp [h'] at hiun h2; rw [hiun] at h2; cases h2
   ·skip
    simp [Array.getD_eq_getD_getElem?, Array.getElem?_eq_none h'] at h2
 | succ fuel ih =>
  intro listed s hcl hfree hr he H
  refine ⟨fun h => (by rw [h] at hr; cases hr), fun j hj => ?_⟩
  by_cases hji : j = i
  ·skip
   subst hji; unfold qS; simp only [hi]; exact ⟨_, he.htr, fun v' b r m ⟨e1, e2, e3, e4⟩ => by subst e1; subst e2; subst e3; subst e4; exact H⟩
  ·skip
   have h1 := H.2 j (ready_mono hj hji)
   obtain ⟨hjun, oj, hoj, hall⟩ := mem_ready.1 hj
   have hiun := (mem_ready.1 hr).1
   have hnd : ¬ DepOn md ops j i := fun hd => by
    have h2 := dep_ready hcl hd hj
    rcases Nat.lt_or_ge i listed.size with h' | h'
    ·skip
     simp [h'] at hiun h2; rw [hiun] at h2; cases h2
    ·skip
     simp [Array.getD_eq_getD_getElem?, Array.getElem?_eq_none h'] at h2
   have hap := (hfree j oj hoj hji hjun).resolve_left hnd
   obtain ⟨a1, a2, a3⟩ := Oper.apart_spec hap
   unfold qS at h1 ⊢
   simp only [hoj] at h1 ⊢
   obtain ⟨Post, hq, hK⟩ := h1
   have ag : ∀ k ∈ oj.looksAt ops, updO s.t oi.dst v k = s.t k := fun k hk => updO_ne fun d hd he => a1 d hd (he ▸ hk)
   refine ⟨Post, fun t' ht => hq t' (fun k hk => (ht k hk).trans (ag k hk).symm), fun v' b r m hp => ?_⟩
   refine ih (listed.setIfInBounds j true) ⟨updO s.t oj.dst v', b, r, m⟩ (closed_set hcl hj) (fun k ok hk hki hun => hfree k ok hk hki ?_) (ready_mono hr (Ne.symm hji)) (he.agree fun k hk => updO_ne fun d hd he => a3 d hd (he ▸ hk)) ?_
   ·skip
    by_cases hjk : j = k
    ·skip
     subst hjk; exact hjun
    ·skip
     rwa [getD_set_ne true hjk] at hun
   ·skip
    have := hK v' b r m hp
    rw [Array.setIfInBounds_comm _ _ hji]
    simp only
    rw [← updO_comm _ _ _ a2]
    exact this
def AnyZ {J : Inv} {k0 : Lens} (E : Env J k0) (P : Program) (n : Nat) (ops : Array Oper) (L1 : Array Bool) (K : St → Prop) (fuel : Nat) (listed : Array Bool) (s : St) : Prop := Closed .any ops listed → AnyS E P n .any ops L1 K fuel listed s
def freeS (ops : Array Oper) (L1 listed : Array Bool) (i : Nat) : Bool :=
  (Region.ready .any ops listed).contains i && (tailD .any ops L1 i && match ops[i]? with
  | some oi => (List.range ops.size).all fun j => match ops[j]? with
    | some oj => Nat.beq j i || listed.getD j true || depB .any ops ops.size j i || oi.apart ops oj
    | none => true
  | none => false)
theorem AnyZ.nil {L1 : Array Bool} {K : St → Prop} {listed : Array Bool} {s : St} (hl : listed = L1) (h : K s) : AnyZ E P n ops L1 K 0 listed s := fun _ => ⟨hl, h⟩
theorem AnyZ.eager {L1 : Array Bool} {K : St → Prop} {fuel : Nat} {listed : Array Bool} {s : St} (i : Nat) {oi : Oper} {v : V} (hi : ops[i]? = some oi) (hB : freeS ops L1 listed i = true) (he : Eag E P n ops oi s.t v)
  (h : AnyZ E P n ops L1 K fuel (listed.setIfInBounds i true) ⟨updO s.t oi.dst v, s.b, s.r, s.m⟩) : AnyZ E P n ops L1 K (fuel + 1) listed s := by
 intro hc
 unfold freeS at hB
 simp only [Bool.and_eq_true, hi] at hB
 obtain ⟨hr, ht, hf⟩ := hB
 have hr' : i ∈ Region.ready .any ops listed := by simpa using hr
 refine anyS_first hi (fun j oj hj hun => ?_) fuel listed s hc (fun j oj hj hji hun => ?_) hr' he (h (closed_set hc hr'))
 ·skip
  unfold tailD at ht
  have := (List.all_eq_true.1 ht) j (List.mem_range.2 (Array.getElem?_eq_some_iff.1 hj).1)
  rw [hun, Bool.false_or] at this
  exact depB_dep _ _ _ this
 ·skip
  have := (List.all_eq_true.1 hf) j (List.mem_range.2 (Array.getElem?_eq_some_iff.1 hj).1)
  simp only [hj, hun, Bool.or_false, Bool.or_eq_true] at this
  rcases this with (h1 | h1) | h1
  ·skip
   exact absurd (Nat.eq_of_beq_eq_true h1) hji
  ·skip
   exact .inl (depB_dep _ _ _ h1)
  ·skip
   exact .inr h1
theorem qS_of {L1 : Array Bool} {K : St → Prop} {fuel : Nat} {listed : Array Bool} {s : St} {i : Nat} {o : Oper} (hc : Closed .any ops listed) (hr : i ∈ Region.ready .any ops listed) (ho : ops[i]? = some o) {Post : HPost} (h1 : HTr E P n ops o s Post)
  (h2 : ∀ v b r m, Post v b r m → AnyZ E P n ops L1 K fuel (listed.setIfInBounds i true) ⟨updO s.t o.dst v, b, r, m⟩) : qS E P n ops i (AnyS E P n .any ops L1 K fuel (listed.setIfInBounds i true)) s := by
 unfold qS
 rw [ho]
 exact ⟨Post, h1, fun v b r m hp => h2 v b r m hp (closed_set hc hr)⟩
def OpZ {J : Inv} {k0 : Lens} (E : Env J k0) (P : Program) (n : Nat) (ops : Array Oper) (o : Oper) (K : St → Prop) (s : St) : Prop := ∃ Post, HTr E P n ops o s Post ∧ ∀ v b r m, Post v b r m → K ⟨updO s.t o.dst v, b, r, m⟩
theorem AnyZ.one {L1 : Array Bool} {K : St → Prop} {fuel : Nat} {listed : Array Bool} {s : St} (i : Nat) {o : Oper} (hr : Region.ready .any ops listed = [i]) (ho : ops[i]? = some o)
  (h : OpZ E P n ops o (AnyZ E P n ops L1 K fuel (listed.setIfInBounds i true)) s) : AnyZ E P n ops L1 K (fuel + 1) listed s := by
 intro hc
 refine ⟨by rw [hr]; simp, fun j hj => ?_⟩
 have hj' := hj
 rw [hr, List.mem_singleton] at hj
 subst hj
 obtain ⟨Post, h1, h2⟩ := h
 exact qS_of hc hj' ho h1 h2
theorem AnyZ.two {L1 : Array Bool} {K : St → Prop} {fuel : Nat} {listed : Array Bool} {s : St} (i j : Nat) {o q : Oper} (hr : Region.ready .any ops listed = [i, j]) (ho : ops[i]? = some o) (hq : ops[j]? = some q)
  (h : OpZ E P n ops o (AnyZ E P n ops L1 K fuel (listed.setIfInBounds i true)) s) (h' : OpZ E P n ops q (AnyZ E P n ops L1 K fuel (listed.setIfInBounds j true)) s) : AnyZ E P n ops L1 K (fuel + 1) listed s := by
 intro hc
 refine ⟨by rw [hr]; simp, fun x hx => ?_⟩
 have hx' := hx
 rw [hr, List.mem_cons, List.mem_singleton] at hx
 rcases hx with rfl | rfl
 ·skip
  obtain ⟨Post, h1, h2⟩ := h; exact qS_of hc hx' ho h1 h2
 ·skip
  obtain ⟨Post, h1, h2⟩ := h'; exact qS_of hc hx' hq h1 h2
theorem AnyZ.three {L1 : Array Bool} {K : St → Prop} {fuel : Nat} {listed : Array Bool} {s : St} (i j k : Nat) {o q p : Oper} (hr : Region.ready .any ops listed = [i, j, k]) (ho : ops[i]? = some o) (hq : ops[j]? = some q) (hp : ops[k]? = some p)
  (h : OpZ E P n ops o (AnyZ E P n ops L1 K fuel (listed.setIfInBounds i true)) s) (h' : OpZ E P n ops q (AnyZ E P n ops L1 K fuel (listed.setIfInBounds j true)) s) (h'' : OpZ E P n ops p (AnyZ E P n ops L1 K fuel (listed.setIfInBounds k true)) s) : AnyZ E P n ops L1 K (fuel + 1) listed s := by
 intro hc
 refine ⟨by rw [hr]; simp, fun x hx => ?_⟩
 have hx' := hx
 rw [hr, List.mem_cons, List.mem_cons, List.mem_singleton] at hx
 rcases hx with rfl | rfl | rfl
 ·skip
  obtain ⟨Post, h1, h2⟩ := h; exact qS_of hc hx' ho h1 h2
 ·skip
  obtain ⟨Post, h1, h2⟩ := h'; exact qS_of hc hx' hq h1 h2
 ·skip
  obtain ⟨Post, h1, h2⟩ := h''; exact qS_of hc hx' hp h1 h2
theorem OpZ.d {o : Oper} {K : St → Prop} {s : St} (h : WD E P n ops [o] K s) : OpZ E P n ops o K s := by
 obtain ⟨v, b', h1, h2⟩ := h
 refine ⟨fun v1 b1 r1 m1 => v1 = v ∧ b1 = b' ∧ r1 = s.r ∧ m1 = s.m, fun t' ht g a w rel next Q hn => ?_, fun v1 b1 r1 m1 ⟨e1, e2, e3, e4⟩ => by subst e1; subst e2; subst e3; subst e4; exact h2⟩
 have h3 := (h1 t' ht).2.2 g a w rel next Q (fun z g' w' hl hv => hn _ g' _ _ ⟨v, b', s.r, s.m, rfl, rfl, rfl, rfl, rfl⟩ (Tr.rel (o := o) rel hl hv))
 exact h3
theorem Eag.pure (hT : TabOk P T) (hZ : ZeroOk T) {i : Nat} {op : Op} {ty : TypeId} {pos : String} {after : Array Edge} {ok : Bool} {v0 v : V} (hcl : Nat.beq (cls op) 0 = true) (he : ∀ b r m, evP T n ⟨t, b, r, m⟩ op = some (ok, v0)) (hok : ok = true) (hf : forceV v0 = some v) :
  Eag E P n ops ⟨some i, op, ty, pos, after, none⟩ t v := by
 obtain rfl := forceV_eq hf
 subst hok
 intro t' b r m ht g a w rel
 rw [if_pos (by simp [Region.wanted])]
 refine evP_ok hT hZ rel ?_
 rw [← he b r m]
 exact evP_congr op rfl (.inr rfl) (fun x hx => looks_opd (o := ⟨some i, op, ty, pos, after, none⟩) (b := b) hx ht)
theorem W.regionS {id : Nat} {l l1 l2 : List Oper} {K : Ex → St → Prop} {s : St} (k : Nat) (hm : P.follows .mixedOrders = true) (hc : cutF k l = some (l1, l2))
  (hB : seqC .any l.toArray l2.length l1.length (endL l1.length 0 (Array.replicate l.toArray.size false)) = true)
  (h : AnyZ E P n l.toArray (endL l1.length 0 (Array.replicate l.toArray.size false)) (WL E P n l.toArray l2 (K .normal)) l1.length (Array.replicate l.toArray.size false) s) : W E P n (.region id l.toArray true) K s := by
 have hl := cutF_eq hc
 intro g a w rel
 refine wp_region_any hm ?_
 have rel' := rel.drew (w.drawn + 1)
 have hcl : Closed .any l.toArray (Array.replicate l.toArray.size false) := fun j o e ho hl _ _ => by
  simp [Array.getD_eq_getD_getElem?, Array.getElem?_replicate] at hl
  split at hl <;> simp_all
 have hsz : l.toArray.size = l2.length + l1.length := by rw [hl]; simp; omega
 have key := wpAny_of_AnyS (f2 := l2.length) (Q := fun e a' w' => ∃ x s' g', e = Ex.exit' x ∧ K x s' ∧ Rel E n g' s' a' w') (fun s g a w hk rel => ?_) l1.length _ s g a _ rel' (h hcl)
 ·skip
  rw [← hsz] at key; exact key
 refine wpAny_of_seq (fun s g a w hk rel => ⟨.normal, s, g, rfl, hk, rel⟩) l2 l1.length _ s g a w (fun j => ?_) hB rel hk
 simp only [List.getElem?_toArray]
 rw [hl, List.getElem?_append_right (by omega)]
 congr 1
 omega
end
end
section
open Go Go.RowKit
variable {J : Inv} {k0 : Lens} {E : Env J k0} {P : Program} {T : TypeId → Option TI} {n : Nat} {t : Nat → V} {b : List (List C)} {r : List (Option RowO)} {m : List (List (DV × DV))} {ops : Array Oper} {l : List Oper}
  {K : St → Prop} {i : Nat} {ty : TypeId} {pos : String} {after : Array Edge}
def Gh.rowNew (g : Gh) (l b len : Nat) : Gh := { g with at_ := fun x => if x = .r l then b else g.at_ x, off := fun x => if x = l then 0 else g.off x, cap := fun x => if x = l then len else g.cap x }
theorem Rel.newOwn {s : St} {g : Gh} {a : Act} {w : World} (r : Rel E n g s a w) (d : Option Nat) {sz len : Nat} {xs : List (List D)} {us : List Value} {te : TypeId} (hxl : xs.length = len) (hus : us.length = len * sz) (hle : len ≤ maxLen)
    (hxs : ∀ x ∈ xs, x.length = sz) (hrd : ∀ (i j : Nat) (x : List D) (dd : D) (v : Value), xs[i]? = some x → x[j]? = some dd → us[i * sz + j]? = some v → RD g.im w dd v) :
    Rel E n (g.rowNew s.r.length w.heap.size len) ((⟨s.t, s.b, s.r ++ [some ⟨true, 0, sz, te, xs⟩], s.m⟩ : St).set d (.one (.row s.r.length 0 0 len))) (a.put d (.slice (some ⟨w.heap.size, 0, none⟩) len len)) (w.alloc (.cells us.toArray te)) := by
  obtain ⟨s1, hs1⟩ : ∃ s1 : St, s1 = ⟨s.t, s.b, s.r ++ [some ⟨true, 0, sz, te, xs⟩], s.m⟩ := ⟨_, rfl⟩
  have hsz : (w.alloc (.cells us.toArray te)).heap.size = w.heap.size + 1 := by simp
  have hold : ∀ k, k < w.heap.size → (w.alloc (.cells us.toArray te)).heap[k]? = w.heap[k]? := fun k hk => Below.heap_alloc w _ k hk
  have hnew : (w.alloc (.cells us.toArray te)).heap[w.heap.size]? = some (.cells us.toArray te (0, 0)) := by show (w.heap.push _)[w.heap.size]? = _; simp
  have e : Ext g s.sh w (g.rowNew s.r.length w.heap.size len) s1.sh (w.alloc (.cells us.toArray te)) := by
    subst hs1
    refine ⟨fun _ h => h, fun b hb => hold b (r.imlt b hb), Nat.le_refl _, Nat.le_refl _, by simp [St.sh], fun _ _ => by simp [Gh.rowNew], fun l hl => by simp [Gh.rowNew], fun q al ver sz' len' hq h => ⟨al, ver, sz', len', ?_, Nat.le_refl _, fun _ => ?_⟩⟩
    · have hq' : q < s.r.length := by simpa [St.sh] using hq
      simpa [St.sh, List.getElem?_append_left hq', List.getElem?_append_left (show q < (s.r.map (·.map RowO.form)).length by simpa using hq')] using h
    · have hq' : q < s.r.length := by simpa [St.sh] using hq
      have hne : q ≠ s.r.length := by omega
      exact ⟨rfl, rfl, Nat.le_refl _, by simp [Gh.rowNew, hne], by simp [Gh.rowNew, hne], by simp [Gh.rowNew, hne]⟩
  have hat : ∀ x, s.live x → (g.rowNew s.r.length w.heap.size len).at_ x = g.at_ x := fun x hx => by
    have : x ≠ .r s.r.length := by
      rintro rfl
      obtain ⟨o, ho, _⟩ := hx
      exact absurd (List.getElem?_eq_some_iff.1 ho).1 (Nat.lt_irrefl _)
    simp [Gh.rowNew, this]
  have hlive : ∀ x, s1.live x → s.live x ∨ x = .r s.r.length := fun x hx => by
    subst hs1
    cases x with
    | m l => exact .inl hx
    | b l => exact .inl hx
    | r l =>
      obtain ⟨o, ho, hal⟩ := hx
      have ho : (s.r ++ [some ⟨true, 0, sz, te, xs⟩])[l]? = some (some o) := ho
      rcases Nat.lt_or_ge l s.r.length with h | h
      · rw [List.getElem?_append_left h] at ho; exact .inl ⟨o, ho, hal⟩
      · have h4 := (List.getElem?_eq_some_iff.1 ho).1
        right; congr 1; simp at h4; omega
  have hnewat : (g.rowNew s.r.length w.heap.size len).at_ (.r s.r.length) = w.heap.size := by simp [Gh.rowNew]
  have hheap : Heap (g.rowNew s.r.length w.heap.size len) s1 (w.alloc (.cells us.toArray te)) := by
    refine ⟨fun x hx => ?_, fun x hx => ?_, fun x y hx hy he => ?_, fun l cs' hl' => ?_, fun l o ho => ?_, fun l es hes => ?_⟩
    · rcases hlive x hx with h | rfl
      · rw [hat x h, hsz]; exact Nat.lt_succ_of_lt (r.heap.lt x h)
      · rw [hnewat, hsz]; exact Nat.lt_succ_self _
    · rcases hlive x hx with h | rfl
      · rw [hat x h]; exact r.heap.new x h
      · rw [hnewat]; exact fun hi => absurd (r.imlt _ hi) (Nat.lt_irrefl _)
    · rcases hlive x hx with h | rfl <;> rcases hlive y hy with h' | rfl
      · rw [hat x h, hat y h'] at he; exact r.heap.inj x y h h' he
      · rw [hat x h, hnewat] at he; exact absurd (r.heap.lt x h) (by omega)
      · rw [hat y h', hnewat] at he; exact absurd (r.heap.lt y h') (by omega)
      · rfl
    · have hl2 : s.b[l]? = some cs' := by subst hs1; exact hl'
      obtain ⟨vs', t', h1, h2, h3⟩ := r.heap.box l cs' hl2
      have hlv : s.live (.b l) := (List.getElem?_eq_some_iff.1 hl2).1
      rw [hat (.b l) hlv]
      exact ⟨vs', t', by rw [hold _ (r.heap.lt (.b l) hlv)]; exact h1, h2, fun j c v hc hv => (h3 j c v hc hv).mono e⟩
    · have ho' : (s.r ++ [some ⟨true, 0, sz, te, xs⟩])[l]? = some (some o) := by subst hs1; exact ho
      rcases Nat.lt_or_ge l s.r.length with h | h
      · rw [List.getElem?_append_left h] at ho'
        have hne : l ≠ s.r.length := by omega
        have := r.heap.row l o ho'
        by_cases hal : o.al = true
        · rw [if_pos hal] at this ⊢
          obtain ⟨vs', t', h1, h2, h3, h4, h5, h6⟩ := this
          have ho2 : (g.rowNew s.r.length w.heap.size len).off l = g.off l := by simp [Gh.rowNew, hne]
          have hc2 : (g.rowNew s.r.length w.heap.size len).cap l = g.cap l := by simp [Gh.rowNew, hne]
          rw [hat (.r l) ⟨o, ho', hal⟩, ho2, hc2]
          exact ⟨vs', t', by rw [hold _ (r.heap.lt (.r l) ⟨o, ho', hal⟩)]; exact h1, h2, h3, h4, h5, fun i j x d v p q u => (h6 i j x d v p q u).mono e.im e.same⟩
        · rw [if_neg hal] at this ⊢; exact this
      · have h4 := (List.getElem?_eq_some_iff.1 ho').1
        obtain rfl : l = s.r.length := by simp at h4; omega
        rw [List.getElem?_append_right (Nat.le_refl _)] at ho'
        simp at ho'
        subst ho'
        have ho2 : (g.rowNew s.r.length w.heap.size len).off s.r.length = 0 := by simp [Gh.rowNew]
        have hc2 : (g.rowNew s.r.length w.heap.size len).cap s.r.length = len := by simp [Gh.rowNew]
        rw [if_pos rfl, hnewat, ho2, hc2]
        refine ⟨us.toArray, te, hnew, ⟨by simp [hus], rfl, rfl, hle⟩, by simp [hxl], hxs, fun _ _ => trivial, fun i j x dd v p q u => ?_⟩
        have u : us[i * sz + j]? = some v := by simpa using u
        exact (hrd i j x dd v p q u).mono e.im e.same
    · have hl2 : s.m[l]? = some es := by subst hs1; exact hes
      have hlv : s.live (.m l) := (List.getElem?_eq_some_iff.1 hl2).1
      obtain ⟨arr, clock, h1, h2, h3⟩ := r.heap.map l es hl2
      rw [hat (.m l) hlv]
      exact ⟨arr, clock, by rw [hold _ (r.heap.lt (.m l) hlv)]; exact h1, h2, fun i x y hx hy => ⟨(h3 i x y hx hy).1.mono e, (h3 i x y hx hy).2.mono e⟩⟩
  have hbelow : BelowX E.lent E.w0 (w.alloc (.cells us.toArray te)) := r.below.then ((Below.refl _ _).alloc (Nat.le_refl _) _)
  have rel1 : Rel E n (g.rowNew s.r.length w.heap.size len) s1 a (w.alloc (.cells us.toArray te)) := by
    refine ⟨hbelow, r.ext.trans e, fun b hb => by rw [hsz]; exact Nat.lt_succ_of_lt (r.imlt b hb), r.imold, fun x hx => ?_, hheap, r.size, r.defers, fun i hi => ?_⟩
    · rcases hlive x hx with h | rfl
      · rw [hat x h]; exact r.own x h
      · rw [hnewat]; exact .inr r.below.size
    · have := (r.tmps i hi).mono e
      subst hs1; exact this
  have := rel1.put_same d (u := .one (.row s.r.length 0 0 len)) (v := .slice (some ⟨w.heap.size, 0, none⟩) len len) (by
    refine .one _ _ (.row _ _ _ _ _ rfl (by subst hs1; simp [St.sh]) (fun al ver' sz' len' hh => ?_))
    have : (some (some (al, ver', sz', len')) : Option (Option _)) = some (some (true, 0, sz, len)) := by rw [← hh]; subst hs1; simp [St.sh, RowO.form, hxl]
    simp only [Option.some.injEq, Prod.mk.injEq] at this
    obtain ⟨rfl, rfl, rfl, rfl⟩ := this
    refine ⟨Nat.le_refl _, fun _ => ⟨by omega, ?_⟩⟩
    simp [Gh.rowNew])
  subst hs1
  exact this
theorem S.sliceOwn (hT : TabOk P T) {te : TypeId} {len sz : Nat} {parts : Array (Nat × Operand)} {us : List (Nat × V)} {xs : List (List D)} {e : TypeId} {ti : TI} {r' : List (Option RowO)} (hti : T te = some ti) (hd : ti.desc = .slice e)
  (hp : allOpd n ⟨t, b, r, m⟩ parts.toList = (true, us)) (hx : evBS T te len us = some (sz, xs)) (hl : Nat.ble len 1000000 = true) (hr : appL r [some ⟨true, 0, sz, e, xs⟩] = r')
  (k : WL E P n ops l K ⟨upd t i (.one (.row r.length 0 0 len)), b, r', m⟩) : WL E P n ops (⟨some i, .buildSlice te len parts, ty, pos, after, none⟩ :: l) K ⟨t, b, r, m⟩ := by
 subst hr
 rw [appL_eq] at k
 intro g a w rel next Q hn
 have hw : Region.wanted (⟨some i, .buildSlice te len parts, ty, pos, after, none⟩ : Oper) (yielded ops a.tmps) = true := by simp [Region.wanted]
 rw [if_pos hw]
 obtain ⟨hl0, hpv⟩ := allOpd_ok rel _ _ _ hp rfl
 unfold evBS at hx
 rw [hti] at hx
 obtain ⟨desc, tsz, tz, tby⟩ := ti
 obtain rfl : desc = .slice e := hd
 simp only at hx
 split at hx
 ·skip
  rename_i j hj
  split at hx
  ·skip
   rename_i z hz
   split at hx
   ·skip
    rename_i hc
    split at hx
    ·skip
     rename_i out hf
     split at hx
     ·skip
      rename_i ds hds
      split at hx
      ·skip
       rename_i hlen
       obtain ⟨rfl, rfl⟩ : j.size = sz ∧ chunk j.size len ds = xs := by simpa using hx
       have hout := allDs_eq hds
       obtain ⟨zs, q1, q2, q3⟩ := zeroCells_ok (h := (⟨t, b, r, m⟩ : St).sh) hz (len * j.size) hc.2 g w
       have hjunk : ∀ (i : Nat) (c : C) (v : Value), (List.replicate (len * j.size) C.junk)[i]? = some c → zs[i]? = some v → RC g (⟨t, b, r, m⟩ : St).sh w c v := fun i c v h1 h2 => by
        rw [List.getElem?_replicate] at h1
        split at h1
        ·skip
         rename_i hi
         cases h1
         refine .junk _ (q3 ?_ v (List.mem_of_getElem? h2))
         rcases Nat.eq_zero_or_pos j.size with h0 | h0
         ·skip
          rw [h0, Nat.mul_zero] at hi; omega
         ·skip
          exact h0
        ·skip
         cases h1
       obtain ⟨vs, f1, f2, f3⟩ := fillC_ok (h := (⟨t, b, r, m⟩ : St).sh) (fun i => some (i * j.size, j.size)) us (parts.toList.map fun (i, x) => (i, a.eval x)) _ out zs (by simp [hl0]) hpv (by simp [q2]) hjunk hf
       have e1 : (parts.map fun (i, x) => (i, a.eval x)) = (parts.toList.map fun (i, x) => (i, a.eval x)).toArray := Array.toList_inj.1 (by simp)
       have hrun : (execOp a.eval (⟨some i, .buildSlice te len parts, ty, pos, after, none⟩ : Oper)).run P w = .ok (.value (.slice (some ⟨w.heap.size, 0, none⟩) len len)) (w.alloc (.cells vs.toArray e)) := by
        have := run_buildSlice (w := w) (pv := parts.map fun (i, x) => (i, a.eval x)) (len := len) hT hti rfl hj (by have := hc.1; omega) q1 (by rw [e1]; simpa using f1)
        simp only [execOp, Sem.run_bind, this, Result.andThen_ok, Sem.run_pure]
       unfold Oper.wp
       rw [hrun]
       refine hn _ _ _ _ k (rel.newOwn (some i) (te := e) (chunk_length j.size len ds) (by rw [f2, hout]; simp [hlen]) (by have := Nat.le_of_ble_eq_true hl; simp only [maxLen]; omega) (chunk_sz j.size len ds hlen) (fun i k x d v h1 h2 h3 => ?_))
       have h4 := chunk_get j.size len ds i k x d h1 h2
       have h5 := f3 (i * j.size + k) (.d d) v (by rw [hout]; simp [h4]) h3
       cases h5 with | d _ _ q => exact q
      ·skip
       cases hx
     ·skip
      cases hx
    ·skip
     cases hx
   ·skip
    cases hx
  ·skip
   cases hx
 ·skip
  cases hx
end
end Go.Proofs.YtpelfildfidnbaaGreatDoor
namespace Go.Proofs.YtpelfildfidnbaaGreatDoor
section
open Go Go.RowKit
def isX {X : Type} (φ : X → Prop) (rv : X → V) (b : X → List (List C)) (r : X → List (Option RowO)) (m : X → List (List (DV × DV))) : HPost := fun rv' b' r' m' => ∃ x, φ x ∧ isH (rv x) (b x) (r x) (m x) rv' b' r' m'
section
variable {J : Inv} {P : Program} {f : FuncId} {args : List V} {b : List (List C)} {r : List (Option RowO)} {m : List (List (DV × DV))} {B : List (List C)} {R : List (Option RowO)} {M : List (List (DV × DV))} {X : Type} {φ : X → Prop}
theorem HCall.frameX {rv Rv : X → V} {b' B' : X → List (List C)} {r' R' : X → List (Option RowO)} {m' M' : X → List (List (DV × DV))} (pc : HCall P J f args b r m (isX φ rv b' r' m')) (ρb ρr ρm : List Nat) {Args : List V}
  (hA : renVs (renOf ρb ρr ρm B.length R.length M.length) args = Args)
  (hb : pickL B ρb = some (renB (renOf ρb ρr ρm B.length R.length M.length) b)) (hr : pickL R ρr = some r) (hm : pickL M ρm = some m)
  (hok : ((nodupB ρb && (nodupB ρr && nodupB ρm)) && ((allLt ρb B.length && (allLt ρr R.length && allLt ρm M.length)) && (loVs b.length r.length m.length args && loB b.length r.length m.length b))) = true)
  (h1 : ∀ x, renV (renOf ρb ρr ρm B.length R.length M.length) (rv x) = Rv x) (h2 : ∀ x, putL B ρb (renB (renOf ρb ρr ρm B.length R.length M.length) (b' x)) = B' x) (h3 : ∀ x, putL R ρr (r' x) = R' x) (h4 : ∀ x, putL M ρm (m' x) = M' x) :
  HCall P J f Args B R M (isX φ Rv B' R' M') :=
 (pc.frame ρb ρr ρm hA hb hr hm hok).mono fun rv B' R' M' ⟨rv0, b0, r0, m0, ⟨x, hx, e1, e2, e3, e4⟩, e5, e6, e7, e8⟩ => by
  subst e1; subst e2; subst e3; subst e4
  exact ⟨x, hx, e5.trans (h1 x), e6.trans (h2 x), e7.trans (h3 x), e8.trans (h4 x)⟩
def HEndsX (k0 : Lens) (k1 : X → Lens) (T : TypeId → Option TI) (fn : Func) (φ : X → Prop) (rv : X → V) (b' : X → List (List C)) (r' : X → List (Option RowO)) (m' : X → List (List (DV × DV))) : Ex → St → Prop :=
 fun e s => ∃ x, φ x ∧ HEndsD k0 (k1 x) T fn (rv x) (b' x) (r' x) (m' x) e s
theorem HCall.ofX {T : TypeId → Option TI} (hT : TabOk P T) (k1 : X → Lens) {fn : Func} {c : Code} {rv : X → V} {b' : X → List (List C)} {r' : X → List (Option RowO)} {m' : X → List (List (DV × DV))} (hf : P.funcs[f]? = some fn)
  (hname : (fn.name == "runtime.NumGoroutine") = false) (hb : fn.body = some c) (hn : args.length ≤ fn.ntmps)
  (h : ∀ E : Env J ⟨b.length, r.length, m.length⟩, W E P fn.ntmps c (HEndsX ⟨b.length, r.length, m.length⟩ k1 T fn φ rv b' r' m') ⟨argsV args, b, r, m⟩) : HCall P J f args b r m (isX φ rv b' r' m') := by
 refine HCall.le (HCall.of_body hT hf hname hb hn (fun E => (h E).mono ?_))
 have key : ∀ s, (∃ x, φ x ∧ ∃ vs, resAll T fn.ntmps s fn.results.toList = some vs ∧ (loV (k1 x).L (k1 x).R (k1 x).M (resV vs) && (Nat.ble (k1 x).L s.b.length && (Nat.ble (k1 x).R s.r.length && (Nat.ble (k1 x).M s.m.length &&
   (loB (k1 x).L (k1 x).R (k1 x).M (s.b.take (k1 x).L) && (Nat.ble b.length (k1 x).L && (Nat.ble r.length (k1 x).R && Nat.ble m.length (k1 x).M))))))) = true ∧ LeG (resV vs) (rv x) ∧ s.b.take (k1 x).L = b' x ∧ s.r.take (k1 x).R = r' x ∧ s.m.take (k1 x).M = m' x) →
   ∃ vs, resAll T fn.ntmps s fn.results.toList = some vs ∧ ((∃ rv', LeG (resV vs) rv' ∧ isX φ rv b' r' m' rv' s.b s.r s.m) ∨ ∃ k1 : Lens, (loV k1.L k1.R k1.M (resV vs) && (Nat.ble k1.L s.b.length && (Nat.ble k1.R s.r.length && (Nat.ble k1.M s.m.length &&
   (loB k1.L k1.R k1.M (s.b.take k1.L) && (Nat.ble b.length k1.L && (Nat.ble r.length k1.R && Nat.ble m.length k1.M))))))) = true ∧ ∃ rv', LeG (resV vs) rv' ∧ isX φ rv b' r' m' rv' (s.b.take k1.L) (s.r.take k1.R) (s.m.take k1.M)) :=
  fun s ⟨x, hx, vs, h1, h2, h3, h4, h5, h6⟩ => ⟨vs, h1, .inr ⟨k1 x, h2, rv x, h3, x, hx, rfl, h4, h5, h6⟩⟩
 intro e s hs
 cases e with
 | normal => obtain ⟨x, hx, hs⟩ := hs; exact key s ⟨x, hx, hs⟩
 | exit id => obtain ⟨x, hx, hs⟩ := hs; exact hs.elim
 | ret => obtain ⟨x, hx, hs⟩ := hs; exact key s ⟨x, hx, hs⟩
end
section
variable {J : Inv} {k0 : Lens} {E : Env J k0} {P : Program} {T : TypeId → Option TI} {n : Nat} {t : Nat → V} {b : List (List C)} {r : List (Option RowO)} {m : List (List (DV × DV))} {ops : Array Oper} {l : List Oper}
  {K : St → Prop} {i : Nat} {ty : TypeId} {pos : String} {after : Array Edge}
theorem S.hcallX {X : Type} {φ : X → Prop} {dst : Option Nat} {fo : Operand} {args : Array Operand} {ats : Array TypeId} {u : V} {f : FuncId} {caps : List C} {us ws : List V} {rv : X → V} {b' : X → List (List C)} {r' : X → List (Option RowO)} {m' : X → List (List (DV × DV))}
  (hu : opd n ⟨t, b, r, m⟩ fo = (true, u)) (hc : calleeV u = some (f, caps))
  (ha : allOpdL n ⟨t, b, r, m⟩ args.toList = (true, us)) (hw : forceVs (appL us (caps.map V.one)) = some ws) (pc : HCall P J f ws b r m (isX φ rv b' r' m'))
  (k : ∀ x, φ x → WL E P n ops l K ⟨updO t dst (rv x), b' x, r' x, m' x⟩) : WL E P n ops (⟨dst, .call ⟨.value fo, args, ats⟩, ty, pos, after, none⟩ :: l) K ⟨t, b, r, m⟩ :=
 S.hcall hu hc ha hw pc (fun _ _ _ _ ⟨x, hx, h1, h2, h3, h4⟩ => by rw [h1, h2, h3, h4]; exact k x hx)
variable {α β : Type} {kind : TypeDesc} {enc : α → D} {val : α → Value} {same : α → α → Bool}
end
end
section
open Go Go.RowKit
section
variable {J : Inv} {k0 : Lens} {E : Env J k0} {P : Program} {T : TypeId → Option TI} {n : Nat} {t : Nat → V} {b : List (List C)} {r : List (Option RowO)} {m : List (List (DV × DV))} {ops : Array Oper} {l : List Oper}
  {K : St → Prop} {i : Nat} {ty : TypeId} {pos : String} {after : Array Edge}
theorem OpZ.rstore (hT : TabOk P T) {te : TypeId} {ti : TI} {x y : Operand} {ri ver kk fo : Nat} {v : V} {ds : List C} {dd : List D} {o : RowO} {xs' : List (List D)} {r' : List (Option RowO)} (hi : T te = some ti)
  (hx : opd n ⟨t, b, r, m⟩ x = (true, .one (.rptr ri ver kk fo))) (hy : opd n ⟨t, b, r, m⟩ y = (true, v)) (hv : cellsOfV v = some ds) (hd : allDs ds = some dd) (ho : rowAt ⟨t, b, r, m⟩ ri ver = some o)
  (hs : (Nat.beq ds.length ti.size && Nat.ble (fo + dd.length) o.sz) = true) (hxs : o.xs.set kk (putD (o.xs.getD kk []) fo dd) = xs') (hr : forceL (r.set ri (some ⟨o.al, o.ver, o.sz, o.ty, xs'⟩)) = some r')
  (k : K ⟨t, b, r', m⟩) : OpZ E P n ops (⟨none, .store te x y, ty, pos, after, none⟩ : Oper) K ⟨t, b, r, m⟩ := by
 have hm : (⟨none, .store te x y, ty, pos, after, none⟩ : Oper).op.operands.toList = [x, y] := by simp [Op.operands]
 refine ⟨fun v1 b1 r1 m1 => b1 = b ∧ r1 = r' ∧ m1 = m, fun t' ht => ?_, fun v1 b1 r1 m1 ⟨e1, e2, e3⟩ => by subst e1; subst e2; subst e3; exact k⟩
 have h1 := looks_opd (r := r) (m := m) (b := b) (b1 := b) (n := n) (x := x) (o := ⟨none, .store te x y, ty, pos, after, none⟩) (by rw [hm]; simp) ht
 have h2 := looks_opd (r := r) (m := m) (b := b) (b1 := b) (n := n) (x := y) (o := ⟨none, .store te x y, ty, pos, after, none⟩) (by rw [hm]; simp) ht
 exact S.rstore (t := t') (l := []) (K := fun s1 => ∃ v b2 r2 m2, s1 = ⟨updO t' none v, b2, r2, m2⟩ ∧ (b2 = b ∧ r2 = r' ∧ m2 = m)) hT hi (h1.trans hx) (h2.trans hy) hv hd ho hs hxs hr ⟨.junk, b, r', m, rfl, rfl, rfl, rfl⟩
end
end
end Go.Proofs.YtpelfildfidnbaaGreatDoor
namespace Go.Proofs.YtpelfildfidnbaaGreatDoor
section
open Go Go.RowKit
def evF (T : TypeId → Option TI) (n : Nat) (s : St) (op : Op) : Option V :=
 match evP T n s op with
 | some (true, v) => forceV v
 | _ => none
theorem evF_ok {T : TypeId → Option TI} {n : Nat} {s : St} {op : Op} {v : V} (h : evF T n s op = some v) : ∃ v0, evP T n s op = some (true, v0) ∧ forceV v0 = some v := by
 unfold evF at h
 split at h
 ·skip
  exact ⟨_, ‹_›, h⟩
 ·skip
  cases h
theorem HCall.fd {J : Inv} {P : Program} {f : FuncId} {args : List V} {b B : List (List C)} {r R : List (Option RowO)} {m M : List (List (DV × DV))} {rv Rv : V} {b' B' : List (List C)} {r' R' : List (Option RowO)} {m' M' : List (List (DV × DV))} (pc : HCall P J f args b r m (isH rv b' r' m')) (ρb ρr ρm : List Nat) {Args : List V}
  (h : (renVs (renOf ρb ρr ρm B.length R.length M.length) args, pickL B ρb, pickL R ρr, pickL M ρm, ((nodupB ρb && (nodupB ρr && nodupB ρm)) && ((allLt ρb B.length && (allLt ρr R.length && allLt ρm M.length)) && (loVs b.length r.length m.length args && loB b.length r.length m.length b))),
   renV (renOf ρb ρr ρm B.length R.length M.length) rv, putL B ρb (renB (renOf ρb ρr ρm B.length R.length M.length) b'), putL R ρr r', putL M ρm m') = (Args, some (renB (renOf ρb ρr ρm B.length R.length M.length) b), some r, some m, true, Rv, B', R', M')) :
  HCall P J f Args B R M (isH Rv B' R' M') := by
 simp only [Prod.mk.injEq] at h
 obtain ⟨h1, h2, h3, h4, h5, h6, h7, h8, h9⟩ := h
 exact pc.frameD ρb ρr ρm h1 h2 h3 h4 h5 h6 h7 h8 h9
section
variable {J : Inv} {k0 : Lens} {E : Env J k0} {n : Nat} {t : Nat → V} {b : List (List C)} {r : List (Option RowO)} {m : List (List (DV × DV))} {ops : Array Oper} {l : List Oper}
  {K : St → Prop} {i j : Nat} {ty : TypeId} {pos : String} {after : Array Edge} {op : Op} {v : V} {c want : Bool}
theorem Yp (h : evF T n ⟨t, b, r, m⟩ op = some v) (k : WL E Tryz.prog n ops l K ⟨upd t i v, b, r, m⟩) : WL E Tryz.prog n ops (⟨some i, op, ty, pos, after, none⟩ :: l) K ⟨t, b, r, m⟩ := by
 obtain ⟨v0, h1, h2⟩ := evF_ok h
 exact S.pure tOk zOk h1 rfl h2 k
theorem Yg (hg : guardV n ops t j want = some c) (h : evF T n ⟨bare t, b, r, m⟩ op = some v) (ht : allT c (tagsO t op.operands.toList)) (k : WL E Tryz.prog n ops l K ⟨upd t i (.when c v), b, r, m⟩) :
  WL E Tryz.prog n ops (⟨some i, op, ty, pos, after, some (j, want)⟩ :: l) K ⟨t, b, r, m⟩ := by
 obtain ⟨v0, h1, h2⟩ := evF_ok h
 exact S.pureG tOk zOk hg h1 ht (fun _ => rfl) h2 k
theorem Ym (hcl : Nat.blt (cls op) 2 = true) (h : evF T n ⟨t, b, r, m⟩ op = some v) (k : WD E Tryz.prog n ops l K ⟨upd t i v, b, r, m⟩) : WD E Tryz.prog n ops (⟨some i, op, ty, pos, after, none⟩ :: l) K ⟨t, b, r, m⟩ := by
 obtain ⟨v0, h1, h2⟩ := evF_ok h
 exact D.pure tOk zOk hcl h1 rfl h2 k
theorem Yy (hcl : Nat.blt (cls op) 2 = true) (hg : guardV n ops t j want = some c) (h : evF T n ⟨bare t, b, r, m⟩ op = some v) (ht : allT c (tagsO t op.operands.toList)) (k : WD E Tryz.prog n ops l K ⟨upd t i (.when c v), b, r, m⟩) :
  WD E Tryz.prog n ops (⟨some i, op, ty, pos, after, some (j, want)⟩ :: l) K ⟨t, b, r, m⟩ := by
 obtain ⟨v0, h1, h2⟩ := evF_ok h
 exact D.pureG tOk zOk hcl hg h1 ht (fun _ => rfl) h2 k
theorem YP {ok : Bool} {v0 : V} (he : evP T n ⟨t, b, r, m⟩ op = some (ok, v0)) (hok : ok = true) (hf : forceV v0 = some v) (k : WL E Tryz.prog n ops l K ⟨upd t i v, b, r, m⟩) :
  WL E Tryz.prog n ops (⟨some i, op, ty, pos, after, none⟩ :: l) K ⟨t, b, r, m⟩ := S.pure tOk zOk he hok hf k
theorem YG {ok : Bool} {v0 : V} (hg : guardV n ops t j want = some c) (he : evP T n ⟨bare t, b, r, m⟩ op = some (ok, v0)) (ht : allT c (tagsO t op.operands.toList)) (hok : c = true → ok = true) (hf : forceV v0 = some v)
  (k : WL E Tryz.prog n ops l K ⟨upd t i (.when c v), b, r, m⟩) : WL E Tryz.prog n ops (⟨some i, op, ty, pos, after, some (j, want)⟩ :: l) K ⟨t, b, r, m⟩ := S.pureG tOk zOk hg he ht hok hf k
theorem YE {ok : Bool} {v0 v1 : V} (he : evP T n ⟨t, b, r, m⟩ op = some (ok, v0)) (hok : ok = true) (hv : v0 = v1) (hf : forceV v1 = some v) (k : WL E Tryz.prog n ops l K ⟨upd t i v, b, r, m⟩) :
  WL E Tryz.prog n ops (⟨some i, op, ty, pos, after, none⟩ :: l) K ⟨t, b, r, m⟩ := S.pureE tOk zOk he hok hv hf k
end
section
variable {J : Inv} {k0 : Lens} {E : Env J k0} {n : Nat} {K : Ex → St → Prop} {N : St → Prop} {s : St} {id : Nat} {x y : Code} {P : Program}
theorem Yn (h : N s) : thenK N K .normal s := h
theorem Yu (h : K .ret s) : thenK N K .ret s := h
theorem Ye (h : K (.exit id) s) : thenK N K (.exit id) s := h
theorem Yw (h : K .normal s) : blockK id K .normal s := h
theorem Yv (h : K .ret s) : blockK id K .ret s := h
theorem Yx (h : K .normal s) : blockK id K (.exit id) s := blockK_x h
theorem Ys (h : W E P n x (thenK (W E P n y K) K) s) : W E P n (.seq x y) K s := W.seq h
theorem Yr {l : List Oper} (h : WL E P n l.toArray l (K .normal) s) : W E P n (.region id l.toArray false) K s := W.region h
theorem Y1 {l : List Oper} (h : WL E P n l.toArray l (thenK (W E P n y K) K .normal) s) : W E P n (.seq (.region id l.toArray false) y) K s := W.seq (W.region h)
theorem Y3 {l : List Oper} {K' : Ex → St → Prop} (h : WL E P n l.toArray l (thenK (W E P n y K) K .normal) s) : thenK (W E P n (.seq (.region id l.toArray false) y) K) K' .normal s := thenK_n (W.seq (W.region h))
theorem Y4 {l : List Oper} {K' : Ex → St → Prop} (h : WL E P n l.toArray l (K .normal) s) : thenK (W E P n (.region id l.toArray false) K) K' .normal s := thenK_n (W.region h)
theorem Yt (h : K .ret s) : W E P n .ret K s := W.ret h
theorem Yb (h : W E P n x (blockK id K) s) : W E P n (.block id x) K s := W.block h
theorem Yk (h : K .normal s) : W E P n .skip K s := W.skip h
theorem Yq (h : K (.exit id) s) : W E P n (.exit id) K s := W.exit h
theorem Yz {fn : Func} {vs : List V} {v r : V} (h1 : resAll T fn.ntmps s fn.results.toList = some vs) (h2 : Go.Proofs.YtpelfildfidnbaaGreatDoor.pureR (resV vs) = true) (h3 : forceV (resV vs) = some v) (h : v = r) :
  ∃ vs, resAll T fn.ntmps s fn.results.toList = some vs ∧ Go.Proofs.YtpelfildfidnbaaGreatDoor.pureR (resV vs) = true ∧ LeV (resV vs) r := ⟨vs, h1, h2, LeV.of_force h3 h⟩
end
end
end Go.Proofs.YtpelfildfidnbaaGreatDoor
namespace Go.Proofs
open Go.Shelf
def Tryz.lays160_ren : Go.Shelf.Ren := ⟨fun | 160 => 122 | 232 => 181 | 231 => 180 | 227 => 182 | 234 => 184 | 233 => 183 | 236 => 186 | 235 => 185 | 228 => 233 | 271 => 235 | 151 => 234 | 197 => 231 | 120 => 268 | 152 => 267 | 260 => 266 | 137 => 187 | 119 => 296 | 224 => 212 | 225 => 211 | 217 => 210 | 266 => 250 | n => n, fun | 9 => 9 | 4 => 4 | 3 => 3 | 5 => 5 | 117 => 237 | 116 => 236 | 0 => 0 | 124 => 240 | 21 => 21 | 105 => 277 | 46 => 122 | 119 => 337 | 139 => 340 | 138 => 339 | n => n, fun | 3 => 3 | 4 => 4 | n => n⟩
theorem Tryz.lays160 : Go.Proofs.Lays.n160 Tryz.prog Tryz.lays160_ren := {
 mixed := by kernel_rfl
 f119 := Tryz.func296.trans (congrArg some (by kernel_rfl))
 f120 := Tryz.func268.trans (congrArg some (by kernel_rfl))
 f137 := Tryz.func187.trans (congrArg some (by kernel_rfl))
 f151 := Tryz.func234.trans (congrArg some (by kernel_rfl))
 f152 := Tryz.func267.trans (congrArg some (by kernel_rfl))
 f160 := Tryz.func122.trans (congrArg some (by kernel_rfl))
 f197 := Tryz.func231.trans (congrArg some (by kernel_rfl))
 f217 := Tryz.func210.trans (congrArg some (by kernel_rfl))
 f224 := Tryz.func212.trans (congrArg some (by kernel_rfl))
 f225 := Tryz.func211.trans (congrArg some (by kernel_rfl))
 f227 := Tryz.func182.trans (congrArg some (by kernel_rfl))
 f228 := Tryz.func233.trans (congrArg some (by kernel_rfl))
 f231 := Tryz.func180.trans (congrArg some (by kernel_rfl))
 f232 := Tryz.func181.trans (congrArg some (by kernel_rfl))
 f233 := Tryz.func183.trans (congrArg some (by kernel_rfl))
 f234 := Tryz.func184.trans (congrArg some (by kernel_rfl))
 f235 := Tryz.func185.trans (congrArg some (by kernel_rfl))
 f236 := Tryz.func186.trans (congrArg some (by kernel_rfl))
 f260 := Tryz.func266.trans (congrArg some (by kernel_rfl))
 f266 := Tryz.func250.trans (congrArg some (by kernel_rfl))
 f271 := Tryz.func235.trans (congrArg some (by kernel_rfl))
 t0 := Tryz.underlying0
 a0 := Tryz.isAgg0
 z0 := Tryz.sizeOf0
 v0 := Tryz.zeroValue0
 t3 := Tryz.underlying3
 a3 := Tryz.isAgg3
 z3 := Tryz.sizeOf3
 v3 := Tryz.zeroValue3
 t4 := Tryz.underlying4
 a4 := Tryz.isAgg4
 z4 := Tryz.sizeOf4
 v4 := Tryz.zeroValue4
 t5 := Tryz.underlying5
 a5 := Tryz.isAgg5
 z5 := Tryz.sizeOf5
 v5 := Tryz.zeroValue5
 t9 := Tryz.underlying9
 a9 := Tryz.isAgg9
 z9 := Tryz.sizeOf9
 v9 := Tryz.zeroValue9
 t21 := Tryz.underlying21
 a21 := Tryz.isAgg21
 z21 := Tryz.sizeOf21
 v21 := Tryz.zeroValue21
 t46 := Tryz.underlying122
 a46 := Tryz.isAgg122
 z46 := Tryz.sizeOf122
 v46 := Tryz.zeroValue122
 t105 := Tryz.underlying277
 a105 := Tryz.isAgg277
 z105 := Tryz.sizeOf277
 v105 := Tryz.zeroValue277
 t116 := Tryz.underlying236
 a116 := Tryz.isAgg236
 z116 := Tryz.sizeOf236
 t117 := Tryz.underlying237
 a117 := Tryz.isAgg237
 z117 := Tryz.sizeOf237
 v117 := Tryz.zeroValue237
 t119 := Tryz.underlying337
 a119 := Tryz.isAgg337
 z119 := Tryz.sizeOf337
 t124 := Tryz.underlying240
 a124 := Tryz.isAgg240
 z124 := Tryz.sizeOf240
 v124 := Tryz.zeroValue240
 t138 := Tryz.underlying339
 a138 := Tryz.isAgg339
 z138 := Tryz.sizeOf339
 v138 := Tryz.zeroValue339
 t139 := Tryz.underlying340
 a139 := Tryz.isAgg340
 z139 := Tryz.sizeOf340
 v139 := Tryz.zeroValue340
 g3 := by kernel_rfl
 g4 := by kernel_rfl }
def Tryz.lays106_ren : Go.Shelf.Ren := ⟨fun | 106 => 23 | 213 => 66 | 265 => 119 | n => n, fun | 9 => 9 | 3 => 3 | n => n, fun | n => n⟩
theorem Tryz.lays106 : Go.Proofs.Lays.n106 Tryz.prog Tryz.lays106_ren := {
 mixed := by kernel_rfl
 f106 := Tryz.func23.trans (congrArg some (by kernel_rfl))
 f213 := Tryz.func66.trans (congrArg some (by kernel_rfl))
 f265 := Tryz.func119.trans (congrArg some (by kernel_rfl))
 t3 := Tryz.underlying3
 a3 := Tryz.isAgg3
 z3 := Tryz.sizeOf3
 v3 := Tryz.zeroValue3
 t9 := Tryz.underlying9
 a9 := Tryz.isAgg9
 z9 := Tryz.sizeOf9
 v9 := Tryz.zeroValue9 }
open Go.RowKit in
theorem Tryz.strings_Compare (a b : ByteArray) (w : World) :
  Calls Tryz.prog 23 #[.string a, .string b] w fun e w' => e = .returned (.int .i64 (Lib.compareBytes a.data.toList b.data.toList)) ∧ w' = w := Any.strings_Compare Tryz.lays106 a b w
def Tryz.lays137_ren : Go.Shelf.Ren := ⟨fun | 137 => 187 | 217 => 210 | 266 => 250 | n => n, fun | 9 => 9 | 5 => 5 | 3 => 3 | n => n, fun | n => n⟩
theorem Tryz.lays137 : Go.Proofs.Lays.n137 Tryz.prog Tryz.lays137_ren := {
 mixed := by kernel_rfl
 f137 := Tryz.func187.trans (congrArg some (by kernel_rfl))
 f217 := Tryz.func210.trans (congrArg some (by kernel_rfl))
 f266 := Tryz.func250.trans (congrArg some (by kernel_rfl))
 t3 := Tryz.underlying3
 a3 := Tryz.isAgg3
 z3 := Tryz.sizeOf3
 v3 := Tryz.zeroValue3
 t5 := Tryz.underlying5
 a5 := Tryz.isAgg5
 z5 := Tryz.sizeOf5
 v5 := Tryz.zeroValue5
 t9 := Tryz.underlying9
 a9 := Tryz.isAgg9
 z9 := Tryz.sizeOf9
 v9 := Tryz.zeroValue9 }
open Go.RowKit in
theorem Tryz.strings_IndexByte (s : ByteArray) (c : Int) (w : World) :
  Calls Tryz.prog 187 #[.string s, .int .u8 c] w fun e w' => e = .returned (.int .i64 (Lib.indexByte s.data.toList c.toNat.toUInt8)) ∧ w' = w := Any.strings_IndexByte Tryz.lays137 s c w
def Tryz.lays103_ren : Go.Shelf.Ren := ⟨fun | 103 => 249 | 210 => 289 | 206 => 154 | n => n, fun | 9 => 9 | 4 => 4 | 24 => 114 | 3 => 3 | n => n, fun | n => n⟩
theorem Tryz.lays103 : Go.Proofs.Lays.n103 Tryz.prog Tryz.lays103_ren := {
 mixed := by kernel_rfl
 f103 := Tryz.func249.trans (congrArg some (by kernel_rfl))
 f206 := Tryz.func154.trans (congrArg some (by kernel_rfl))
 f210 := Tryz.func289.trans (congrArg some (by kernel_rfl))
 t3 := Tryz.underlying3
 a3 := Tryz.isAgg3
 z3 := Tryz.sizeOf3
 v3 := Tryz.zeroValue3
 t4 := Tryz.underlying4
 a4 := Tryz.isAgg4
 z4 := Tryz.sizeOf4
 v4 := Tryz.zeroValue4
 t9 := Tryz.underlying9
 a9 := Tryz.isAgg9
 z9 := Tryz.sizeOf9
 v9 := Tryz.zeroValue9
 t24 := Tryz.underlying114
 a24 := Tryz.isAgg114
 z24 := Tryz.sizeOf114
 v24 := Tryz.zeroValue114 }
open Go.RowKit in
theorem Tryz.strings_CutPrefix (s p : ByteArray) (w : World) :
  Calls Tryz.prog 249 #[.string s, .string p] w fun e w' => e = .returned (.tuple #[.string ⟨(Lib.trimPrefix s.data.toList p.data.toList).toArray⟩, .bool (Lib.hasPrefix s.data.toList p.data.toList)]) ∧ w' = w := Any.strings_CutPrefix Tryz.lays103 s p w
def Tryz.lays122_ren : Go.Shelf.Ren := ⟨fun | 122 => 68 | 215 => 120 | n => n, fun | 3 => 3 | 4 => 4 | n => n, fun | n => n⟩
theorem Tryz.lays122 : Go.Proofs.Lays.n122 Tryz.prog Tryz.lays122_ren := {
 mixed := by kernel_rfl
 f122 := Tryz.func68.trans (congrArg some (by kernel_rfl))
 f215 := Tryz.func120.trans (congrArg some (by kernel_rfl))
 t3 := Tryz.underlying3
 a3 := Tryz.isAgg3
 z3 := Tryz.sizeOf3
 v3 := Tryz.zeroValue3
 t4 := Tryz.underlying4
 a4 := Tryz.isAgg4
 z4 := Tryz.sizeOf4
 v4 := Tryz.zeroValue4 }
open Go.RowKit in
theorem Tryz.cmp_Compare_int (x y : Int) (w : World) :
  Calls Tryz.prog 68 #[.int .i64 x, .int .i64 y] w fun e w' => e = .returned (.int .i64 (Lib.compareInt x y)) ∧ w' = w := Any.cmp_Compare_int Tryz.lays122 x y w
def Tryz.laysC172_ren : Go.Shelf.Ren := ⟨fun | 172 => 71 | 244 => 124 | 245 => 125 | 247 => 188 | 279 => 189 | 280 => 190 | 281 => 191 | 282 => 192 | 287 => 236 | 316 => 237 | 171 => 239 | 205 => 238 | 321 => 269 | 322 => 270 | 243 => 271 | 246 => 297 | 283 => 314 | 284 => 315 | 285 => 316 | 286 => 317 | 129 => 288 | 317 => 324 | 318 => 325 | 319 => 326 | 320 => 327 | 337 => 330 | 338 => 331 | n => n, fun | 9 => 9 | 3 => 3 | 75 => 128 | 76 => 129 | 4 => 4 | 5 => 5 | 167 => 242 | 37 => 210 | 0 => 0 | 85 => 243 | 2 => 2 | 168 => 245 | 53 => 280 | 175 => 281 | 46 => 122 | 210 => 284 | 127 => 309 | 145 => 312 | 143 => 310 | 21 => 21 | 171 => 357 | 173 => 359 | 212 => 367 | 51 => 294 | 20 => 20 | 213 => 368 | 232 => 372 | 233 => 373 | 80 => 347 | n => n, fun | 15 => 1 | 16 => 2 | 17 => 5 | 18 => 6 | 19 => 7 | n => n⟩
theorem Tryz.laysC172 : Go.Proofs.LaysC.n172 Tryz.prog Tryz.laysC172_ren := {
 mixed := by kernel_rfl
 f129 := Tryz.func288.trans (congrArg some (by kernel_rfl))
 f171 := Tryz.func239.trans (congrArg some (by kernel_rfl))
 f172 := Tryz.func71.trans (congrArg some (by kernel_rfl))
 f205 := Tryz.func238.trans (congrArg some (by kernel_rfl))
 f243 := Tryz.func271.trans (congrArg some (by kernel_rfl))
 f244 := Tryz.func124.trans (congrArg some (by kernel_rfl))
 f245 := Tryz.func125.trans (congrArg some (by kernel_rfl))
 f246 := Tryz.func297.trans (congrArg some (by kernel_rfl))
 f247 := Tryz.func188.trans (congrArg some (by kernel_rfl))
 f279 := Tryz.func189.trans (congrArg some (by kernel_rfl))
 f280 := Tryz.func190.trans (congrArg some (by kernel_rfl))
 f281 := Tryz.func191.trans (congrArg some (by kernel_rfl))
 f282 := Tryz.func192.trans (congrArg some (by kernel_rfl))
 f283 := Tryz.func314.trans (congrArg some (by kernel_rfl))
 f284 := Tryz.func315.trans (congrArg some (by kernel_rfl))
 f285 := Tryz.func316.trans (congrArg some (by kernel_rfl))
 f286 := Tryz.func317.trans (congrArg some (by kernel_rfl))
 f287 := Tryz.func236.trans (congrArg some (by kernel_rfl))
 f316 := Tryz.func237.trans (congrArg some (by kernel_rfl))
 f317 := Tryz.func324.trans (congrArg some (by kernel_rfl))
 f318 := Tryz.func325.trans (congrArg some (by kernel_rfl))
 f319 := Tryz.func326.trans (congrArg some (by kernel_rfl))
 f320 := Tryz.func327.trans (congrArg some (by kernel_rfl))
 f321 := Tryz.func269.trans (congrArg some (by kernel_rfl))
 f322 := Tryz.func270.trans (congrArg some (by kernel_rfl))
 f337 := Tryz.func330.trans (congrArg some (by kernel_rfl))
 f338 := Tryz.func331.trans (congrArg some (by kernel_rfl))
 t0 := Tryz.underlying0
 a0 := Tryz.isAgg0
 z0 := Tryz.sizeOf0
 v0 := Tryz.zeroValue0
 t2 := Tryz.underlying2
 a2 := Tryz.isAgg2
 z2 := Tryz.sizeOf2
 v2 := Tryz.zeroValue2
 t3 := Tryz.underlying3
 a3 := Tryz.isAgg3
 z3 := Tryz.sizeOf3
 v3 := Tryz.zeroValue3
 t4 := Tryz.underlying4
 a4 := Tryz.isAgg4
 z4 := Tryz.sizeOf4
 v4 := Tryz.zeroValue4
 t5 := Tryz.underlying5
 a5 := Tryz.isAgg5
 z5 := Tryz.sizeOf5
 v5 := Tryz.zeroValue5
 t9 := Tryz.underlying9
 a9 := Tryz.isAgg9
 z9 := Tryz.sizeOf9
 v9 := Tryz.zeroValue9
 t20 := Tryz.underlying20
 a20 := Tryz.isAgg20
 z20 := Tryz.sizeOf20
 v20 := Tryz.zeroValue20
 t21 := Tryz.underlying21
 a21 := Tryz.isAgg21
 z21 := Tryz.sizeOf21
 v21 := Tryz.zeroValue21
 t37 := Tryz.underlying210
 a37 := Tryz.isAgg210
 z37 := Tryz.sizeOf210
 v37 := Tryz.zeroValue210
 t46 := Tryz.underlying122
 a46 := Tryz.isAgg122
 z46 := Tryz.sizeOf122
 v46 := Tryz.zeroValue122
 t51 := Tryz.underlying294
 a51 := Tryz.isAgg294
 z51 := Tryz.sizeOf294
 v51 := Tryz.zeroValue294
 t53 := Tryz.underlying280
 a53 := Tryz.isAgg280
 z53 := Tryz.sizeOf280
 v53 := Tryz.zeroValue280
 t75 := Tryz.underlying128
 a75 := Tryz.isAgg128
 z75 := Tryz.sizeOf128
 v75 := Tryz.zeroValue128
 t76 := Tryz.underlying129
 a76 := Tryz.isAgg129
 z76 := Tryz.sizeOf129
 v76 := Tryz.zeroValue129
 t85 := Tryz.underlying243
 a85 := Tryz.isAgg243
 z85 := Tryz.sizeOf243
 v85 := Tryz.zeroValue243
 t127 := Tryz.underlying309
 a127 := Tryz.isAgg309
 z127 := Tryz.sizeOf309
 v127 := Tryz.zeroValue309
 t143 := Tryz.underlying310
 a143 := Tryz.isAgg310
 z143 := Tryz.sizeOf310
 v143 := Tryz.zeroValue310
 t145 := Tryz.underlying312
 a145 := Tryz.isAgg312
 z145 := Tryz.sizeOf312
 v145 := Tryz.zeroValue312
 t167 := Tryz.underlying242
 a167 := Tryz.isAgg242
 z167 := Tryz.sizeOf242
 v167 := Tryz.zeroValue242
 t168 := Tryz.underlying245
 a168 := Tryz.isAgg245
 z168 := Tryz.sizeOf245
 v168 := Tryz.zeroValue245
 t171 := Tryz.underlying357
 a171 := Tryz.isAgg357
 z171 := Tryz.sizeOf357
 v171 := Tryz.zeroValue357
 t173 := Tryz.underlying359
 a173 := Tryz.isAgg359
 z173 := Tryz.sizeOf359
 v173 := Tryz.zeroValue359
 t175 := Tryz.underlying281
 a175 := Tryz.isAgg281
 z175 := Tryz.sizeOf281
 v175 := Tryz.zeroValue281
 t210 := Tryz.underlying284
 a210 := Tryz.isAgg284
 z210 := Tryz.sizeOf284
 v210 := Tryz.zeroValue284
 t212 := Tryz.underlying367
 a212 := Tryz.isAgg367
 z212 := Tryz.sizeOf367
 v212 := Tryz.zeroValue367
 t213 := Tryz.underlying368
 a213 := Tryz.isAgg368
 z213 := Tryz.sizeOf368
 t232 := Tryz.underlying372
 a232 := Tryz.isAgg372
 z232 := Tryz.sizeOf372
 v232 := Tryz.zeroValue372
 t233 := Tryz.underlying373
 a233 := Tryz.isAgg373
 z233 := Tryz.sizeOf373
 v233 := Tryz.zeroValue373
 g15 := by kernel_rfl
 g16 := by kernel_rfl
 g17 := by kernel_rfl
 g18 := by kernel_rfl
 g19 := by kernel_rfl
 t80 := Tryz.underlying347
 a80 := Tryz.isAgg347
 z80 := Tryz.sizeOf347
 v80 := Tryz.zeroValue347
 i0 := by kernel_rfl
 i2 := by kernel_rfl
 i3 := by kernel_rfl
 i4 := by kernel_rfl
 i5 := by kernel_rfl
 i9 := by kernel_rfl
 i20 := by kernel_rfl
 i21 := by kernel_rfl
 i37 := by kernel_rfl
 i46 := by kernel_rfl
 i51 := by kernel_rfl
 i53 := by kernel_rfl
 i75 := by kernel_rfl
 i76 := by kernel_rfl
 i80 := by kernel_rfl
 i85 := by kernel_rfl
 i127 := by kernel_rfl
 i143 := by kernel_rfl
 i145 := by kernel_rfl
 i167 := by kernel_rfl
 i168 := by kernel_rfl
 i171 := by kernel_rfl
 i173 := by kernel_rfl
 i175 := by kernel_rfl
 i210 := by kernel_rfl
 i212 := by kernel_rfl
 i232 := by kernel_rfl
 i233 := by kernel_rfl
 m15 := by kernel_rfl
 m16 := by kernel_rfl
 m17 := by kernel_rfl
 m18 := by kernel_rfl
 m19 := by kernel_rfl
 c0 := by kernel_rfl
 c2 := by kernel_rfl
 c3 := by kernel_rfl
 c4 := by kernel_rfl
 c5 := by kernel_rfl
 c9 := by kernel_rfl
 c20 := by kernel_rfl
 c21 := by kernel_rfl
 c37 := by kernel_rfl
 c46 := by kernel_rfl
 c51 := by kernel_rfl
 c53 := by kernel_rfl
 c75 := by kernel_rfl
 c76 := by kernel_rfl
 c80 := by kernel_rfl
 c85 := by kernel_rfl
 c127 := by kernel_rfl
 c143 := by kernel_rfl
 c145 := by kernel_rfl
 c167 := by kernel_rfl
 c168 := by kernel_rfl
 c171 := by kernel_rfl
 c173 := by kernel_rfl
 c175 := by kernel_rfl
 c210 := by kernel_rfl
 c212 := by kernel_rfl
 c213 := by kernel_rfl
 c232 := by kernel_rfl
 c233 := by kernel_rfl }
open Go.RowKit in
theorem Tryz.strconv_Atoi_ok (s : ByteArray) (hmax : s.size ≤ 9223372036854775806) (v : Int) (h : Lib.atoiAll s.data.toList = .ok v) (w : World) :
  Calls Tryz.prog 71 #[.string s] w fun e w' => e = .returned (.tuple #[.int .i64 v, .nilIface]) ∧ (w' = w ∨ ∃ t, w' = Lib.bytesWorld w 5 t) := Any.strconv_Atoi_ok Tryz.laysC172 s hmax v h w
open Go.RowKit in
theorem Tryz.strconv_Atoi_syntax_var (s : ByteArray) (hlim : s.size ≤ 281474976710656) (h : Lib.atoiAll s.data.toList = Lib.atoiAll []) (tp : TypeId) (p : Value) (w : World) (hvar : w.var? Tryz.prog "strconv.ErrSyntax" = some #[.iface tp p]) :
  Calls Tryz.prog 71 #[.string s] w fun e w' => ∃ N, e = .returned (.tuple #[.int .i64 0, .iface 245 (.pointer (some ⟨N, 0, none⟩))]) ∧ w.heap.size ≤ N ∧ w'.heap[N]? = some (.cells #[.string ⟨#[65, 116, 111, 105]⟩, .string s, .iface tp p] 284 (0, 0)) ∧ Below w.heap.size w w' := Any.strconv_Atoi_syntax_var Tryz.laysC172 s hlim h tp p w hvar
open Go.RowKit in
theorem Tryz.strconv_Atoi_range_var (s : ByteArray) (hlim : s.size ≤ 281474976710656) (h : Lib.atoiAll s.data.toList = .range) (tp : TypeId) (p : Value) (w : World) (hvar : w.var? Tryz.prog "strconv.ErrRange" = some #[.iface tp p]) :
  Calls Tryz.prog 71 #[.string s] w fun e w' => ∃ N, e = .returned (.tuple #[.int .i64 (Lib.atoiSat s.data.toList), .iface 245 (.pointer (some ⟨N, 0, none⟩))]) ∧ w.heap.size ≤ N ∧ w'.heap[N]? = some (.cells #[.string ⟨#[65, 116, 111, 105]⟩, .string s, .iface tp p] 284 (0, 0)) ∧ Below w.heap.size w w' := Any.strconv_Atoi_range_var Tryz.laysC172 s hlim h tp p w hvar
def Tryz.lays144_ren : Go.Shelf.Ren := ⟨fun | 144 => 101 | 143 => 153 | 219 => 157 | 217 => 210 | 225 => 211 | 224 => 212 | 267 => 213 | 266 => 250 | 314 => 251 | n => n, fun | 9 => 9 | 4 => 4 | 3 => 3 | 5 => 5 | 46 => 122 | 146 => 295 | 51 => 294 | n => n, fun | 1 => 0 | n => n⟩
theorem Tryz.lays144 : Go.Proofs.Lays.n144 Tryz.prog Tryz.lays144_ren := {
 mixed := by kernel_rfl
 f143 := Tryz.func153.trans (congrArg some (by kernel_rfl))
 f144 := Tryz.func101.trans (congrArg some (by kernel_rfl))
 f217 := Tryz.func210.trans (congrArg some (by kernel_rfl))
 f219 := Tryz.func157.trans (congrArg some (by kernel_rfl))
 f224 := Tryz.func212.trans (congrArg some (by kernel_rfl))
 f225 := Tryz.func211.trans (congrArg some (by kernel_rfl))
 f266 := Tryz.func250.trans (congrArg some (by kernel_rfl))
 f267 := Tryz.func213.trans (congrArg some (by kernel_rfl))
 f314 := Tryz.func251.trans (congrArg some (by kernel_rfl))
 t3 := Tryz.underlying3
 a3 := Tryz.isAgg3
 z3 := Tryz.sizeOf3
 v3 := Tryz.zeroValue3
 t4 := Tryz.underlying4
 a4 := Tryz.isAgg4
 z4 := Tryz.sizeOf4
 v4 := Tryz.zeroValue4
 t5 := Tryz.underlying5
 a5 := Tryz.isAgg5
 z5 := Tryz.sizeOf5
 v5 := Tryz.zeroValue5
 t9 := Tryz.underlying9
 a9 := Tryz.isAgg9
 z9 := Tryz.sizeOf9
 v9 := Tryz.zeroValue9
 t46 := Tryz.underlying122
 a46 := Tryz.isAgg122
 z46 := Tryz.sizeOf122
 v46 := Tryz.zeroValue122
 t51 := Tryz.underlying294
 a51 := Tryz.isAgg294
 z51 := Tryz.sizeOf294
 v51 := Tryz.zeroValue294
 t146 := Tryz.underlying295
 a146 := Tryz.isAgg295
 z146 := Tryz.sizeOf295
 v146 := Tryz.zeroValue295
 g1 := by kernel_rfl }
open Go.RowKit Go.Lib in
theorem Tryz.strings_Contains (s sub : ByteArray) (m : Int) (w : World) (hs : s.size < 4294967281) (hm : w.cell? ⟨0, 0, none⟩ = some (.int .i64 m)) :
  Calls Tryz.prog 101 #[.string s, .string sub] w fun e w' => e = .returned (.bool (Lib.contains s.data.toList sub.data.toList)) ∧ w' = w := Any.strings_Contains Tryz.lays144 s sub m w hs hm
def Tryz.lays145_ren : Go.Shelf.Ren := ⟨fun | 145 => 53 | 220 => 106 | 219 => 157 | 217 => 210 | 225 => 211 | 224 => 212 | 267 => 213 | 266 => 250 | 314 => 251 | n => n, fun | 9 => 9 | 4 => 4 | 59 => 110 | 3 => 3 | 5 => 5 | 46 => 122 | 146 => 295 | 51 => 294 | n => n, fun | 1 => 0 | n => n⟩
theorem Tryz.lays145 : Go.Proofs.Lays.n145 Tryz.prog Tryz.lays145_ren := {
 mixed := by kernel_rfl
 f145 := Tryz.func53.trans (congrArg some (by kernel_rfl))
 f217 := Tryz.func210.trans (congrArg some (by kernel_rfl))
 f219 := Tryz.func157.trans (congrArg some (by kernel_rfl))
 f220 := Tryz.func106.trans (congrArg some (by kernel_rfl))
 f224 := Tryz.func212.trans (congrArg some (by kernel_rfl))
 f225 := Tryz.func211.trans (congrArg some (by kernel_rfl))
 f266 := Tryz.func250.trans (congrArg some (by kernel_rfl))
 f267 := Tryz.func213.trans (congrArg some (by kernel_rfl))
 f314 := Tryz.func251.trans (congrArg some (by kernel_rfl))
 t3 := Tryz.underlying3
 a3 := Tryz.isAgg3
 z3 := Tryz.sizeOf3
 v3 := Tryz.zeroValue3
 t4 := Tryz.underlying4
 a4 := Tryz.isAgg4
 z4 := Tryz.sizeOf4
 v4 := Tryz.zeroValue4
 t5 := Tryz.underlying5
 a5 := Tryz.isAgg5
 z5 := Tryz.sizeOf5
 v5 := Tryz.zeroValue5
 t9 := Tryz.underlying9
 a9 := Tryz.isAgg9
 z9 := Tryz.sizeOf9
 v9 := Tryz.zeroValue9
 t46 := Tryz.underlying122
 a46 := Tryz.isAgg122
 z46 := Tryz.sizeOf122
 v46 := Tryz.zeroValue122
 t51 := Tryz.underlying294
 a51 := Tryz.isAgg294
 z51 := Tryz.sizeOf294
 v51 := Tryz.zeroValue294
 t59 := Tryz.underlying110
 a59 := Tryz.isAgg110
 z59 := Tryz.sizeOf110
 v59 := Tryz.zeroValue110
 t146 := Tryz.underlying295
 a146 := Tryz.isAgg295
 z146 := Tryz.sizeOf295
 v146 := Tryz.zeroValue295
 g1 := by kernel_rfl }
open Go.RowKit Go.Lib in
theorem Tryz.strings_Cut (s sep : ByteArray) (m : Int) (w : World) (hs : s.size < 4294967281) (hm : w.cell? ⟨0, 0, none⟩ = some (.int .i64 m)) :
  Calls Tryz.prog 53 #[.string s, .string sep] w fun e w' => e = .returned (.tuple #[.string ⟨(Lib.cut s.data.toList sep.data.toList).1.toArray⟩, .string ⟨(Lib.cut s.data.toList sep.data.toList).2.1.toArray⟩, .bool (Lib.cut s.data.toList sep.data.toList).2.2]) ∧ ∃ n, w' = w.drewN n := Any.strings_Cut Tryz.lays145 s sep m w hs hm
def Tryz.lays146_ren : Go.Shelf.Ren := ⟨fun | 146 => 69 | 221 => 121 | 268 => 178 | 138 => 179 | 143 => 153 | 195 => 230 | 197 => 231 | 218 => 232 | 219 => 157 | 260 => 266 | 217 => 210 | 225 => 211 | 224 => 212 | 267 => 213 | 266 => 250 | 314 => 251 | n => n, fun | 9 => 9 | 31 => 82 | 3 => 3 | 4 => 4 | 0 => 0 | 105 => 277 | 21 => 21 | 5 => 5 | 46 => 122 | 119 => 337 | 139 => 340 | 138 => 339 | 146 => 295 | 51 => 294 | n => n, fun | 1 => 0 | 3 => 3 | 4 => 4 | n => n⟩
theorem Tryz.lays146 : Go.Proofs.Lays.n146 Tryz.prog Tryz.lays146_ren := {
 mixed := by kernel_rfl
 f138 := Tryz.func179.trans (congrArg some (by kernel_rfl))
 f143 := Tryz.func153.trans (congrArg some (by kernel_rfl))
 f146 := Tryz.func69.trans (congrArg some (by kernel_rfl))
 f195 := Tryz.func230.trans (congrArg some (by kernel_rfl))
 f197 := Tryz.func231.trans (congrArg some (by kernel_rfl))
 f217 := Tryz.func210.trans (congrArg some (by kernel_rfl))
 f218 := Tryz.func232.trans (congrArg some (by kernel_rfl))
 f219 := Tryz.func157.trans (congrArg some (by kernel_rfl))
 f221 := Tryz.func121.trans (congrArg some (by kernel_rfl))
 f224 := Tryz.func212.trans (congrArg some (by kernel_rfl))
 f225 := Tryz.func211.trans (congrArg some (by kernel_rfl))
 f260 := Tryz.func266.trans (congrArg some (by kernel_rfl))
 f266 := Tryz.func250.trans (congrArg some (by kernel_rfl))
 f267 := Tryz.func213.trans (congrArg some (by kernel_rfl))
 f268 := Tryz.func178.trans (congrArg some (by kernel_rfl))
 f314 := Tryz.func251.trans (congrArg some (by kernel_rfl))
 t0 := Tryz.underlying0
 a0 := Tryz.isAgg0
 z0 := Tryz.sizeOf0
 v0 := Tryz.zeroValue0
 t3 := Tryz.underlying3
 a3 := Tryz.isAgg3
 z3 := Tryz.sizeOf3
 v3 := Tryz.zeroValue3
 t4 := Tryz.underlying4
 a4 := Tryz.isAgg4
 z4 := Tryz.sizeOf4
 v4 := Tryz.zeroValue4
 t5 := Tryz.underlying5
 a5 := Tryz.isAgg5
 z5 := Tryz.sizeOf5
 v5 := Tryz.zeroValue5
 t9 := Tryz.underlying9
 a9 := Tryz.isAgg9
 z9 := Tryz.sizeOf9
 v9 := Tryz.zeroValue9
 t21 := Tryz.underlying21
 a21 := Tryz.isAgg21
 z21 := Tryz.sizeOf21
 v21 := Tryz.zeroValue21
 t31 := Tryz.underlying82
 a31 := Tryz.isAgg82
 z31 := Tryz.sizeOf82
 v31 := Tryz.zeroValue82
 t46 := Tryz.underlying122
 a46 := Tryz.isAgg122
 z46 := Tryz.sizeOf122
 v46 := Tryz.zeroValue122
 t51 := Tryz.underlying294
 a51 := Tryz.isAgg294
 z51 := Tryz.sizeOf294
 v51 := Tryz.zeroValue294
 t105 := Tryz.underlying277
 a105 := Tryz.isAgg277
 z105 := Tryz.sizeOf277
 v105 := Tryz.zeroValue277
 t119 := Tryz.underlying337
 a119 := Tryz.isAgg337
 z119 := Tryz.sizeOf337
 t138 := Tryz.underlying339
 a138 := Tryz.isAgg339
 z138 := Tryz.sizeOf339
 v138 := Tryz.zeroValue339
 t139 := Tryz.underlying340
 a139 := Tryz.isAgg340
 z139 := Tryz.sizeOf340
 v139 := Tryz.zeroValue340
 t146 := Tryz.underlying295
 a146 := Tryz.isAgg295
 z146 := Tryz.sizeOf295
 v146 := Tryz.zeroValue295
 g1 := by kernel_rfl
 g3 := by kernel_rfl
 g4 := by kernel_rfl }
open Go.RowKit Go.Lib in
theorem Tryz.strings_Split (s sep : ByteArray) (m : Int) (w : World) (hs : s.size < 4294967281) (hm : w.cell? ⟨0, 0, none⟩ = some (.int .i64 m)) (h1 : 1 ≤ sep.size) :
  Calls Tryz.prog 69 #[.string s, .string sep] w fun e w' =>
   e = .returned (.slice (some ⟨w.heap.size, 0, none⟩) (Lib.countB s sep + 1) (Lib.countB s sep + 1)) ∧ w' = w.alloc (.cells ((Lib.splitB sep 0 (Lib.countB s sep) s).map Value.string).toArray 9) := Any.strings_Split Tryz.lays146 (by kernel_rfl) s sep m w hs hm h1
end Go.Proofs
namespace Go.Proofs.YtpelfildfidnbaaGreatDoor
section
theorem all_take_succ {α : Type} {φ : α → Bool} {s : List α} {d : α} {i : Nat} (hi : i < s.length) (h : (s.take i).all φ = true) (hc : φ (s.getD i d) = true) : (s.take (i + 1)).all φ = true := by
 rw [List.take_add_one, List.all_append, h]
 rw [List.getD_eq_getElem?_getD, List.getElem?_eq_getElem hi] at hc
 simp only [List.getElem?_eq_getElem hi, Option.toList_some, List.all_cons, List.all_nil, Bool.and_true, Bool.true_and]
 simpa using hc
theorem all_false_of {α : Type} {φ : α → Bool} {s : List α} {d : α} {i : Nat} (hi : i < s.length) (hc : φ (s.getD i d) = false) : s.all φ = false := by
 rw [List.getD_eq_getElem?_getD, List.getElem?_eq_getElem hi] at hc
 rw [← Bool.not_eq_true, List.all_eq_true]
 intro h
 have := h s[i] (List.getElem_mem hi)
 simp at hc
 rw [hc] at this
 cases this
theorem all_of_take {α : Type} {φ : α → Bool} {s : List α} {i : Nat} (hi : s.length ≤ i) (h : (s.take i).all φ = true) : s.all φ = true := by
 rwa [List.take_of_length_le hi] at h
theorem countFrom_le (sub : List UInt8) : ∀ (f : Nat) (s : List UInt8), Go.Lib.countFrom sub f s ≤ f
  | 0, _ => Nat.le_refl _
  | f + 1, s => by
    unfold Go.Lib.countFrom
    split
    · omega
    · have := countFrom_le sub f (s.drop ((Go.Lib.index s sub).toNat + sub.length)); omega
theorem splitK_le (sep : List UInt8) (save : Nat) : ∀ (k : Nat) (s : List UInt8), (Go.Lib.splitK sep save k s).length ≤ k + 1
  | 0, _ => by simp [Go.Lib.splitK]
  | k + 1, s => by
    unfold Go.Lib.splitK
    split
    · simp
    · have := splitK_le sep save k (s.drop ((Go.Lib.index s sep).toNat + sep.length)); simp; omega
theorem split_le (s sep : List UInt8) : (Go.Lib.split s sep).length ≤ s.length + 2 := by
 have h1 := splitK_le sep 0 (Go.Lib.count s sep) s
 have h2 := countFrom_le sep (s.length + 1) s
 unfold Go.Lib.count at h1
 unfold Go.Lib.split Go.Lib.count
 omega
theorem splitK_mem (sep : List UInt8) : ∀ (k : Nat) (s x : List UInt8), x ∈ Go.Lib.splitK sep 0 k s → x.length ≤ s.length
  | 0, s, x, h => by simp [Go.Lib.splitK] at h; rw [h]; exact Nat.le_refl _
  | k + 1, s, x, h => by
    unfold Go.Lib.splitK at h
    split at h
    · simp at h; rw [h]; exact Nat.le_refl _
    · rcases List.mem_cons.1 h with rfl | h
      · simp; omega
      · have := splitK_mem sep k _ x h; simp at this; omega
theorem split_mem {s sep x : List UInt8} (h : x ∈ Go.Lib.split s sep) : x.length ≤ s.length := splitK_mem sep _ s x h
theorem split_at {s sep : List UInt8} {i : Nat} : ((Go.Lib.split s sep).getD i []).length ≤ s.length := by
 rw [List.getD_eq_getElem?_getD]
 cases h : (Go.Lib.split s sep)[i]? with
 | none => simp
 | some x => exact split_mem (List.mem_of_getElem? h)
def atoiV (s : List UInt8) : Int := match Go.Lib.atoiAll s with
 | .ok v => v
 | .range => Go.Lib.atoiSat s
 | _ => 0
def atoiOk (s : List UInt8) : Bool := match Go.Lib.atoiAll s with
 | .ok _ => true
 | _ => false
def firstNe (l : List Int) : Int := (l.find? (· != 0)).getD 0
theorem firstNe_hit {l : List Int} {i : Nat} (hi : i < l.length) (h : (l.take i).all (· == 0) = true) (hc : l.getD i 0 ≠ 0) : firstNe l = l.getD i 0 := by
 induction l generalizing i with
 | nil => simp at hi
 | cons a l ih =>
  unfold firstNe
  cases i with
  | zero => simp at hc; simp [hc]
  | succ i =>
   simp only [List.take_succ_cons, List.all_cons, Bool.and_eq_true, beq_iff_eq] at h
   simp only [h.1, List.find?_cons, bne_self_eq_false]
   exact ih (by simpa using hi) h.2 (by simpa using hc)
theorem firstNe_none {l : List Int} {i : Nat} (hi : l.length ≤ i) (h : (l.take i).all (· == 0) = true) : firstNe l = 0 := by
 rw [List.take_of_length_le hi] at h
 unfold firstNe
 rw [List.find?_eq_none.2]
 ·skip
  rfl
 ·skip
  intro x hx
  have := List.all_eq_true.1 h x hx
  simpa using this
theorem zip_at {α β : Type} {f : α → β → Int} {xs : List α} {ys : List β} {i : Nat} (d : α) (e : β) (h1 : i < xs.length) (h2 : i < ys.length) : (List.zipWith f xs ys).getD i 0 = f (xs.getD i d) (ys.getD i e) := by
 simp [List.getD, List.getElem?_zipWith, h1, h2]
theorem three {α : Type} {l : List α} (h : l.length = 3) : ∃ a b c, l = [a, b, c] := by
 match l, h with
 | [a, b, c], _ => exact ⟨a, b, c, rfl⟩
end
section
open Go Go.RowKit Go.Sort
structure Base (w : World) : Prop where
 max : ∃ m, w.cell? ⟨0, 0, none⟩ = some (.int .i64 m)
 pow : Lib.TabIs Tryz.prog w "internal/strconv.uint64pow10" .u64 Lib.pow10Tab
 esyn : ∃ t p, w.var? Tryz.prog "strconv.ErrSyntax" = some #[.iface t p]
 eran : ∃ t p, w.var? Tryz.prog "strconv.ErrRange" = some #[.iface t p]
 db : Lib.TabIs Tryz.prog w "math/bits.deBruijn64tab" .u8 (List.map (fun n : Nat => (n : Int)) Lib.deBruijn64tab)
theorem var_lt {P : Program} {w : World} {s : String} {g : Nat} {cs : Array Value} (hg : P.globalNamed s = some g) (hc : w.var? P s = some cs) : g < w.heap.size := by
 simp only [World.var?, hg, Option.bind_some] at hc
 apply Decidable.byContradiction; intro hn
 rw [Array.getElem?_eq_none (by omega)] at hc
 simp at hc
theorem var_stay {P : Program} {N : Nat} {w w' : World} {s : String} {g : Nat} {cs : Array Value} (h : Below N w w') (hg : P.globalNamed s = some g) (hN : g < N) (hc : w.var? P s = some cs) : w'.var? P s = some cs := by
 simp only [World.var?, hg, Option.bind_some] at hc ⊢
 rw [h.block g hN]; exact hc
theorem cell_lt {w : World} {b o : Nat} {v : Value} (hc : w.cell? ⟨b, o, none⟩ = some v) : b < w.heap.size := by
 apply Decidable.byContradiction; intro hn
 simp only [World.cell?] at hc
 rw [Array.getElem?_eq_none (by omega)] at hc
 simp at hc
theorem cell_stay {N : Nat} {w w' : World} {b o : Nat} {v : Value} (h : Below N w w') (hN : b < N) (hc : w.cell? ⟨b, o, none⟩ = some v) : w'.cell? ⟨b, o, none⟩ = some v := by
 rw [World.cell?_of_block (w := w) (h.block b hN)]; exact hc
def JN : Nat := Nat.max (0 + 1) (Nat.max (7 + 1) (Nat.max (5 + 1) (Nat.max (1 + 1) (2 + 1))))
def J : Inv where
  I := Base
  N := JN
  lt w h := by
    obtain ⟨m, hm⟩ := h.max
    obtain ⟨t, p, hs⟩ := h.esyn
    obtain ⟨t', p', hr⟩ := h.eran
    have h1 := cell_lt hm
    have h2 := var_lt (g := 5) (by kernel_rfl) h.pow
    have h3 := var_lt (g := 1) (by kernel_rfl) hs
    have h4 := var_lt (g := 2) (by kernel_rfl) hr
    have h5 := var_lt (g := 7) (by kernel_rfl) h.db
    exact Nat.max_le.2 ⟨h1, Nat.max_le.2 ⟨h5, Nat.max_le.2 ⟨h2, Nat.max_le.2 ⟨h3, h4⟩⟩⟩⟩
  st w w' h hb := ⟨h.max.imp fun m hm => cell_stay hb (by decide) hm, var_stay (g := 5) hb (by kernel_rfl) (by decide) h.pow,
    h.esyn.imp fun t ht => ht.imp fun p hp => var_stay (g := 1) hb (by kernel_rfl) (by decide) hp,
    h.eran.imp fun t ht => ht.imp fun p hp => var_stay (g := 2) hb (by kernel_rfl) (by decide) hp, var_stay (g := 7) hb (by kernel_rfl) (by decide) h.db⟩
theorem Below.bytesW (w : World) (e : TypeId) (s : ByteArray) : Below w.heap.size w (Lib.bytesWorld w e s) :=
 ⟨rfl, rfl, rfl, by rw [Lib.bytesWorld_size]; omega, fun j hj => Lib.bytesWorld_at_old w e s j hj⟩
theorem pc_Compare (a b : List UInt8) : PureCall Tryz.prog J 23 [.one (.d (.str a)), .one (.d (.str b))] (.one (.d (.int .i64 (Lib.compareBytes a b)))) :=
  PureCall.lib Tryz.func23 (by kernel_rfl) (by kernel_rfl) (xs := [.string ⟨a.toArray⟩, .string ⟨b.toArray⟩]) rfl fun w _ =>
    Calls.mono (Tryz.strings_Compare ⟨a.toArray⟩ ⟨b.toArray⟩ w) fun e w' ⟨he, hw⟩ => ⟨_, he, hw ▸ Below.refl _ _, RV.of_lit (by simp [D.lit])⟩
theorem pc_IndexByte (a : List UInt8) (c : Int) : PureCall Tryz.prog J 187 [.one (.d (.str a)), .one (.d (.int .u8 c))] (.one (.d (.int .i64 (Lib.indexByte a c.toNat.toUInt8)))) :=
  PureCall.lib Tryz.func187 (by kernel_rfl) (by kernel_rfl) (xs := [.string ⟨a.toArray⟩, .int .u8 c]) rfl fun w _ =>
    Calls.mono (Tryz.strings_IndexByte ⟨a.toArray⟩ c w) fun e w' ⟨he, hw⟩ => ⟨_, he, hw ▸ Below.refl _ _, RV.of_lit (by simp [D.lit])⟩
theorem pc_CutPrefix (a b : List UInt8) : PureCall Tryz.prog J 249 [.one (.d (.str a)), .one (.d (.str b))] (.tup [.one (.d (.str (Lib.trimPrefix a b))), .one (.d (.bool (Lib.hasPrefix a b)))]) :=
  PureCall.lib Tryz.func249 (by kernel_rfl) (by kernel_rfl) (xs := [.string ⟨a.toArray⟩, .string ⟨b.toArray⟩]) rfl fun w _ =>
    Calls.mono (Tryz.strings_CutPrefix ⟨a.toArray⟩ ⟨b.toArray⟩ w) fun e w' ⟨he, hw⟩ => ⟨_, he, hw ▸ Below.refl _ _, RV.tup2 (RV.of_lit (by simp [D.lit])) (RV.of_lit (by simp [D.lit]))⟩
theorem pc_Contains (a b : List UInt8) (ha : a.length < 4294967281) : PureCall Tryz.prog J 101 [.one (.d (.str a)), .one (.d (.str b))] (.one (.d (.bool (Lib.contains a b)))) :=
  PureCall.lib Tryz.func101 (by kernel_rfl) (by kernel_rfl) (xs := [.string ⟨a.toArray⟩, .string ⟨b.toArray⟩]) rfl fun w hw =>
    hw.max.elim fun m hm => Calls.mono (Tryz.strings_Contains ⟨a.toArray⟩ ⟨b.toArray⟩ m w (by simpa [ByteArray.size] using ha) hm) fun e w' ⟨he, hw⟩ => ⟨_, he, hw ▸ Below.refl _ _, RV.of_lit (by simp [D.lit])⟩
theorem pc_Cut (a b : List UInt8) (ha : a.length < 4294967281) : PureCall Tryz.prog J 53 [.one (.d (.str a)), .one (.d (.str b))]
    (.tup [.one (.d (.str (Lib.cut a b).1)), .one (.d (.str (Lib.cut a b).2.1)), .one (.d (.bool (Lib.cut a b).2.2))]) :=
  PureCall.lib Tryz.func53 (by kernel_rfl) (by kernel_rfl) (xs := [.string ⟨a.toArray⟩, .string ⟨b.toArray⟩]) rfl fun w hw =>
    hw.max.elim fun m hm => Calls.mono (Tryz.strings_Cut ⟨a.toArray⟩ ⟨b.toArray⟩ m w (by simpa [ByteArray.size] using ha) hm) fun e w' ⟨he, n, hw⟩ => ⟨_, he, hw ▸ Below.drewN' _ _, RV.tup3 (RV.of_lit (by simp [D.lit])) (RV.of_lit (by simp [D.lit])) (RV.of_lit (by simp [D.lit]))⟩
theorem countB_eq (s sep : List UInt8) : Lib.countB ⟨s.toArray⟩ ⟨sep.toArray⟩ = Lib.count s sep := by simp [Lib.countB]
theorem pc_Split (a b : List UInt8) (ha : a.length < 4294967281) (hb : 1 ≤ b.length) : PureCall Tryz.prog J 69 [.one (.d (.str a)), .one (.d (.str b))]
    (.one (.d (.vec 1 ((Lib.split a b).map fun x => [.str x])))) :=
  PureCall.lib Tryz.func69 (by kernel_rfl) (by kernel_rfl) (xs := [.string ⟨a.toArray⟩, .string ⟨b.toArray⟩]) rfl fun w hw =>
    hw.max.elim fun m hm => Calls.mono (Tryz.strings_Split ⟨a.toArray⟩ ⟨b.toArray⟩ m w (by simpa [ByteArray.size] using ha) hm (by simpa [ByteArray.size] using hb)) fun e w' ⟨he, hw⟩ => by
      subst hw
      refine ⟨_, he, Below.alloc' _ _, ?_⟩
      have hl := Lib.splitB_all ⟨b.toArray⟩ (by simpa [ByteArray.size] using hb) 0 (Lib.countB ⟨a.toArray⟩ ⟨b.toArray⟩) ⟨a.toArray⟩ rfl
      have hd := Lib.splitB_data ⟨b.toArray⟩ 0 (Lib.countB ⟨a.toArray⟩ ⟨b.toArray⟩) ⟨a.toArray⟩
      have he : (Lib.split a b).map (fun x => [D.str x]) = (Lib.splitB ⟨b.toArray⟩ 0 (Lib.countB ⟨a.toArray⟩ ⟨b.toArray⟩) ⟨a.toArray⟩).map fun s => [D.str s.data.toList] := by
        have h2 : Lib.split a b = (Lib.splitB ⟨b.toArray⟩ 0 (Lib.countB ⟨a.toArray⟩ ⟨b.toArray⟩) ⟨a.toArray⟩).map (·.data.toList) := by
          rw [hd, countB_eq]; rfl
        rw [h2, List.map_map]; rfl
      rw [he]
      exact RV.texts _ (fun h => by rw [h] at hl; simp at hl) _ hl.symm
theorem pc_cmpInt (x y : Int) : PureCall Tryz.prog J 68 [.one (.d (.int .i64 x)), .one (.d (.int .i64 y))] (.one (.d (.int .i64 (Lib.compareInt x y)))) :=
  PureCall.lib Tryz.func68 (by kernel_rfl) (by kernel_rfl) (xs := [.int .i64 x, .int .i64 y]) rfl fun w _ =>
    Calls.mono (Tryz.cmp_Compare_int x y w) fun e w' ⟨he, hw⟩ => ⟨_, he, hw ▸ Below.refl _ _, RV.of_lit (by simp [D.lit])⟩
theorem pc_Trim (s cs : List UInt8) (hs : s.length ≤ 9223372036854775807) (hcs : cs.length < 4294967281) (ha : cs.all (fun b => decide (b.toNat < 128)) = true) :
    PureCall Tryz.prog J 122 [.one (.d (.str s)), .one (.d (.str cs))] (.one (.d (.str (Lib.trimS s cs)))) :=
  PureCall.lib Tryz.func122 (by kernel_rfl) (by kernel_rfl) (xs := [.string ⟨s.toArray⟩, .string ⟨cs.toArray⟩]) rfl fun w _ =>
    Calls.mono (Any.strings_Trim_laid Tryz.lays160 (by kernel_rfl) ⟨s.toArray⟩ ⟨cs.toArray⟩ w (by simpa [ByteArray.size] using hs) (by simpa [ByteArray.size] using hcs) (ascii_of_all (by simpa using ha))) fun e w' ⟨he, hw⟩ => ⟨_, he, hw, RV.of_lit (by simp [D.lit])⟩
theorem pc_Atoi (s : List UInt8) (hs : s.length ≤ 281474976710656) : PureCall Tryz.prog J 71 [.one (.d (.str s))] (.tup [.one (.d (.int .i64 (atoiV s))), .one (.d (.err (atoiOk s)))]) :=
  PureCall.lib Tryz.func71 (by kernel_rfl) (by kernel_rfl) (xs := [.string ⟨s.toArray⟩]) rfl fun w hw => by
    have hsz : (⟨s.toArray⟩ : ByteArray).size ≤ 281474976710656 := by simpa [ByteArray.size] using hs
    cases h : Lib.atoiAll s with
    | ok v =>
      refine Calls.mono (Tryz.strconv_Atoi_ok ⟨s.toArray⟩ (by omega) v h w) fun e w' ⟨he, hw⟩ => ⟨_, he, ?_, ?_⟩
      · rcases hw with rfl | ⟨t, rfl⟩
        · exact Below.refl _ _
        · exact Below.bytesW _ _ _
      · rw [show atoiV s = v by simp [atoiV, h], show atoiOk s = true by simp [atoiOk, h]]
        exact RV.tup2 (RV.of_lit rfl) (.one _ _ (.d _ _ .errNil))
    | range =>
      obtain ⟨t, p, hv⟩ := hw.eran
      refine Calls.mono (Tryz.strconv_Atoi_range_var ⟨s.toArray⟩ hsz h t p w hv) fun e w' ⟨N, he, _, _, hB⟩ => ⟨_, he, hB, ?_⟩
      rw [show atoiV s = Lib.atoiSat s by simp [atoiV, h], show atoiOk s = false by simp [atoiOk, h]]
      exact RV.tup2 (RV.of_lit rfl) (.one _ _ (.d _ _ (.errSome _ _)))
    | _ =>
      obtain ⟨t, p, hv⟩ := hw.esyn
      refine Calls.mono (Tryz.strconv_Atoi_syntax_var ⟨s.toArray⟩ hsz h t p w hv) fun e w' ⟨N, he, _, _, hB⟩ => ⟨_, he, hB, ?_⟩
      rw [show atoiV s = 0 by simp [atoiV, h], show atoiOk s = false by simp [atoiOk, h]]
      exact RV.tup2 (RV.of_lit rfl) (.one _ _ (.d _ _ (.errSome _ _)))
end
section
def isDigit (c : Int) : Bool := decide (c ≥ 48) && decide (c ≤ 57)
def isSmall (c : Int) : Bool := decide (c ≥ 97) && decide (c ≤ 122)
def outsideB (n l h : Int) : Bool := decide (n < l) || decide (n > h)
def bI (c : UInt8) : Int := (c.toNat : Int)
def nameC (c : Int) : Bool := isSmall c || isDigit c || c == 45 || c == 46
def partC' (c : Int) : Bool := isSmall c || (decide (c ≥ 65) && decide (c ≤ 90)) || isDigit c || c == 45 || c == 46 || c == 95
def valueC (c : Int) : Bool := decide (c ≥ 32) && decide (c ≤ 126)
def earlyC (c : Int) : Bool := isSmall c || isDigit c
def eachB (φ : Int → Bool) (s : List UInt8) (m : Int) : Bool := s.all (fun c => φ (bI c)) && (!(s == []) && decide ((s.length : Int) ≤ m))
theorem eachB_pos {φ : Int → Bool} {s : List UInt8} {m : Int} (h : eachB φ s m = true) : (0 : Int) < (s.length : Int) := by
 unfold eachB at h
 cases s with
 | nil => simp at h
 | cons a l => simp only [List.length_cons]; omega
def nameB (s : List UInt8) : Bool := eachB nameC s 40 && isSmall (bI (s.getD 0 0))
def partB (s : List UInt8) : Bool := eachB partC' s 40 && !(s == [46]) && !(s == [46, 46])
def valueB (s : List UInt8) : Bool := s == [] || eachB valueC s 1000
def numeralB (s : List UInt8) : Bool := eachB isDigit s 10
def wordB (w : List UInt8) : Bool := eachB earlyC w 10 && !(numeralB w && bI (w.getD 0 0) == 48 && !(w == [48]))
theorem word_f {a b : Bool} (h : (!a || b) = true) : (a && !b) = false := by cases a <;> cases b <;> simp_all
theorem word_t {a b : Bool} (h : (!a || b) = false) : (a && !b) = true := by cases a <;> cases b <;> simp_all
def pathB (s : List UInt8) : Bool := (Go.Lib.split s [47]).all partB && decide ((s.length : Int) ≤ 200)
def earlyB (s : List UInt8) : Bool := (Go.Lib.split s [46]).all wordB && decide ((s.length : Int) ≤ 40)
def outsideN (n : Int) : Bool := outsideB n 0 999999
def checkB (a b c : Int) (e : List UInt8) : Int := if outsideN a || outsideN b || outsideN c then 3 else if !(e == []) && !earlyB e then 2 else 0
end
section
open Go
open Go.RowKit
attribute [local irreducible] thenK blockK W
theorem pc_ver_isDigit (c : Int) :
  PureCall Tryz.prog J 96 [.one (.d (.int .u8 c))] (.one (.d (.bool (isDigit c)))) := by
 refine PureCall.of_body tOk (fn := Tryz.f96) Tryz.func96 (by kernel_rfl) rfl (Nat.le_of_ble_eq_true rfl) (fun E => ?_)
 iterate 12 first|refine S.pickAnd tOk zOk rfl rfl tg ?_|refine Yp rfl ?_|refine Yg rfl rfl tg ?_|apply Yt|apply Y3|apply Y1|apply Yn
 exact ⟨_, rfl, rfl, LeV.refl _⟩
theorem pc_ver_isSmall (c : Int) :
  PureCall Tryz.prog J 95 [.one (.d (.int .u8 c))] (.one (.d (.bool (isSmall c)))) := by
 refine PureCall.of_body tOk (fn := Tryz.f95) Tryz.func95 (by kernel_rfl) rfl (Nat.le_of_ble_eq_true rfl) (fun E => ?_)
 iterate 12 first|refine S.pickAnd tOk zOk rfl rfl tg ?_|refine Yp rfl ?_|refine Yg rfl rfl tg ?_|apply Yt|apply Y3|apply Y1|apply Yn
 exact ⟨_, rfl, rfl, LeV.refl _⟩
theorem pc_ver_outside (n l h : Int) :
  PureCall Tryz.prog J 130 [.one (.d (.int .i64 n)), .one (.d (.int .i64 l)), .one (.d (.int .i64 h))] (.one (.d (.bool (outsideB n l h)))) := by
 refine PureCall.of_body tOk (fn := Tryz.f130) Tryz.func130 (by kernel_rfl) rfl (Nat.le_of_ble_eq_true rfl) (fun E => ?_)
 iterate 14 first|refine S.pickOr tOk zOk rfl rfl tg ?_|refine Yp rfl ?_|refine Yg rfl rfl tg ?_|apply Yt|apply Y3|apply Y1|apply Yn
 exact ⟨_, rfl, rfl, LeV.refl _⟩
theorem pc_ver_each (φ : Int → Bool) (s : List UInt8) (m : Int) (f : FuncId) (hs : s.length ≤ 4611686018427387904) (hφ : ∀ c, PureCall Tryz.prog J f [.one (.d (.int .u8 c))] (.one (.d (.bool (φ c))))) :
  PureCall Tryz.prog J 93 [.one (.d (.str s)), .one (.d (.int .i64 m)), .one (.d (.fn f))] (.one (.d (.bool (eachB φ s m)))) := by
 refine PureCall.of_body tOk (fn := Tryz.f93) Tryz.func93 (by kernel_rfl) rfl (Nat.le_of_ble_eq_true rfl) (fun E => ?_)
 iterate 8 first|refine Yp rfl ?_|apply Yb|apply Y1|apply Yn|apply Ys
 refine W.loop (fun k st => ∃ i : Nat, i ≤ s.length ∧ (s.take i).all (fun c => φ (bI c)) = true ∧ k = s.length - i ∧ ∃ t b2 r2 m2, st = ⟨t, [] ++ b2, [] ++ r2, [] ++ m2⟩ ∧ holdsL t [(0, .one (.d (.str s))), (1, .one (.d (.int .i64 m))), (2, .one (.d (.fn f))), (7, .one (.d (.int .i64 (i : Int))))]) (s.length) ⟨0, Nat.zero_le _, by simp, rfl, _, _, _, _, rfl, rfl, rfl, rfl, rfl, trivial⟩ ?_
 rintro k0 _ ⟨i, f0_0, f0_1, rfl, t0, bb0, rr0, mm0, rfl, hh0⟩
 refine W.keepR _ _ _ _ _ _ _ hh0 rfl ?_
 apply Ys
 apply Y1
 iterate 4 refine Yp rfl ?_
 apply Yn
 refine W.cond rfl (fun c1=>?_) fun c1=>?_
 ·skip
  have hi : i < s.length := by simpa using c1
  iterate 8 first|refine Yp rfl ?_|apply Yb|apply Yk|apply Y1|apply Ys|apply Yn
  refine YP rfl (str_ok hi) rfl ?_
  refine S.call rfl rfl rfl rfl rfl (hφ _) ?_
  refine Yp rfl ?_
  apply Yn
  refine W.cond rfl (fun c2=>?_) fun c2=>?_
  ·skip
   iterate 9 first|apply Yu|apply Yv|apply Yt|refine Yp rfl ?_|apply Y1|apply Yn
   exact ⟨_, rfl, rfl, LeV.of_eq (by rw [eachB, all_false_of (d := 0) (φ := fun c => φ (bI c)) hi (by simpa [bI] using c2)]; rfl)⟩
  apply Yk
  apply Yw
  apply Y4
  iterate 3 refine Yp rfl ?_
  refine loop_n (s.length - (i + 1)) (by omega) ⟨i + 1, by omega, all_take_succ (d := 0) (φ := fun c => φ (bI c)) hi f0_1 (by simpa [bI] using c2), rfl, _, _, _, _, rfl, rfl, rfl, rfl, inc_i64 (by omega), trivial⟩
 have hi : s.length ≤ i := by simpa using c1
 iterate 16 first|refine S.pickAnd tOk zOk rfl rfl tg ?_|refine Yp rfl ?_|refine Yg rfl rfl tg ?_|apply Ye|apply Yt|apply Yx|apply Yq|apply Y3|apply Yn
 exact ⟨_, rfl, rfl, LeV.of_eq (by rw [eachB, all_of_take hi f0_1]; rfl)⟩
theorem pc_ver_IsName_1 (c : Int) :
  PureCall Tryz.prog J 94 [.one (.d (.int .u8 c))] (.one (.d (.bool (nameC c)))) := by
 refine PureCall.of_body tOk (fn := Tryz.f94) Tryz.func94 (by kernel_rfl) rfl (Nat.le_of_ble_eq_true rfl) (fun E => ?_)
 iterate 4 first|refine Yp rfl ?_|apply Y3|apply Y1
 refine S.call rfl rfl rfl rfl rfl (pc_ver_isSmall _) ?_
 refine Yp rfl ?_
 refine Yg rfl rfl tg ?_
 refine S.callG rfl rfl rfl rfl tg rfl rfl (fun _ => pc_ver_isDigit _) ?_
 iterate 12 first|refine S.pickOr tOk zOk rfl rfl tg ?_|refine Yg rfl rfl tg ?_|refine Yp rfl ?_|apply Yt|apply Yn
 exact ⟨_, rfl, rfl, LeV.refl _⟩
theorem pc_ver_IsName (s : List UInt8) (hs : s.length ≤ 4611686018427387904) :
  PureCall Tryz.prog J 38 [.one (.d (.str s))] (.one (.d (.bool (nameB s)))) := by
 refine PureCall.of_body tOk (fn := Tryz.f38) Tryz.func38 (by kernel_rfl) rfl (Nat.le_of_ble_eq_true rfl) (fun E => ?_)
 iterate 4 first|refine Yp rfl ?_|apply Y3|apply Y1
 refine S.call rfl rfl rfl rfl rfl (pc_ver_each _ _ _ _ (hs) (fun c => pc_ver_IsName_1 c)) ?_
 refine Yp rfl ?_
 refine Yg rfl rfl tg ?_
 refine YG rfl rfl tg (fun h => idx_ok (Int.le_refl _) (eachB_pos h)) rfl ?_
 refine S.callG rfl rfl rfl rfl tg rfl rfl (fun _ => pc_ver_isSmall _) ?_
 refine S.pickAnd tOk zOk rfl rfl tg ?_
 refine Yp rfl ?_
 apply Yn
 apply Yt
 exact ⟨_, rfl, rfl, LeV.refl _⟩
theorem pc_ver_isPart_1 (c : Int) :
  PureCall Tryz.prog J 152 [.one (.d (.int .u8 c))] (.one (.d (.bool (partC' c)))) := by
 refine PureCall.of_body tOk (fn := Tryz.f152) Tryz.func152 (by kernel_rfl) rfl (Nat.le_of_ble_eq_true rfl) (fun E => ?_)
 iterate 4 first|refine Yp rfl ?_|apply Y3|apply Y1
 refine S.call rfl rfl rfl rfl rfl (pc_ver_isSmall _) ?_
 iterate 10 first|refine S.pickOr tOk zOk rfl rfl tg ?_|refine S.pickAndG tOk zOk rfl rfl rfl tg tg ?_|refine Yg rfl rfl tg ?_|refine Yp rfl ?_
 refine S.callG rfl rfl rfl rfl tg rfl rfl (fun _ => pc_ver_isDigit _) ?_
 iterate 16 first|refine S.pickOr tOk zOk rfl rfl tg ?_|refine Yg rfl rfl tg ?_|refine Yp rfl ?_|apply Yt|apply Yn
 exact ⟨_, rfl, rfl, LeV.refl _⟩
theorem pc_ver_isPart (s : List UInt8) (hs : s.length < 4294967281) :
  PureCall Tryz.prog J 97 [.one (.d (.str s))] (.one (.d (.bool (partB s)))) := by
 refine PureCall.of_body tOk (fn := Tryz.f97) Tryz.func97 (by kernel_rfl) rfl (Nat.le_of_ble_eq_true rfl) (fun E => ?_)
 iterate 7 first|refine Yp rfl ?_|apply Y3|apply Y1
 refine S.call rfl rfl rfl rfl rfl (pc_ver_each _ _ _ _ (by omega) (fun c => pc_ver_isPart_1 c)) ?_
 iterate 11 first|refine S.pickAnd tOk zOk rfl rfl tg ?_|refine Yg rfl rfl tg ?_|refine Yp rfl ?_|apply Yt|apply Yn
 exact ⟨_, rfl, rfl, LeV.refl _⟩
theorem pc_ver_IsPath (s : List UInt8) (hs : s.length < 4294967281) :
  PureCall Tryz.prog J 44 [.one (.d (.str s))] (.one (.d (.bool (pathB s)))) := by
 have hl := split_le s [47]
 have hm := fun i => @split_at s [47] i
 refine PureCall.of_body tOk (fn := Tryz.f44) Tryz.func44 (by kernel_rfl) rfl (Nat.le_of_ble_eq_true rfl) (fun E => ?_)
 iterate 6 first|refine Yp rfl ?_|apply Y1|apply Ys|apply Yn
 refine S.call rfl rfl rfl rfl rfl (pc_Split _ _ hs (by decide)) ?_
 iterate 2 refine Yp rfl ?_
 apply Yn
 apply Yb
 refine W.loop (fun k st => ∃ i : Nat, i ≤ (Lib.split s [47]).length ∧ ((Lib.split s [47]).take i).all partB = true ∧ k = (Lib.split s [47]).length - i ∧ ∃ t b2 r2 m2, st = ⟨t, [] ++ b2, [] ++ r2, [] ++ m2⟩ ∧ holdsL t [(0, .one (.d (.str s))), (6, .one (.d (.vec 1 ((Lib.split s [47]).map fun x => [.str x])))), (7, .one (.d (.int .i64 (((Lib.split s [47]).map fun x => ([.str x] : List D)).length : Int)))), (8, .one (.d (.int .i64 (i : Int))))]) ((Lib.split s [47]).length) ⟨0, Nat.zero_le _, by simp, rfl, _, _, _, _, rfl, rfl, rfl, rfl, rfl, trivial⟩ ?_
 rintro k0 _ ⟨i, f0_0, f0_1, rfl, t0, bb0, rr0, mm0, rfl, hh0⟩
 refine W.keepR _ _ _ _ _ _ _ hh0 rfl ?_
 apply Y1
 refine Yp rfl ?_
 apply Yn
 apply Ys
 refine W.cond rfl (fun c1=>?_) fun c1=>?_
 ·skip
  have hi := row_lt c1
  apply Yk
  apply Yn
  apply Ys
  apply Yb
  apply Y1
  refine YE rfl (row_ok hi) (row_at [] hi) rfl ?_
  iterate 4 first|refine Yp rfl ?_|apply Y3
  refine S.call rfl rfl rfl rfl rfl (pc_ver_isPart _ (by have := hm i; omega)) ?_
  refine Yp rfl ?_
  apply Yn
  refine W.cond rfl (fun c2=>?_) fun c2=>?_
  ·skip
   iterate 9 first|apply Yu|apply Yv|apply Yt|refine Yp rfl ?_|apply Y1|apply Yn
   exact ⟨_, rfl, rfl, LeV.of_eq (by rw [pathB, all_false_of (d := []) hi (by simpa using c2)]; rfl)⟩
  apply Yk
  apply Yw
  apply Y4
  iterate 2 refine Yp rfl ?_
  refine loop_n ((Lib.split s [47]).length - (i + 1)) (by omega) ⟨i + 1, hi, all_take_succ (d := []) hi f0_1 (by simpa using c2), rfl, _, _, _, _, rfl, rfl, rfl, rfl, inc_i64 (by omega), trivial⟩
 have hi := row_ge c1
 iterate 11 first|refine Yp rfl ?_|apply Ye|apply Yt|apply Yx|apply Yq|apply Y3|apply Yn
 exact ⟨_, rfl, rfl, LeV.of_eq (by rw [pathB, all_of_take hi f0_1]; rfl)⟩
theorem pc_ver_IsValue_1 (c : Int) :
  PureCall Tryz.prog J 151 [.one (.d (.int .u8 c))] (.one (.d (.bool (valueC c)))) := by
 refine PureCall.of_body tOk (fn := Tryz.f151) Tryz.func151 (by kernel_rfl) rfl (Nat.le_of_ble_eq_true rfl) (fun E => ?_)
 iterate 12 first|refine S.pickAnd tOk zOk rfl rfl tg ?_|refine Yp rfl ?_|refine Yg rfl rfl tg ?_|apply Yt|apply Y3|apply Y1|apply Yn
 exact ⟨_, rfl, rfl, LeV.refl _⟩
theorem pc_ver_IsValue (s : List UInt8) (hs : s.length < 4294967281) :
  PureCall Tryz.prog J 92 [.one (.d (.str s))] (.one (.d (.bool (valueB s)))) := by
 refine PureCall.of_body tOk (fn := Tryz.f92) Tryz.func92 (by kernel_rfl) rfl (Nat.le_of_ble_eq_true rfl) (fun E => ?_)
 iterate 7 first|refine Yp rfl ?_|refine Yg rfl rfl tg ?_|apply Y3|apply Y1
 refine S.callG rfl rfl rfl rfl tg rfl rfl (fun _ => pc_ver_each _ _ _ _ (by omega) (fun c => pc_ver_IsValue_1 c)) ?_
 refine S.pickOr tOk zOk rfl rfl tg ?_
 refine Yp rfl ?_
 apply Yn
 apply Yt
 exact ⟨_, rfl, rfl, LeV.refl _⟩
theorem pc_ver_isNumeral (s : List UInt8) (hs : s.length < 4294967281) :
  PureCall Tryz.prog J 196 [.one (.d (.str s))] (.one (.d (.bool (numeralB s)))) := by
 refine PureCall.of_body tOk (fn := Tryz.f196) Tryz.func196 (by kernel_rfl) rfl (Nat.le_of_ble_eq_true rfl) (fun E => ?_)
 iterate 4 first|refine Yp rfl ?_|apply Y3|apply Y1
 refine S.call rfl rfl rfl rfl rfl (pc_ver_each _ _ _ _ (by omega) (fun c => pc_ver_isDigit c)) ?_
 refine Yp rfl ?_
 apply Yn
 apply Yt
 exact ⟨_, rfl, rfl, LeV.refl _⟩
theorem pc_ver_isEarly_1 (c : Int) :
  PureCall Tryz.prog J 195 [.one (.d (.int .u8 c))] (.one (.d (.bool (earlyC c)))) := by
 refine PureCall.of_body tOk (fn := Tryz.f195) Tryz.func195 (by kernel_rfl) rfl (Nat.le_of_ble_eq_true rfl) (fun E => ?_)
 iterate 4 first|refine Yp rfl ?_|apply Y3|apply Y1
 refine S.call rfl rfl rfl rfl rfl (pc_ver_isSmall _) ?_
 refine Yp rfl ?_
 refine Yg rfl rfl tg ?_
 refine S.callG rfl rfl rfl rfl tg rfl rfl (fun _ => pc_ver_isDigit _) ?_
 refine S.pickOr tOk zOk rfl rfl tg ?_
 refine Yp rfl ?_
 apply Yn
 apply Yt
 exact ⟨_, rfl, rfl, LeV.refl _⟩
theorem pc_ver_isEarly (s : List UInt8) (hs : s.length < 4294967281) :
  PureCall Tryz.prog J 131 [.one (.d (.str s))] (.one (.d (.bool (earlyB s)))) := by
 have hl := split_le s [46]
 have hm := fun i => @split_at s [46] i
 refine PureCall.of_body tOk (fn := Tryz.f131) Tryz.func131 (by kernel_rfl) rfl (Nat.le_of_ble_eq_true rfl) (fun E => ?_)
 iterate 6 first|refine Yp rfl ?_|apply Y1|apply Ys|apply Yn
 refine S.call rfl rfl rfl rfl rfl (pc_Split _ _ hs (by decide)) ?_
 iterate 2 refine Yp rfl ?_
 apply Yn
 apply Yb
 refine W.loop (fun k st => ∃ i : Nat, i ≤ (Lib.split s [46]).length ∧ ((Lib.split s [46]).take i).all wordB = true ∧ k = (Lib.split s [46]).length - i ∧ ∃ t b2 r2 m2, st = ⟨t, [] ++ b2, [] ++ r2, [] ++ m2⟩ ∧ holdsL t [(0, .one (.d (.str s))), (6, .one (.d (.vec 1 ((Lib.split s [46]).map fun x => [.str x])))), (7, .one (.d (.int .i64 (((Lib.split s [46]).map fun x => ([.str x] : List D)).length : Int)))), (8, .one (.d (.int .i64 (i : Int))))]) ((Lib.split s [46]).length) ⟨0, Nat.zero_le _, by simp, rfl, _, _, _, _, rfl, rfl, rfl, rfl, rfl, trivial⟩ ?_
 rintro k0 _ ⟨i, f0_0, f0_1, rfl, t0, bb0, rr0, mm0, rfl, hh0⟩
 refine W.keepR _ _ _ _ _ _ _ hh0 rfl ?_
 apply Y1
 refine Yp rfl ?_
 apply Yn
 apply Ys
 refine W.cond rfl (fun c1=>?_) fun c1=>?_
 ·skip
  have hi := row_lt c1
  apply Yk
  apply Yn
  apply Ys
  apply Yb
  apply Y1
  refine YE rfl (row_ok hi) (row_at [] hi) rfl ?_
  iterate 4 first|refine Yp rfl ?_|apply Y3
  refine S.call rfl rfl rfl rfl rfl (pc_ver_each _ _ _ _ (by have := hm i; omega) (fun c => pc_ver_isEarly_1 c)) ?_
  iterate 2 refine Yp rfl ?_
  refine Yg rfl rfl tg ?_
  refine S.callG rfl rfl rfl rfl tg rfl rfl (fun _ => pc_ver_isNumeral _ (by have := hm i; omega)) ?_
  iterate 2 refine Yg rfl rfl tg ?_
  refine YG rfl rfl tg (fun h => idx_ok (Int.le_refl _) (eachB_pos (andr h))) rfl ?_
  iterate 8 first|refine S.pickAndG tOk zOk rfl rfl rfl tg tg ?_|refine S.pickOr tOk zOk rfl rfl tg ?_|refine Yg rfl rfl tg ?_|apply Yn
  refine W.cond rfl (fun c2=>?_) fun c2=>?_
  ·skip
   iterate 9 first|apply Yu|apply Yv|apply Yt|refine Yp rfl ?_|apply Y1|apply Yn
   exact ⟨_, rfl, rfl, LeV.of_eq (by rw [earlyB, all_false_of (d := []) hi (word_f c2)]; rfl)⟩
  apply Yk
  apply Yw
  apply Y4
  iterate 2 refine Yp rfl ?_
  refine loop_n ((Lib.split s [46]).length - (i + 1)) (by omega) ⟨i + 1, hi, all_take_succ (d := []) hi f0_1 (word_t c2), rfl, _, _, _, _, rfl, rfl, rfl, rfl, inc_i64 (by omega), trivial⟩
 have hi := row_ge c1
 iterate 11 first|refine Yp rfl ?_|apply Ye|apply Yt|apply Yx|apply Yq|apply Y3|apply Yn
 exact ⟨_, rfl, rfl, LeV.of_eq (by rw [earlyB, all_of_take hi f0_1]; rfl)⟩
end
section
open Go
structure Ver where
 a : Int
 b : Int
 c : Int
 e : List UInt8
 deriving DecidableEq
def Ver.z : Ver := ⟨0, 0, 0, []⟩
def Ver.check (v : Ver) : Int := checkB v.a v.b v.c v.e
def VerOk (v : Ver) : Prop := -9223372036854775808 ≤ v.a ∧ v.a ≤ 9223372036854775807 ∧ -9223372036854775808 ≤ v.b ∧ v.b ≤ 9223372036854775807 ∧ -9223372036854775808 ≤ v.c ∧ v.c ≤ 9223372036854775807
def w1 (x : Int) : Int := IntKind.i64.wrap (x + 1)
def numB (s : List UInt8) : Int × Bool := if !eachB isDigit s 9 || (bI (s.getD 0 0) == 48 && !(s == [48])) then (0, false) else (atoiV s, atoiOk s)
def threeB (e p q r : List UInt8) : Ver × Int :=
 if !(numB p).2 then (Ver.z, 8) else if !(numB q).2 then (Ver.z, 8) else if !(numB r).2 then (Ver.z, 8) else
 if checkB (numB p).1 (numB q).1 (numB r).1 e != 0 then (Ver.z, checkB (numB p).1 (numB q).1 (numB r).1 e) else (⟨(numB p).1, (numB q).1, (numB r).1, e⟩, 0)
def parseW (e : List UInt8) (is : Bool) (ws : List (List UInt8)) : Ver × Int :=
 if !((ws.length : Int) == 3) || (is && e == []) then (Ver.z, 8) else match ws with
  | [p, q, r] => threeB e p q r
  | _ => (Ver.z, 8)
theorem parse_ok {e : List UInt8} {is : Bool} {p q r : List UInt8} (h : (!(([p, q, r].length : Int) == 3) || (is && e == [])) = false) : parseW e is [p, q, r] = threeB e p q r := if_neg (Bool.eq_false_iff.1 h)
def parseB (s : List UInt8) : Ver × Int := parseW (Lib.cut s [45]).2.1 (Lib.cut s [45]).2.2 (Lib.split (Lib.cut s [45]).1 [46])
def cwB (a b : List UInt8) : Int :=
 if numeralB a && numeralB b then (if !((a.length : Int) == (b.length : Int)) then Lib.compareInt a.length b.length else Lib.compareBytes a b)
 else if numeralB a then -1 else if numeralB b then 1 else Lib.compareBytes a b
def rowsB (xs ys : List (List UInt8)) : Int := if firstNe (List.zipWith cwB xs ys) != 0 then firstNe (List.zipWith cwB xs ys) else Lib.compareInt xs.length ys.length
def ceB (a b : List UInt8) : Int := if a == b then 0 else if a == [] then 1 else if b == [] then -1 else rowsB (Lib.split a [46]) (Lib.split b [46])
def orderB (v w : Ver) : Int := firstNe [Lib.compareInt v.a w.a, Lib.compareInt v.b w.b, Lib.compareInt v.c w.c, ceB v.e w.e]
def nextOk (x y z : Int) : Ver × Int := if checkB x y z [] != 0 then (Ver.z, 3) else (⟨x, y, z, []⟩, 0)
def nextB (v : Ver) (p : Int) : Ver × Int :=
 if v.check != 0 then (Ver.z, v.check) else
 if p == 0 then nextOk (w1 v.a) 0 0 else if p == 1 then nextOk v.a (w1 v.b) 0 else if p == 2 && v.e == [] then nextOk v.a v.b (w1 v.c) else if !(p == 2) then (Ver.z, 3) else nextOk v.a v.b v.c
theorem min_lt {α β : Type} {xs : List α} {ys : List β} {i : Nat} {x y : Int} (hx : x = (xs.length : Int)) (hy : y = (ys.length : Int)) (h : decide ((i : Int) < if y < x then y else x) = true) : i < xs.length ∧ i < ys.length := by
 subst hx; subst hy
 simp only [decide_eq_true_eq] at h
 split at h <;> omega
theorem min_ge {α β : Type} {xs : List α} {ys : List β} {i : Nat} {x y : Int} (hx : x = (xs.length : Int)) (hy : y = (ys.length : Int)) (h : decide ((i : Int) < if y < x then y else x) = false) : xs.length ≤ i ∨ ys.length ≤ i := by
 subst hx; subst hy
 simp only [decide_eq_false_iff_not] at h
 split at h <;> omega
theorem cut_le (s sep : List UInt8) : (Lib.cut s sep).1.length ≤ s.length ∧ (Lib.cut s sep).2.1.length ≤ s.length := by
 unfold Lib.cut
 split
 ·skip
  simp; omega
 ·skip
  simp
end
section
open Go Go.RowKit
def verV (v : Ver) : V := .agg [.d (.int .i64 v.a), .d (.int .i64 v.b), .d (.int .i64 v.c), .d (.str v.e)]
def verD (v : Ver) : List D := [.int .i64 v.a, .int .i64 v.b, .int .i64 v.c, .str v.e]
end
end Go.Proofs.YtpelfildfidnbaaGreatDoor
