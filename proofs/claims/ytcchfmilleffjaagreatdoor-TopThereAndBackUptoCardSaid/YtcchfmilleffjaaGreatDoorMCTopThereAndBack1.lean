/- Part 1 of a proof: A18, A19, Ty, A20, Shelf, P0, L1, V1, W1, V2, L2, W2, V3, W3, P1, V4, W4, V5, W5, V6, L3, W6, W7, V7, W8, V8, W9, V9, A21, W10, W11. -/
import Derived.Test.YtcchfmilleffjaaGreatDoorProg
import Derived.KernelRfl
import Derived.Shelf.Strings.Builder1
import Derived.Shelf.Strings.Builder2
import Derived.Shelf.Strings.Trim
import Derived.Shelf.Small.Utf8
import Derived.Shelf.Small.Bits
import Derived.Shelf.Small.Strs
import Derived.Shelf.Small.Wraps
import Derived.Shelf.Strings.BuilderF
import Derived.Shelf.Utf8.RuneCount
import Derived.Shelf.Strings.Builder2Cap
import Derived.Shelf.Strconv.Atoi
import Derived.Shelf.Strconv.Itoa0
import Derived.Shelf.Strconv.Itoa1
import Derived.Shelf.LaysM
import Derived.Shelf.Strconv.Itoa2
import Derived.Shelf.Strconv.Itoa3
import Derived.Shelf.Strconv.AtoiErrFast
import Derived.Shelf.Strconv.ParseIntEmpty
import Derived.Shelf.Strconv.AtoiFail
import Derived.Shelf.Strconv.Clone
import Derived.Shelf.Strconv.SyntaxError
import Derived.Shelf.LaysC
import Derived.Shelf.Strconv.ToError
import Derived.Shelf.Strconv.Lower
import Derived.Shelf.Strconv.ParseUint10
import Derived.Shelf.Strconv.ParseUint10Empty
import Derived.Shelf.Strconv.ParseUint10Any
import Derived.Shelf.Strconv.ParseInt10
import Derived.Shelf.Strconv.AtoiLong
import Derived.Shelf.Strconv.AtoiInnerAll
import Derived.Shelf.Strconv.RangeError
import Derived.Shelf.Strconv.ToErrorRange
import Derived.Shelf.Strconv.AtoiAll
import Derived.Shelf.Strconv.ErrVarAll
import Derived.Shelf.Strconv.ParseUintEmpty
import Derived.Shelf.Strconv.ParseUint10b32
import Derived.Shelf.Strconv.ParseUint10b16
import Derived.Shelf.Strings.Search1
import Derived.Shelf.Strings.Search2
import Derived.Shelf.Strings.Search3
import Derived.Shelf.Strings.Cut
import Derived.Shelf.Strings.Count
import Derived.Shelf.Strings.Shaped
import Derived.Shelf.Sort.Plain
import Derived.Shelf.Strings.Prefix
import Derived.Shelf.Strings.Split
import Derived.Shelf.Strings.Replace
import Derived.Shelf.Strings.SplitShaped
import Derived.Shelf.Unicode.Decode
import Derived.Shelf.Strings.Runes
import Derived.Shelf.Strings.RuneCount
import Derived.Shelf.Strings.AsciiSet
import Derived.Shelf.Strings.Explode
import Derived.Shelf.Unicode.DecodeSlow
import Derived.Shelf.Unicode.DecodeAny
import Derived.Shelf.Unicode.DecodeLast
import Derived.Shelf.Slices.Turned
import Derived.Shelf.Slices.Equal
import Derived.Ground.Names2Prog
import Derived.Shelf.Slices.Clone
import Derived.Shelf.Slices.SearchI
import Derived.Shelf.Slices.In.SortNone
import Derived.Shelf.Slices.Empties2
import Derived.Ground.SlgnProg
import Derived.Shelf.SlicesE.Clone
import Derived.Lib.SplitLaws
import Derived.Lib.ItoaNum
import Derived.Lib.AtoiAll
import Derived.Shelf.Strings.SlTrimAscii
import Derived.Lib.TrailingZeros
import Derived.Lib.Small
import Derived.Lib.Bytealg
import Derived.Lib.IndexMore
import Derived.Lib.ItoaLen
import Derived.Lib.SlTrimSet
import Derived.Lib.AtoiTie
import Derived.Lib.Join
import Derived.Test.YtcchfmilleffjaaGreatDoorMCTopThereAndBack0
set_option linter.unusedVariables false
set_option linter.unusedSimpArgs false
namespace Go.Proofs.YtcchfmilleffjaaGreatDoor
open Go Go.RowKit
variable {J : Inv} {k0 : Lens} {E : Env J k0} {P : Program} {T : TypeId → Option TI} {n : Nat} {t : Nat → V} {b : List (List C)} {r : List (Option RowO)} {m : List (List (DV × DV))} {ops : Array Oper} {l : List Oper} {K : St → Prop}
  {i : Nat} {ty : TypeId} {pos : String} {after : Array Edge}
theorem Step.append {s : St} {o : Oper} {tt e : TypeId} {ti ei : TI} {x y : Operand} {ri : Nat} {q : RowO} {news : List (List D)} (hT : TabOk P T) (ho : o.op = .call { callee := .builtin .append, args := #[x, y], argTypes := #[tt, tt] }) (hg : o.guard = none)
    (hti : T tt = some ti) (hd : ti.desc = .slice e) (hei : T e = some ei) (hz : ei.zero.cells.size = ei.size) (hpos : 0 < ei.size) (hx : opd n s x = (true, .one (.row ri q.ver 0 q.xs.length))) (hy : opd n s y = (true, .one (.d (.vec ei.size news))))
    (hq : s.r[ri]? = some (some q)) (hsz : q.sz = ei.size) (hty : q.ty = e) (h63 : q.xs.length + news.length ≤ maxLen) (hb : (q.xs.length + news.length) * ei.bytes ≤ 140737488355328)
    (k : K ((s.withRow ri ⟨q.al || !news.isEmpty, q.ver + 1, q.sz, q.ty, q.xs ++ news⟩).set o.dst (.one (.row ri (q.ver + 1) 0 (q.xs ++ news).length)))) : Step E P n ops o K s := by
  intro g a w rel next Q hn
  have hw : Region.wanted o (yielded ops a.tmps) = true := by simp [Region.wanted, hg]
  rw [if_pos hw]
  obtain ⟨v', w', g', hrun, rel', ext, hv'⟩ := rel.append (P := P) hT (ty := o.type) hti hd hei hz hpos hq hsz hty (opd_ok rel hx rfl) (opd_ok rel hy rfl) h63 hb
  have hrun' : (execOp a.eval o).run P w = .ok (.value v') w' := by
    unfold execOp
    simp only [ho, resolve, invoke, builtin, Sem.run_bind, Sem.run_pure, Result.andThen_ok, List.map_toArray, List.map_cons, List.map_nil, hrun]
  unfold Oper.wp
  rw [hrun']
  exact hn _ _ _ _ k (rel'.put_same o.dst hv')
theorem W.newRow {c : Code} {KK : Ex → St → Prop} (k sz : Nat) (e : TypeId) (hk : t k = .one (.d .nilsl)) (h : W E P n c KK ⟨upd t k (.one (.row r.length 0 0 0)), b, r ++ [some ⟨false, 0, sz, e, []⟩], m⟩) : W E P n c KK ⟨t, b, r, m⟩ := by
  have hlive : ∀ x, (⟨upd t k (.one (.row r.length 0 0 0)), b, r ++ [some ⟨false, 0, sz, e, []⟩], m⟩ : St).live x → (⟨t, b, r, m⟩ : St).live x := fun x hx => by
    cases x with
    | b l => exact hx
    | m l => exact hx
    | r l =>
      obtain ⟨o, ho, hal⟩ := hx
      have ho : (r ++ [some ⟨false, 0, sz, e, []⟩])[l]? = some (some o) := ho
      by_cases hl : l < r.length
      · rw [List.getElem?_append_left hl] at ho; exact ⟨o, ho, hal⟩
      · rw [List.getElem?_append_right (by omega)] at ho
        have : l - r.length = 0 := by have := (List.getElem?_eq_some_iff.1 ho).1; simp at this; omega
        rw [this] at ho
        simp at ho; rw [← ho] at hal; cases hal
  refine h.weaken fun g a w rel => ?_
  have ext : Ext g (⟨t, b, r, m⟩ : St).sh w g (⟨upd t k (.one (.row r.length 0 0 0)), b, r ++ [some ⟨false, 0, sz, e, []⟩], m⟩ : St).sh w := by
    refine ⟨fun _ h => h, fun _ _ => rfl, Nat.le_refl _, Nat.le_refl _, by simp [St.sh], fun _ _ => rfl, fun _ _ => rfl, fun q al ver sz' len hq hh => ⟨al, ver, sz', len, ?_, Nat.le_refl _, fun _ => ⟨rfl, rfl, Nat.le_refl _, rfl, rfl, rfl⟩⟩⟩
    have hq' : q < r.length := by simpa [St.sh] using hq
    simpa [St.sh, List.getElem?_append_left hq', List.getElem?_append_left (show q < (r.map (·.map RowO.form)).length by simpa using hq')] using hh
  refine ⟨g, rel.below, rel.ext.trans ext, rel.imlt, rel.imold, fun x hx => rel.own x (hlive x hx), ⟨fun x hx => rel.heap.lt x (hlive x hx), fun x hx => rel.heap.new x (hlive x hx), fun x y hx hy => rel.heap.inj x y (hlive x hx) (hlive y hy), fun q cs hq => ?_, fun q o hq => ?_, fun q es hq => ?_⟩, rel.size, rel.defers, fun j hj => ?_⟩
  · obtain ⟨vs, ty, h1, h2, h3⟩ := rel.heap.box q cs hq
    exact ⟨vs, ty, h1, h2, fun j c v hc hv => (h3 j c v hc hv).mono ext⟩
  · have hq : (r ++ [some ⟨false, 0, sz, e, []⟩])[q]? = some (some o) := hq
    by_cases hl : q < r.length
    · rw [List.getElem?_append_left hl] at hq; exact rel.heap.row q o hq
    · rw [List.getElem?_append_right (by omega)] at hq
      have : q - r.length = 0 := by have := (List.getElem?_eq_some_iff.1 hq).1; simp at this; omega
      rw [this] at hq
      simp at hq; rw [← hq]; simp
  · obtain ⟨arr, clock, h1, h2, h3⟩ := rel.heap.map q es hq
    exact ⟨arr, clock, h1, h2, fun i x e hx he => ⟨(h3 i x e hx he).1.mono ext, (h3 i x e hx he).2.mono ext⟩⟩
  · cases hjk : Nat.beq k j with
    | true =>
      have hjk' : j = k := (Nat.eq_of_beq_eq_true hjk).symm
      have hup : (⟨upd t k (.one (.row r.length 0 0 0)), b, r ++ [some ⟨false, 0, sz, e, []⟩], m⟩ : St).t j = .one (.row r.length 0 0 0) := by show upd t k _ j = _; simp [upd, hjk]
      rw [hup]
      have hv := rel.tmps j hj
      have e1 : (⟨t, b, r, m⟩ : St).t j = .one (.d .nilsl) := by show t j = _; rw [hjk']; exact hk
      rw [e1] at hv
      generalize a.tmps.getD j undef = vv at hv ⊢
      cases hv with | one _ _ hv => cases hv with | d _ _ hv => 
      have hva : vv = .slice none 0 0 := by cases hv; rfl
      rw [hva]
      refine .one _ _ (.row _ _ _ _ _ rfl (by simp [St.sh]) (fun al ver' sz' len hh => ?_))
      have : (some (some (al, ver', sz', len)) : Option (Option _)) = some (some (false, 0, sz, 0)) := by rw [← hh]; simp [St.sh, RowO.form]
      simp only [Option.some.injEq, Prod.mk.injEq] at this
      obtain ⟨rfl, rfl, rfl, rfl⟩ := this
      exact ⟨Nat.le_refl _, fun _ => ⟨Nat.le_refl _, by simp⟩⟩
    | false =>
      have hup : (⟨upd t k (.one (.row r.length 0 0 0)), b, r ++ [some ⟨false, 0, sz, e, []⟩], m⟩ : St).t j = t j := by show upd t k _ j = _; simp [upd, hjk]
      rw [hup]
      exact (rel.tmps j hj).mono ext
def updL (t : Nat → V) : List Nat → V → Nat → V
  | [], _ => t
  | k :: ks, v => upd (updL t ks v) k v
theorem updL_or (t : Nat → V) (v : V) : ∀ (ks : List Nat) (j : Nat), (updL t ks v j = v ∧ j ∈ ks) ∨ updL t ks v j = t j
  | [], j => .inr rfl
  | k :: ks, j => by
    cases h : Nat.beq k j with
    | true => exact .inl ⟨by simp [updL, upd, h], by rw [(Nat.eq_of_beq_eq_true h)]; exact List.mem_cons_self ..⟩
    | false =>
      have e : updL t (k :: ks) v j = updL t ks v j := by simp [updL, upd, h]
      rw [e]
      rcases updL_or t v ks j with ⟨h1, h2⟩ | h1
      · exact .inl ⟨h1, List.mem_cons_of_mem _ h2⟩
      · exact .inr h1
theorem W.freeze {c : Code} {KK : Ex → St → Prop} {ri : Nat} {q : RowO} (ks : List Nat) (hq : r[ri]? = some (some q)) (hk : ∀ k ∈ ks, t k = .one (.row ri q.ver 0 q.xs.length))
    (h : W E P n c KK ⟨updL t ks (.one (.d (.vec q.sz q.xs))), b, r.set ri none, m⟩) : W E P n c KK ⟨t, b, r, m⟩ := by
  have hr : ri < r.length := (List.getElem?_eq_some_iff.1 hq).1
  have hlive : ∀ x, (⟨updL t ks (.one (.d (.vec q.sz q.xs))), b, r.set ri none, m⟩ : St).live x → (⟨t, b, r, m⟩ : St).live x ∧ x ≠ .r ri := fun x hx => by
    cases x with
    | b l => exact ⟨hx, by simp⟩
    | m l => exact ⟨hx, by simp⟩
    | r l =>
      obtain ⟨o, ho, hal⟩ := hx
      have ho : (r.set ri none)[l]? = some (some o) := ho
      by_cases e : ri = l
      · subst e; simp [List.getElem?_set, hr] at ho
      · exact ⟨⟨o, by simpa [List.getElem?_set, e] using ho, hal⟩, fun h => e (by injection h with h; exact h.symm)⟩
  refine h.weaken fun g a w rel => ?_
  have ho : (⟨t, b, r, m⟩ : St).r[ri]? = some (some q) := hq
  have hrl : q.al = true → (⟨t, b, r, m⟩ : St).live (.r ri) := fun h => ⟨q, hq, h⟩
  have ext : Ext g (⟨t, b, r, m⟩ : St).sh w ⟨fun x => g.im x ∨ (q.al = true ∧ x = g.at_ (.r ri)), g.at_, g.off, g.cap⟩ (⟨updL t ks (.one (.d (.vec q.sz q.xs))), b, r.set ri none, m⟩ : St).sh w := by
    refine ⟨fun _ h => .inl h, fun _ _ => rfl, Nat.le_refl _, Nat.le_refl _, by simp [St.sh], fun _ _ => rfl, fun _ _ => rfl, fun k al ver sz' len hk' hh => ?_⟩
    by_cases e : ri = k
    · subst e; simp [St.sh, List.getElem?_set, hr] at hh
    · exact ⟨al, ver, sz', len, by simpa [St.sh, List.getElem?_set, e] using hh, Nat.le_refl _, fun _ => ⟨rfl, rfl, Nat.le_refl _, rfl, rfl, rfl⟩⟩
  refine ⟨⟨fun x => g.im x ∨ (q.al = true ∧ x = g.at_ (.r ri)), g.at_, g.off, g.cap⟩, rel.below, rel.ext.trans ext, fun x hx => ?_, fun x hx => ?_, fun x hx => rel.own x (hlive x hx).1, ⟨fun x hx => rel.heap.lt x (hlive x hx).1, fun x hx => ?_, fun x y hx hy => rel.heap.inj x y (hlive x hx).1 (hlive y hy).1, fun k cs hk' => ?_, fun k o hk' => ?_, fun k es hk' => ?_⟩, rel.size, rel.defers, fun j hj => ?_⟩
  · rcases hx with h | ⟨h1, h2⟩
    · exact rel.imlt x h
    · rw [h2]; exact rel.heap.lt _ (hrl h1)
  · rcases hx with h | ⟨h1, h2⟩
    · exact rel.imold x h
    · rw [h2]; exact .inr (rel.own _ (hrl h1))
  · rintro (h | ⟨h1, h2⟩)
    · exact rel.heap.new x (hlive x hx).1 h
    · exact (hlive x hx).2 (rel.heap.inj x _ (hlive x hx).1 (hrl h1) h2)
  · obtain ⟨vs, ty, h1, h2, h3⟩ := rel.heap.box k cs hk'
    exact ⟨vs, ty, h1, h2, fun j c v hc hv => (h3 j c v hc hv).mono ext⟩
  · have hk' : (r.set ri none)[k]? = some (some o) := hk'
    by_cases e : ri = k
    · subst e; simp [List.getElem?_set, hr] at hk'
    · have h1 := rel.heap.row k o (by simpa [List.getElem?_set, e] using hk')
      by_cases hal : o.al = true
      · rw [if_pos hal] at h1 ⊢
        obtain ⟨vs, t', q1, q2, q3, q4, q5, q6⟩ := h1
        exact ⟨vs, t', q1, q2, q3, q4, q5, fun i j x d v p1 p2 p3 => (q6 i j x d v p1 p2 p3).mono ext.im ext.same⟩
      · rw [if_neg hal] at h1 ⊢; exact h1
  · obtain ⟨arr, clock, h1, h2, h3⟩ := rel.heap.map k es hk'
    exact ⟨arr, clock, h1, h2, fun i x e hx he => ⟨(h3 i x e hx he).1.mono ext, (h3 i x e hx he).2.mono ext⟩⟩
  · rcases updL_or t (.one (.d (.vec q.sz q.xs))) ks j with ⟨h1, h2⟩ | h1
    · have hup : (⟨updL t ks (.one (.d (.vec q.sz q.xs))), b, r.set ri none, m⟩ : St).t j = .one (.d (.vec q.sz q.xs)) := h1
      rw [hup]
      have hv := rel.tmps j hj
      have e1 : (⟨t, b, r, m⟩ : St).t j = .one (.row ri q.ver 0 q.xs.length) := hk j h2
      rw [e1] at hv
      obtain ⟨flat, hown, hnil, hblk, hcells, hrows⟩ := row_form rel ho hv
      refine .one _ _ (.d _ _ ?_)
      rcases hown.2 with ⟨hv2, h0⟩ | ⟨bb, cap, cur, hv2, hb2, hc2, hn2, hm2, hs2, ht2⟩
      · rw [hv2, List.length_eq_zero_iff.1 h0]; exact .empty _ _ _
      · have hal : q.al = true := by
          cases hh : q.al with
          | true => rfl
          | false => have := hnil.2 hh; rw [this] at hv2; cases hv2
        have hbb : bb = g.at_ (.r ri) := by have := hblk hal; rw [hv2] at this; exact Option.some.inj this
        by_cases hne : q.xs = []
        · rw [hv2, hne]; exact .empty _ _ _
        · rw [hv2]
          have hat : ∀ (i j : Nat) (x : List D) (d : D), q.xs[i]? = some x → x[j]? = some d → ∃ v, w.cell? ⟨bb, 0 + i * q.sz + j, none⟩ = some v ∧ RD (fun x => g.im x ∨ (q.al = true ∧ x = g.at_ (.r ri))) w d v := fun i j x d p1 p2 => by
            have hj' : j < q.sz := by
              have h3 := (List.getElem?_eq_some_iff.1 p2).1
              rw [hrows x (List.mem_of_getElem? p1)] at h3; exact h3
            have hi := (List.getElem?_eq_some_iff.1 p1).1
            have hk2 : i * q.sz + j < q.xs.length * q.sz := by
              have := Nat.mul_le_mul_right q.sz (show i + 1 ≤ q.xs.length from hi)
              rw [Nat.add_mul, Nat.one_mul] at this; omega
            have hf : flat[i * q.sz + j]? = some (flat[i * q.sz + j]'(by rw [hown.1]; exact hk2)) := List.getElem?_eq_getElem _
            refine ⟨_, ?_, (hcells i j x d _ p1 p2 hf).mono (fun _ h => .inl h) (fun _ _ => rfl)⟩
            have hf2 : (cur.toList.take (q.xs.length * q.sz))[i * q.sz + j]? = some (flat[i * q.sz + j]'(by rw [hown.1]; exact hk2)) := by rw [ht2]; exact hf
            rw [List.getElem?_take, if_pos hk2] at hf2
            simp only [Nat.zero_add, World.cell?, hc2, Option.isSome_none, Bool.false_eq_true, if_false]
            simpa using hf2
          exact RD.vec q.sz q.xs bb 0 cap (fun i j => (w.cell? ⟨bb, 0 + i * q.sz + j, none⟩).getD undef) hne hn2 (.inr ⟨hal, hbb⟩) hrows
            (fun i j x d p1 p2 => by obtain ⟨v, h3, _⟩ := hat i j x d p1 p2; rw [h3]; rfl)
            (fun i j x d p1 p2 => by obtain ⟨v, h3, h4⟩ := hat i j x d p1 p2; simp only [h3, Option.getD_some]; exact h4)
    · have hup : (⟨updL t ks (.one (.d (.vec q.sz q.xs))), b, r.set ri none, m⟩ : St).t j = t j := h1
      rw [hup]
      exact (rel.tmps j hj).mono ext
theorem S.append (hT : TabOk P T) {tt e : TypeId} {ti ei : TI} {x y : Operand} {ri ver sz ln : Nat} {al al' : Bool} {te : TypeId} {xs news ys : List (List D)} {r' : List (Option RowO)} (hti : T tt = some ti) (hd : ti.desc = .slice e) (hei : T e = some ei)
    (hz : ei.zero.cells.size = ei.size) (hpos : Nat.blt 0 ei.size = true) (hby : Nat.ble ei.bytes 4096 = true) (hx : opd n ⟨t, b, r, m⟩ x = (true, .one (.row ri ver 0 ln))) (hy : opd n ⟨t, b, r, m⟩ y = (true, .one (.d (.vec sz news))))
    (hq : r[ri]? = some (some ⟨al, ver, sz, te, xs⟩)) (hln : ln = xs.length) (hsz : sz = ei.size) (hty : te = e) (hlen : xs.length + news.length ≤ 34359738368)
    (hal : (al || !news.isEmpty) = al') (hys : xs ++ news = ys) (hr : forceL (r.set ri (some ⟨al', ver + 1, sz, te, ys⟩)) = some r')
    (k : WL E P n ops l K ⟨upd t i (.one (.row ri (ver + 1) 0 ys.length)), b, r', m⟩) : WL E P n ops (⟨some i, .call ⟨.builtin .append, #[x, y], #[tt, tt]⟩, ty, pos, after, none⟩ :: l) K ⟨t, b, r, m⟩ := by
  subst hln; subst hsz; subst hal; subst hys
  obtain rfl := forceL_eq hr
  have hb : (xs.length + news.length) * ei.bytes ≤ 140737488355328 := by
    have h1 : ei.bytes ≤ 4096 := Nat.le_of_ble_eq_true hby
    have := Nat.mul_le_mul hlen h1
    omega
  exact Step.append (s := ⟨t, b, r, m⟩) (q := ⟨al, ver, ei.size, te, xs⟩) (o := ⟨some i, .call ⟨.builtin .append, #[x, y], #[tt, tt]⟩, ty, pos, after, none⟩) hT rfl rfl hti hd hei hz (by simpa [Nat.blt_eq] using hpos) hx hy hq rfl hty (by simp only [maxLen]; omega) hb k
theorem pred_nat {i : Nat} (hi : i ≤ 4611686018427387904) : (IntKind.i64.wrap ((i : Int) - 1)).toNat = i - 1 := by
  rw [wrap_i64 (by omega) (by omega)]; omega
theorem row_pred {α : Type} {f : α → List D} {l : List α} (d : α) {i : Nat} (h : i < l.length) (hi : i ≤ 4611686018427387904) : V.one (.eptr ((l.map f).getD (IntKind.i64.wrap ((i : Int) - 1)).toNat [])) = V.one (.eptr (f (l.getD (i - 1) d))) := by
  rw [pred_nat hi]
  have : i - 1 < l.length := by omega
  simp [List.getD, List.getElem?_eq_getElem this]
theorem pred_ok {α : Type} {f : α → List D} {l : List α} {i : Nat} (h0 : decide ((i : Int) > 0) = true) (h : i < l.length) (hi : i ≤ 4611686018427387904) :
    (decide (0 ≤ IntKind.i64.wrap ((i : Int) - 1)) && decide (IntKind.i64.wrap ((i : Int) - 1) < ((l.map f).length : Int))) = true := by
  have h1 := of_decide_eq_true h0
  rw [wrap_i64 (by omega) (by omega)]; simp; omega
theorem take_snoc {α β : Type} {f : α → β} {l : List α} {i : Nat} (d : α) (h : i < l.length) : (l.take i).map f ++ [f (l.getD i d)] = (l.take (i + 1)).map f := by
  rw [List.take_add_one, List.getElem?_eq_getElem h, List.map_append]
  simp [List.getD, List.getElem?_eq_getElem h]
end Go.Proofs.YtcchfmilleffjaaGreatDoor
namespace Go.Proofs.YtcchfmilleffjaaGreatDoor
open Go Go.RowKit
mutual
def loC (L R M : Nat) : C → Bool
  | .ptr l _ => Nat.blt l L
  | .row r _ _ _ => Nat.blt r R
  | .rptr r _ _ _ => Nat.blt r R
  | .map m => Nat.blt m M
  | .clo _ cs => loCs L R M cs
  | _ => true
def loCs (L R M : Nat) : List C → Bool
  | [] => true
  | c :: l => loC L R M c && loCs L R M l
end
mutual
def loV (L R M : Nat) : V → Bool
  | .one c => loC L R M c
  | .agg cs => loCs L R M cs
  | .tup vs => loVs L R M vs
  | .when _ v => loV L R M v
  | .junk => true
def loVs (L R M : Nat) : List V → Bool
  | [] => true
  | c :: l => loV L R M c && loVs L R M l
end
theorem loCs_at {L R M : Nat} : ∀ {l : List C}, loCs L R M l = true → ∀ (i : Nat) (c : C), l[i]? = some c → loC L R M c = true
  | [], _, i, c, h => by simp at h
  | x :: l, h, 0, c, hc => by simp at hc; subst hc; exact (Bool.and_eq_true_iff.1 (by simpa [loCs] using h)).1
  | x :: l, h, i + 1, c, hc => by simp at hc; exact loCs_at (Bool.and_eq_true_iff.1 (by simpa [loCs] using h)).2 i c hc
theorem loVs_at {L R M : Nat} : ∀ {l : List V}, loVs L R M l = true → ∀ (i : Nat) (c : V), l[i]? = some c → loV L R M c = true
  | [], _, i, c, h => by simp at h
  | x :: l, h, 0, c, hc => by simp at hc; subst hc; exact (Bool.and_eq_true_iff.1 (by simpa [loVs] using h)).1
  | x :: l, h, i + 1, c, hc => by simp at hc; exact loVs_at (Bool.and_eq_true_iff.1 (by simpa [loVs] using h)).2 i c hc
theorem RC.lo {g : Gh} {h : Sh} {w : World} {c : C} {v : Value} (hx : RC g h w c v) (L R M : Nat) (hR : R ≤ h.rows.length) (hl : loC L R M c = true) : RC g ⟨L, h.rows.take R, M⟩ w c v := by
  induction hx with
  | d x v hx => exact .d _ _ hx
  | ptr l off _ => exact .ptr _ _ (by simpa [loC, Nat.blt_eq] using hl)
  | eptr cells b o u hb h1 h2 => exact .eptr cells b o u hb h1 h2
  | row r ver off n v hv hr hx =>
    have hlt : r < R := by simpa [loC, Nat.blt_eq] using hl
    exact .row _ _ _ _ _ hv (by simp; omega) (fun al ver' sz len h1 => hx al ver' sz len (by simpa [List.getElem?_take, hlt] using h1))
  | rptr r ver i fo v hv hr hx =>
    have hlt : r < R := by simpa [loC, Nat.blt_eq] using hl
    exact .rptr _ _ _ _ _ hv (by simp; omega) (fun al ver' sz len h1 => hx al ver' sz len (by simpa [List.getElem?_take, hlt] using h1))
  | map m hm => exact .map _ (by simpa [loC, Nat.blt_eq] using hl)
  | clo f caps vs hl' h ih => exact .clo f caps vs hl' (fun i c v h1 h2 => ih i c v h1 h2 (loCs_at (by simpa [loC] using hl) i c h1))
  | junk v h => exact .junk v h
theorem RV.lo {g : Gh} {h : Sh} {w : World} {c : V} {v : Value} (hx : RV g h w c v) (L R M : Nat) (hR : R ≤ h.rows.length) (hl : loV L R M c = true) : RV g ⟨L, h.rows.take R, M⟩ w c v := by
  induction hx with
  | one c v h => exact .one _ _ (h.lo L R M hR (by simpa [loV] using hl))
  | agg cs vs hl' h => exact .agg cs vs hl' (fun i c v h1 h2 => (h i c v h1 h2).lo L R M hR (loCs_at (by simpa [loV] using hl) i c h1))
  | tup us vs hl' h ih => exact .tup us vs hl' (fun i u v h1 h2 => ih i u v h1 h2 (loVs_at (by simpa [loV] using hl) i u h1))
  | whenT u v h ih => exact .whenT _ _ (ih (by simpa [loV] using hl))
  | whenF u => exact .whenF _
  | junk v => exact .junk v
def loL (L R M : Nat) : List (Nat × V) → Bool
  | [] => true
  | (_, v) :: l => loV L R M v && loL L R M l
def loB (L R M : Nat) : List (List C) → Bool
  | [] => true
  | c :: l => loCs L R M c && loB L R M l
theorem loL_of {L R M : Nat} : ∀ {l : List (Nat × V)}, loL L R M l = true → ∀ j, loV L R M (ofL l j) = true
  | [], _, j => rfl
  | (k, v) :: l, h, j => by
    simp only [loL, Bool.and_eq_true] at h
    unfold ofL
    cases k.beq j with
    | true => exact h.1
    | false => exact loL_of h.2 j
theorem loB_at {L R M : Nat} : ∀ {l : List (List C)}, loB L R M l = true → ∀ (i : Nat) (c : List C), l[i]? = some c → loCs L R M c = true
  | [], _, i, c, h => by simp at h
  | x :: l, h, 0, c, hc => by simp at hc; subst hc; exact (Bool.and_eq_true_iff.1 (by simpa [loB] using h)).1
  | x :: l, h, i + 1, c, hc => by simp at hc; exact loB_at (Bool.and_eq_true_iff.1 (by simpa [loB] using h)).2 i c hc
theorem loDV (L R M : Nat) (x : DV) : loV L R M x.v = true := by
  cases x with
  | one d => rfl
  | st _ _ d => rfl
  | agg ds =>
    show loCs L R M (ds.map .d) = true
    induction ds with
    | nil => rfl
    | cons d ds ih => simpa [loCs, loC] using ih
theorem Rel.keep {J : Inv} {k0 : Lens} {E : Env J k0} {n : Nat} {t : Nat → V} {g : Gh} {a : Act} {w : World} (l : List (Nat × V)) (b1 b2 : List (List C)) (r1 r2 : List (Option RowO)) (m1 m2 : List (List (DV × DV))) (hl : holdsL t l)
    (hlow : ((loL b1.length r1.length m1.length l && loB b1.length r1.length m1.length b1) && (Nat.ble k0.L b1.length && (Nat.ble k0.R r1.length && Nat.ble k0.M m1.length))) = true) (rel : Rel E n g ⟨t, b1 ++ b2, r1 ++ r2, m1 ++ m2⟩ a w) : Rel E n g ⟨ofL l, b1, r1, m1⟩ a w := by
  simp only [Bool.and_eq_true] at hlow
  obtain ⟨hlow, hkL, hkR, hkM⟩ := hlow
  have hget : ∀ q o, r1[q]? = some o → (r1 ++ r2)[q]? = some o := fun q o hq => by
    rw [List.getElem?_append_left (List.getElem?_eq_some_iff.1 hq).1]; exact hq
  have hlive : ∀ x, (⟨ofL l, b1, r1, m1⟩ : St).live x → (⟨t, b1 ++ b2, r1 ++ r2, m1 ++ m2⟩ : St).live x := fun x hx => by
    cases x with
    | b q => exact Nat.lt_of_lt_of_le hx (by simp)
    | r q => obtain ⟨o, ho, hal⟩ := hx; exact ⟨o, hget q _ ho, hal⟩
    | m q => exact Nat.lt_of_lt_of_le hx (by simp)
  have hsh : (⟨ofL l, b1, r1, m1⟩ : St).sh = ⟨b1.length, (⟨t, b1 ++ b2, r1 ++ r2, m1 ++ m2⟩ : St).sh.rows.take r1.length, m1.length⟩ := by simp [St.sh]
  have hR : r1.length ≤ (⟨t, b1 ++ b2, r1 ++ r2, m1 ++ m2⟩ : St).sh.rows.length := by simp [St.sh]
  refine ⟨rel.below, ?_, rel.imlt, rel.imold, fun x hx => rel.own x (hlive x hx), ⟨fun x hx => rel.heap.lt x (hlive x hx), fun x hx => rel.heap.new x (hlive x hx), fun x y hx hy => rel.heap.inj x y (hlive x hx) (hlive y hy), fun q cs hq => ?_, fun q o hq => rel.heap.row q o (hget q _ hq), fun q es hq => ?_⟩, rel.size, rel.defers, fun i hi => ?_⟩
  · have e := rel.ext
    refine ⟨e.im, e.same, ?_, ?_, ?_, e.atB, e.atM, fun r al ver sz len hr hx => e.rows r al ver sz len hr ?_⟩
    · rw [E.hL]; exact Nat.le_of_ble_eq_true hkL
    · rw [E.hM]; exact Nat.le_of_ble_eq_true hkM
    · rw [E.hR]; simpa [St.sh] using Nat.le_of_ble_eq_true hkR
    · rw [hsh] at hx
      simp only [List.getElem?_take] at hx
      split at hx
      · exact hx
      · cases hx
  · have hq' : (b1 ++ b2)[q]? = some cs := by
      rw [List.getElem?_append_left (List.getElem?_eq_some_iff.1 hq).1]; exact hq
    obtain ⟨vs, ty, h1, h2, h3⟩ := rel.heap.box q cs hq'
    refine ⟨vs, ty, h1, h2, fun j c v hc hv => ?_⟩
    rw [hsh]
    exact (h3 j c v hc hv).lo b1.length r1.length m1.length hR (loCs_at (loB_at hlow.2 q cs hq) j c hc)
  · have hq' : (m1 ++ m2)[q]? = some es := by
      rw [List.getElem?_append_left (List.getElem?_eq_some_iff.1 hq).1]; exact hq
    obtain ⟨arr, clock, h1, h2, h3⟩ := rel.heap.map q es hq'
    refine ⟨arr, clock, h1, h2, fun i x e hx he => ?_⟩
    rw [hsh]
    exact ⟨(h3 i x e hx he).1.lo b1.length r1.length m1.length hR (loDV _ _ _ x.1), (h3 i x e hx he).2.lo b1.length r1.length m1.length hR (loDV _ _ _ x.2)⟩
  · rw [hsh]
    show RV _ _ _ (ofL l i) _
    rcases ofL_or t l hl i with h | h
    · rw [h]; exact .junk _
    · have h1 := loL_of hlow.1 i
      rw [h] at h1 ⊢
      exact (rel.tmps i hi).lo b1.length r1.length m1.length hR h1
theorem W.keepR {J : Inv} {k0 : Lens} {E : Env J k0} {P : Program} {n : Nat} {t : Nat → V} {c : Code} {K : Ex → St → Prop} (l : List (Nat × V)) (b1 b2 : List (List C)) (r1 r2 : List (Option RowO)) (m1 m2 : List (List (DV × DV))) (hl : holdsL t l)
    (hlow : ((loL b1.length r1.length m1.length l && loB b1.length r1.length m1.length b1) && (Nat.ble k0.L b1.length && (Nat.ble k0.R r1.length && Nat.ble k0.M m1.length))) = true) (h : W E P n c K ⟨ofL l, b1, r1, m1⟩) : W E P n c K ⟨t, b1 ++ b2, r1 ++ r2, m1 ++ m2⟩ :=
  h.weaken fun g a w rel => ⟨g, Rel.keep l b1 b2 r1 r2 m1 m2 hl hlow rel⟩
end Go.Proofs.YtcchfmilleffjaaGreatDoor
namespace Go.Proofs.YtcchfmilleffjaaGreatDoor
open Go
theorem tiOk_of {P : Program} {t : TypeId} {i : TI} (h1 : P.underlying t = some i.desc) (h2 : (P.info? t).map (fun x => (x.size, x.zero, x.bytes)) = some (i.size, some i.zero, i.bytes))
    (h3 : i.plain = true → P.eqGuardType P.depth t = false ∧ P.stoodInHeld t = false) : TiOk P t i := by
  refine ⟨h1, ?_⟩
  cases h : P.info? t with
  | none => rw [h] at h2; cases h2
  | some x =>
    rw [h] at h2
    simp only [Option.map_some, Option.some.injEq, Prod.mk.injEq] at h2
    exact ⟨x, rfl, h2.1, h2.2.1, h2.2.2, h3⟩
def ty2 : TI := { desc := .int .i64, size := 1, zero := .int .i64 0, bytes := 8, plain := false }
theorem ty2_ok : TiOk Tryz.prog 2 ty2 := tiOk_of (by kernel_rfl) (by kernel_rfl) (fun h => by cases h)
def ty3 : TI := { desc := .int .i64, size := 1, zero := .int .i64 0, bytes := 8, plain := false }
theorem ty3_ok : TiOk Tryz.prog 3 ty3 := tiOk_of (by kernel_rfl) (by kernel_rfl) (fun h => by cases h)
def ty4 : TI := { desc := .bool, size := 1, zero := .bool false, bytes := 1, plain := false }
theorem ty4_ok : TiOk Tryz.prog 4 ty4 := tiOk_of (by kernel_rfl) (by kernel_rfl) (fun h => by cases h)
def ty5 : TI := { desc := .int .u8, size := 1, zero := .int .u8 0, bytes := 1, plain := false }
theorem ty5_ok : TiOk Tryz.prog 5 ty5 := tiOk_of (by kernel_rfl) (by kernel_rfl) (fun h => by cases h)
def ty9 : TI := { desc := .string, size := 1, zero := .string ⟨#[]⟩, bytes := 16, plain := false }
theorem ty9_ok : TiOk Tryz.prog 9 ty9 := tiOk_of (by kernel_rfl) (by kernel_rfl) (fun h => by cases h)
def ty12 : TI := { desc := .int .u64, size := 1, zero := .int .u64 0, bytes := 8, plain := false }
theorem ty12_ok : TiOk Tryz.prog 12 ty12 := tiOk_of (by kernel_rfl) (by kernel_rfl) (fun h => by cases h)
def ty13 : TI := { desc := .struct #[{ name := "msg", type := 9, offset := 0, embedded := false, tag := "", pkgPath := "runtime", byteOffset := 0 }, { name := "addr", type := 12, offset := 1, embedded := false, tag := "", pkgPath := "runtime", byteOffset := 16 }], size := 2, zero := .agg #[.string ⟨#[]⟩, .int .u64 0], bytes := 24, plain := false }
theorem ty13_ok : TiOk Tryz.prog 13 ty13 := tiOk_of (by kernel_rfl) (by kernel_rfl) (fun h => by cases h)
def ty20 : TI := { desc := .interface #[], size := 1, zero := .nilIface, bytes := 16, plain := false }
theorem ty20_ok : TiOk Tryz.prog 20 ty20 := tiOk_of (by kernel_rfl) (by kernel_rfl) (fun h => by cases h)
def ty21 : TI := { desc := .int .i32, size := 1, zero := .int .i32 0, bytes := 4, plain := false }
theorem ty21_ok : TiOk Tryz.prog 21 ty21 := tiOk_of (by kernel_rfl) (by kernel_rfl) (fun h => by cases h)
def ty22 : TI := { desc := .slice 40, size := 1, zero := .slice none 0 0, bytes := 24, plain := false }
theorem ty22_ok : TiOk Tryz.prog 22 ty22 := tiOk_of (by kernel_rfl) (by kernel_rfl) (fun h => by cases h)
def ty23 : TI := { desc := .slice 38, size := 1, zero := .slice none 0 0, bytes := 24, plain := false }
theorem ty23_ok : TiOk Tryz.prog 23 ty23 := tiOk_of (by kernel_rfl) (by kernel_rfl) (fun h => by cases h)
def ty24 : TI := { desc := .slice 42, size := 1, zero := .slice none 0 0, bytes := 24, plain := false }
theorem ty24_ok : TiOk Tryz.prog 24 ty24 := tiOk_of (by kernel_rfl) (by kernel_rfl) (fun h => by cases h)
def ty25 : TI := { desc := .struct #[{ name := "Facts", type := 22, offset := 0, embedded := false, tag := "", pkgPath := "", byteOffset := 0 }, { name := "Files", type := 23, offset := 1, embedded := false, tag := "", pkgPath := "", byteOffset := 24 }, { name := "Settings", type := 22, offset := 2, embedded := false, tag := "", pkgPath := "", byteOffset := 48 }, { name := "Services", type := 24, offset := 3, embedded := false, tag := "", pkgPath := "", byteOffset := 72 }], size := 4, zero := .agg #[.slice none 0 0, .slice none 0 0, .slice none 0 0, .slice none 0 0], bytes := 96, plain := false }
theorem ty25_ok : TiOk Tryz.prog 25 ty25 := tiOk_of (by kernel_rfl) (by kernel_rfl) (fun h => by cases h)
def ty26 : TI := { desc := .struct #[{ name := "Facts", type := 22, offset := 0, embedded := false, tag := "", pkgPath := "", byteOffset := 0 }, { name := "Files", type := 23, offset := 1, embedded := false, tag := "", pkgPath := "", byteOffset := 24 }, { name := "Settings", type := 22, offset := 2, embedded := false, tag := "", pkgPath := "", byteOffset := 48 }, { name := "Services", type := 24, offset := 3, embedded := false, tag := "", pkgPath := "", byteOffset := 72 }], size := 4, zero := .agg #[.slice none 0 0, .slice none 0 0, .slice none 0 0, .slice none 0 0], bytes := 96, plain := false }
theorem ty26_ok : TiOk Tryz.prog 26 ty26 := tiOk_of (by kernel_rfl) (by kernel_rfl) (fun h => by cases h)
def ty27 : TI := { desc := .slice 35, size := 1, zero := .slice none 0 0, bytes := 24, plain := false }
theorem ty27_ok : TiOk Tryz.prog 27 ty27 := tiOk_of (by kernel_rfl) (by kernel_rfl) (fun h => by cases h)
def ty28 : TI := { desc := .slice 44, size := 1, zero := .slice none 0 0, bytes := 24, plain := false }
theorem ty28_ok : TiOk Tryz.prog 28 ty28 := tiOk_of (by kernel_rfl) (by kernel_rfl) (fun h => by cases h)
def ty29 : TI := { desc := .int .i64, size := 1, zero := .int .i64 0, bytes := 8, plain := false }
theorem ty29_ok : TiOk Tryz.prog 29 ty29 := tiOk_of (by kernel_rfl) (by kernel_rfl) (fun h => by cases h)
def ty34 : TI := { desc := .struct #[{ name := "Kind", type := 3, offset := 0, embedded := false, tag := "", pkgPath := "", byteOffset := 0 }, { name := "Name", type := 9, offset := 1, embedded := false, tag := "", pkgPath := "", byteOffset := 8 }, { name := "Value", type := 9, offset := 2, embedded := false, tag := "", pkgPath := "", byteOffset := 24 }], size := 3, zero := .agg #[.int .i64 0, .string ⟨#[]⟩, .string ⟨#[]⟩], bytes := 40, plain := true }
theorem ty34_ok : TiOk Tryz.prog 34 ty34 := tiOk_of (by kernel_rfl) (by kernel_rfl) (fun _ => ⟨by kernel_rfl, by kernel_rfl⟩)
def ty35 : TI := { desc := .struct #[{ name := "Kind", type := 3, offset := 0, embedded := false, tag := "", pkgPath := "", byteOffset := 0 }, { name := "Name", type := 9, offset := 1, embedded := false, tag := "", pkgPath := "", byteOffset := 8 }, { name := "Value", type := 9, offset := 2, embedded := false, tag := "", pkgPath := "", byteOffset := 24 }], size := 3, zero := .agg #[.int .i64 0, .string ⟨#[]⟩, .string ⟨#[]⟩], bytes := 40, plain := true }
theorem ty35_ok : TiOk Tryz.prog 35 ty35 := tiOk_of (by kernel_rfl) (by kernel_rfl) (fun _ => ⟨by kernel_rfl, by kernel_rfl⟩)
def ty37 : TI := { desc := .struct #[{ name := "Path", type := 9, offset := 0, embedded := false, tag := "", pkgPath := "", byteOffset := 0 }, { name := "Data", type := 9, offset := 1, embedded := false, tag := "", pkgPath := "", byteOffset := 16 }, { name := "Runs", type := 4, offset := 2, embedded := false, tag := "", pkgPath := "", byteOffset := 32 }], size := 3, zero := .agg #[.string ⟨#[]⟩, .string ⟨#[]⟩, .bool false], bytes := 40, plain := true }
theorem ty37_ok : TiOk Tryz.prog 37 ty37 := tiOk_of (by kernel_rfl) (by kernel_rfl) (fun _ => ⟨by kernel_rfl, by kernel_rfl⟩)
def ty38 : TI := { desc := .struct #[{ name := "Path", type := 9, offset := 0, embedded := false, tag := "", pkgPath := "", byteOffset := 0 }, { name := "Data", type := 9, offset := 1, embedded := false, tag := "", pkgPath := "", byteOffset := 16 }, { name := "Runs", type := 4, offset := 2, embedded := false, tag := "", pkgPath := "", byteOffset := 32 }], size := 3, zero := .agg #[.string ⟨#[]⟩, .string ⟨#[]⟩, .bool false], bytes := 40, plain := true }
theorem ty38_ok : TiOk Tryz.prog 38 ty38 := tiOk_of (by kernel_rfl) (by kernel_rfl) (fun _ => ⟨by kernel_rfl, by kernel_rfl⟩)
def ty39 : TI := { desc := .struct #[{ name := "Key", type := 9, offset := 0, embedded := false, tag := "", pkgPath := "", byteOffset := 0 }, { name := "Value", type := 9, offset := 1, embedded := false, tag := "", pkgPath := "", byteOffset := 16 }], size := 2, zero := .agg #[.string ⟨#[]⟩, .string ⟨#[]⟩], bytes := 32, plain := true }
theorem ty39_ok : TiOk Tryz.prog 39 ty39 := tiOk_of (by kernel_rfl) (by kernel_rfl) (fun _ => ⟨by kernel_rfl, by kernel_rfl⟩)
def ty40 : TI := { desc := .struct #[{ name := "Key", type := 9, offset := 0, embedded := false, tag := "", pkgPath := "", byteOffset := 0 }, { name := "Value", type := 9, offset := 1, embedded := false, tag := "", pkgPath := "", byteOffset := 16 }], size := 2, zero := .agg #[.string ⟨#[]⟩, .string ⟨#[]⟩], bytes := 32, plain := true }
theorem ty40_ok : TiOk Tryz.prog 40 ty40 := tiOk_of (by kernel_rfl) (by kernel_rfl) (fun _ => ⟨by kernel_rfl, by kernel_rfl⟩)
def ty41 : TI := { desc := .struct #[{ name := "Name", type := 9, offset := 0, embedded := false, tag := "", pkgPath := "", byteOffset := 0 }, { name := "Path", type := 9, offset := 1, embedded := false, tag := "", pkgPath := "", byteOffset := 16 }, { name := "Auto", type := 4, offset := 2, embedded := false, tag := "", pkgPath := "", byteOffset := 32 }, { name := "On", type := 4, offset := 3, embedded := false, tag := "", pkgPath := "", byteOffset := 33 }], size := 4, zero := .agg #[.string ⟨#[]⟩, .string ⟨#[]⟩, .bool false, .bool false], bytes := 40, plain := true }
theorem ty41_ok : TiOk Tryz.prog 41 ty41 := tiOk_of (by kernel_rfl) (by kernel_rfl) (fun _ => ⟨by kernel_rfl, by kernel_rfl⟩)
def ty42 : TI := { desc := .struct #[{ name := "Name", type := 9, offset := 0, embedded := false, tag := "", pkgPath := "", byteOffset := 0 }, { name := "Path", type := 9, offset := 1, embedded := false, tag := "", pkgPath := "", byteOffset := 16 }, { name := "Auto", type := 4, offset := 2, embedded := false, tag := "", pkgPath := "", byteOffset := 32 }, { name := "On", type := 4, offset := 3, embedded := false, tag := "", pkgPath := "", byteOffset := 33 }], size := 4, zero := .agg #[.string ⟨#[]⟩, .string ⟨#[]⟩, .bool false, .bool false], bytes := 40, plain := true }
theorem ty42_ok : TiOk Tryz.prog 42 ty42 := tiOk_of (by kernel_rfl) (by kernel_rfl) (fun _ => ⟨by kernel_rfl, by kernel_rfl⟩)
def ty43 : TI := { desc := .struct #[{ name := "Kind", type := 3, offset := 0, embedded := false, tag := "", pkgPath := "", byteOffset := 0 }, { name := "File", type := 38, offset := 1, embedded := false, tag := "", pkgPath := "", byteOffset := 8 }, { name := "Setting", type := 40, offset := 4, embedded := false, tag := "", pkgPath := "", byteOffset := 48 }, { name := "Service", type := 42, offset := 6, embedded := false, tag := "", pkgPath := "", byteOffset := 80 }], size := 10, zero := .agg #[.int .i64 0, .string ⟨#[]⟩, .string ⟨#[]⟩, .bool false, .string ⟨#[]⟩, .string ⟨#[]⟩, .string ⟨#[]⟩, .string ⟨#[]⟩, .bool false, .bool false], bytes := 120, plain := true }
theorem ty43_ok : TiOk Tryz.prog 43 ty43 := tiOk_of (by kernel_rfl) (by kernel_rfl) (fun _ => ⟨by kernel_rfl, by kernel_rfl⟩)
def ty44 : TI := { desc := .struct #[{ name := "Kind", type := 3, offset := 0, embedded := false, tag := "", pkgPath := "", byteOffset := 0 }, { name := "File", type := 38, offset := 1, embedded := false, tag := "", pkgPath := "", byteOffset := 8 }, { name := "Setting", type := 40, offset := 4, embedded := false, tag := "", pkgPath := "", byteOffset := 48 }, { name := "Service", type := 42, offset := 6, embedded := false, tag := "", pkgPath := "", byteOffset := 80 }], size := 10, zero := .agg #[.int .i64 0, .string ⟨#[]⟩, .string ⟨#[]⟩, .bool false, .string ⟨#[]⟩, .string ⟨#[]⟩, .string ⟨#[]⟩, .string ⟨#[]⟩, .bool false, .bool false], bytes := 120, plain := true }
theorem ty44_ok : TiOk Tryz.prog 44 ty44 := tiOk_of (by kernel_rfl) (by kernel_rfl) (fun _ => ⟨by kernel_rfl, by kernel_rfl⟩)
def ty53 : TI := { desc := .slice 79, size := 1, zero := .slice none 0 0, bytes := 24, plain := false }
theorem ty53_ok : TiOk Tryz.prog 53 ty53 := tiOk_of (by kernel_rfl) (by kernel_rfl) (fun h => by cases h)
def ty54 : TI := { desc := .slice 73, size := 1, zero := .slice none 0 0, bytes := 24, plain := false }
theorem ty54_ok : TiOk Tryz.prog 54 ty54 := tiOk_of (by kernel_rfl) (by kernel_rfl) (fun h => by cases h)
def ty55 : TI := { desc := .struct #[{ name := "Major", type := 3, offset := 0, embedded := false, tag := "", pkgPath := "", byteOffset := 0 }, { name := "Minor", type := 3, offset := 1, embedded := false, tag := "", pkgPath := "", byteOffset := 8 }, { name := "Patch", type := 3, offset := 2, embedded := false, tag := "", pkgPath := "", byteOffset := 16 }, { name := "Early", type := 9, offset := 3, embedded := false, tag := "", pkgPath := "", byteOffset := 24 }], size := 4, zero := .agg #[.int .i64 0, .int .i64 0, .int .i64 0, .string ⟨#[]⟩], bytes := 40, plain := true }
theorem ty55_ok : TiOk Tryz.prog 55 ty55 := tiOk_of (by kernel_rfl) (by kernel_rfl) (fun _ => ⟨by kernel_rfl, by kernel_rfl⟩)
def ty56 : TI := { desc := .struct #[{ name := "Major", type := 3, offset := 0, embedded := false, tag := "", pkgPath := "", byteOffset := 0 }, { name := "Minor", type := 3, offset := 1, embedded := false, tag := "", pkgPath := "", byteOffset := 8 }, { name := "Patch", type := 3, offset := 2, embedded := false, tag := "", pkgPath := "", byteOffset := 16 }, { name := "Early", type := 9, offset := 3, embedded := false, tag := "", pkgPath := "", byteOffset := 24 }], size := 4, zero := .agg #[.int .i64 0, .int .i64 0, .int .i64 0, .string ⟨#[]⟩], bytes := 40, plain := true }
theorem ty56_ok : TiOk Tryz.prog 56 ty56 := tiOk_of (by kernel_rfl) (by kernel_rfl) (fun _ => ⟨by kernel_rfl, by kernel_rfl⟩)
def ty64 : TI := { desc := .slice 3, size := 1, zero := .slice none 0 0, bytes := 24, plain := false }
theorem ty64_ok : TiOk Tryz.prog 64 ty64 := tiOk_of (by kernel_rfl) (by kernel_rfl) (fun h => by cases h)
def ty68 : TI := { desc := .slice 178, size := 1, zero := .slice none 0 0, bytes := 24, plain := false }
theorem ty68_ok : TiOk Tryz.prog 68 ty68 := tiOk_of (by kernel_rfl) (by kernel_rfl) (fun h => by cases h)
def ty69 : TI := { desc := .struct #[{ name := "Spans", type := 68, offset := 0, embedded := false, tag := "", pkgPath := "", byteOffset := 0 }], size := 1, zero := .agg #[.slice none 0 0], bytes := 24, plain := false }
theorem ty69_ok : TiOk Tryz.prog 69 ty69 := tiOk_of (by kernel_rfl) (by kernel_rfl) (fun h => by cases h)
def ty70 : TI := { desc := .struct #[{ name := "Spans", type := 68, offset := 0, embedded := false, tag := "", pkgPath := "", byteOffset := 0 }], size := 1, zero := .agg #[.slice none 0 0], bytes := 24, plain := false }
theorem ty70_ok : TiOk Tryz.prog 70 ty70 := tiOk_of (by kernel_rfl) (by kernel_rfl) (fun h => by cases h)
def ty71 : TI := { desc := .slice 9, size := 1, zero := .slice none 0 0, bytes := 24, plain := false }
theorem ty71_ok : TiOk Tryz.prog 71 ty71 := tiOk_of (by kernel_rfl) (by kernel_rfl) (fun h => by cases h)
def ty72 : TI := { desc := .struct #[{ name := "From", type := 70, offset := 0, embedded := false, tag := "", pkgPath := "", byteOffset := 0 }, { name := "To", type := 56, offset := 1, embedded := false, tag := "", pkgPath := "", byteOffset := 24 }, { name := "Rules", type := 71, offset := 5, embedded := false, tag := "", pkgPath := "", byteOffset := 64 }], size := 6, zero := .agg #[.slice none 0 0, .int .i64 0, .int .i64 0, .int .i64 0, .string ⟨#[]⟩, .slice none 0 0], bytes := 88, plain := false }
theorem ty72_ok : TiOk Tryz.prog 72 ty72 := tiOk_of (by kernel_rfl) (by kernel_rfl) (fun h => by cases h)
def ty73 : TI := { desc := .struct #[{ name := "From", type := 70, offset := 0, embedded := false, tag := "", pkgPath := "", byteOffset := 0 }, { name := "To", type := 56, offset := 1, embedded := false, tag := "", pkgPath := "", byteOffset := 24 }, { name := "Rules", type := 71, offset := 5, embedded := false, tag := "", pkgPath := "", byteOffset := 64 }], size := 6, zero := .agg #[.slice none 0 0, .int .i64 0, .int .i64 0, .int .i64 0, .string ⟨#[]⟩, .slice none 0 0], bytes := 88, plain := false }
theorem ty73_ok : TiOk Tryz.prog 73 ty73 := tiOk_of (by kernel_rfl) (by kernel_rfl) (fun h => by cases h)
def ty78 : TI := { desc := .struct #[{ name := "Kind", type := 3, offset := 0, embedded := false, tag := "", pkgPath := "", byteOffset := 0 }, { name := "Key", type := 9, offset := 1, embedded := false, tag := "", pkgPath := "", byteOffset := 8 }, { name := "To", type := 9, offset := 2, embedded := false, tag := "", pkgPath := "", byteOffset := 24 }, { name := "Old", type := 9, offset := 3, embedded := false, tag := "", pkgPath := "", byteOffset := 40 }, { name := "New", type := 9, offset := 4, embedded := false, tag := "", pkgPath := "", byteOffset := 56 }], size := 5, zero := .agg #[.int .i64 0, .string ⟨#[]⟩, .string ⟨#[]⟩, .string ⟨#[]⟩, .string ⟨#[]⟩], bytes := 72, plain := true }
theorem ty78_ok : TiOk Tryz.prog 78 ty78 := tiOk_of (by kernel_rfl) (by kernel_rfl) (fun _ => ⟨by kernel_rfl, by kernel_rfl⟩)
def ty79 : TI := { desc := .struct #[{ name := "Kind", type := 3, offset := 0, embedded := false, tag := "", pkgPath := "", byteOffset := 0 }, { name := "Key", type := 9, offset := 1, embedded := false, tag := "", pkgPath := "", byteOffset := 8 }, { name := "To", type := 9, offset := 2, embedded := false, tag := "", pkgPath := "", byteOffset := 24 }, { name := "Old", type := 9, offset := 3, embedded := false, tag := "", pkgPath := "", byteOffset := 40 }, { name := "New", type := 9, offset := 4, embedded := false, tag := "", pkgPath := "", byteOffset := 56 }], size := 5, zero := .agg #[.int .i64 0, .string ⟨#[]⟩, .string ⟨#[]⟩, .string ⟨#[]⟩, .string ⟨#[]⟩], bytes := 72, plain := true }
theorem ty79_ok : TiOk Tryz.prog 79 ty79 := tiOk_of (by kernel_rfl) (by kernel_rfl) (fun _ => ⟨by kernel_rfl, by kernel_rfl⟩)
def ty91 : TI := { desc := .func #[40] #[9] false, size := 1, zero := .nilFunc, bytes := 8, plain := false }
theorem ty91_ok : TiOk Tryz.prog 91 ty91 := tiOk_of (by kernel_rfl) (by kernel_rfl) (fun h => by cases h)
def ty92 : TI := { desc := .map 9 4, size := 1, zero := .map none, bytes := 8, plain := false }
theorem ty92_ok : TiOk Tryz.prog 92 ty92 := tiOk_of (by kernel_rfl) (by kernel_rfl) (fun h => by cases h)
def ty97 : TI := { desc := .func #[42] #[9] false, size := 1, zero := .nilFunc, bytes := 8, plain := false }
theorem ty97_ok : TiOk Tryz.prog 97 ty97 := tiOk_of (by kernel_rfl) (by kernel_rfl) (fun h => by cases h)
def ty104 : TI := { desc := .map 9 9, size := 1, zero := .map none, bytes := 8, plain := false }
theorem ty104_ok : TiOk Tryz.prog 104 ty104 := tiOk_of (by kernel_rfl) (by kernel_rfl) (fun h => by cases h)
def ty111 : TI := { desc := .map 9 9, size := 1, zero := .map none, bytes := 8, plain := false }
theorem ty111_ok : TiOk Tryz.prog 111 ty111 := tiOk_of (by kernel_rfl) (by kernel_rfl) (fun h => by cases h)
def ty119 : TI := { desc := .array 2 56, size := 8, zero := .agg #[.int .i64 0, .int .i64 0, .int .i64 0, .string ⟨#[]⟩, .int .i64 0, .int .i64 0, .int .i64 0, .string ⟨#[]⟩], bytes := 80, plain := false }
theorem ty119_ok : TiOk Tryz.prog 119 ty119 := tiOk_of (by kernel_rfl) (by kernel_rfl) (fun h => by cases h)
def ty121 : TI := { desc := .map 56 4, size := 1, zero := .map none, bytes := 8, plain := false }
theorem ty121_ok : TiOk Tryz.prog 121 ty121 := tiOk_of (by kernel_rfl) (by kernel_rfl) (fun h => by cases h)
def ty122 : TI := { desc := .struct #[{ name := "v", type := 56, offset := 0, embedded := false, tag := "", pkgPath := "outfitter/migrate", byteOffset := 0 }, { name := "list", type := 64, offset := 4, embedded := false, tag := "", pkgPath := "outfitter/migrate", byteOffset := 40 }], size := 5, zero := .agg #[.int .i64 0, .int .i64 0, .int .i64 0, .string ⟨#[]⟩, .slice none 0 0], bytes := 64, plain := false }
theorem ty122_ok : TiOk Tryz.prog 122 ty122 := tiOk_of (by kernel_rfl) (by kernel_rfl) (fun h => by cases h)
def ty123 : TI := { desc := .struct #[{ name := "v", type := 56, offset := 0, embedded := false, tag := "", pkgPath := "outfitter/migrate", byteOffset := 0 }, { name := "list", type := 64, offset := 4, embedded := false, tag := "", pkgPath := "outfitter/migrate", byteOffset := 40 }], size := 5, zero := .agg #[.int .i64 0, .int .i64 0, .int .i64 0, .string ⟨#[]⟩, .slice none 0 0], bytes := 64, plain := false }
theorem ty123_ok : TiOk Tryz.prog 123 ty123 := tiOk_of (by kernel_rfl) (by kernel_rfl) (fun h => by cases h)
def ty124 : TI := { desc := .slice 123, size := 1, zero := .slice none 0 0, bytes := 24, plain := false }
theorem ty124_ok : TiOk Tryz.prog 124 ty124 := tiOk_of (by kernel_rfl) (by kernel_rfl) (fun h => by cases h)
def ty131 : TI := { desc := .slice 29, size := 1, zero := .slice none 0 0, bytes := 24, plain := false }
theorem ty131_ok : TiOk Tryz.prog 131 ty131 := tiOk_of (by kernel_rfl) (by kernel_rfl) (fun h => by cases h)
def ty133 : TI := { desc := .array 2 22, size := 2, zero := .agg #[.slice none 0 0, .slice none 0 0], bytes := 48, plain := false }
theorem ty133_ok : TiOk Tryz.prog 133 ty133 := tiOk_of (by kernel_rfl) (by kernel_rfl) (fun h => by cases h)
def ty137 : TI := { desc := .map 56 64, size := 1, zero := .map none, bytes := 8, plain := false }
theorem ty137_ok : TiOk Tryz.prog 137 ty137 := tiOk_of (by kernel_rfl) (by kernel_rfl) (fun h => by cases h)
def ty152 : TI := { desc := .pointer 206, size := 1, zero := .pointer none, bytes := 8, plain := false }
theorem ty152_ok : TiOk Tryz.prog 152 ty152 := tiOk_of (by kernel_rfl) (by kernel_rfl) (fun h => by cases h)
def ty167 : TI := { desc := .array 3 3, size := 3, zero := .agg #[.int .i64 0, .int .i64 0, .int .i64 0], bytes := 24, plain := false }
theorem ty167_ok : TiOk Tryz.prog 167 ty167 := tiOk_of (by kernel_rfl) (by kernel_rfl) (fun h => by cases h)
def ty174 : TI := { desc := .slice 176, size := 1, zero := .slice none 0 0, bytes := 24, plain := false }
theorem ty174_ok : TiOk Tryz.prog 174 ty174 := tiOk_of (by kernel_rfl) (by kernel_rfl) (fun h => by cases h)
def ty175 : TI := { desc := .struct #[{ name := "Kind", type := 3, offset := 0, embedded := false, tag := "", pkgPath := "", byteOffset := 0 }, { name := "Name", type := 9, offset := 1, embedded := false, tag := "", pkgPath := "", byteOffset := 8 }, { name := "Value", type := 9, offset := 2, embedded := false, tag := "", pkgPath := "", byteOffset := 24 }, { name := "Args", type := 174, offset := 3, embedded := false, tag := "", pkgPath := "", byteOffset := 40 }], size := 4, zero := .agg #[.int .i64 0, .string ⟨#[]⟩, .string ⟨#[]⟩, .slice none 0 0], bytes := 64, plain := false }
theorem ty175_ok : TiOk Tryz.prog 175 ty175 := tiOk_of (by kernel_rfl) (by kernel_rfl) (fun h => by cases h)
def ty176 : TI := { desc := .struct #[{ name := "Kind", type := 3, offset := 0, embedded := false, tag := "", pkgPath := "", byteOffset := 0 }, { name := "Name", type := 9, offset := 1, embedded := false, tag := "", pkgPath := "", byteOffset := 8 }, { name := "Value", type := 9, offset := 2, embedded := false, tag := "", pkgPath := "", byteOffset := 24 }, { name := "Args", type := 174, offset := 3, embedded := false, tag := "", pkgPath := "", byteOffset := 40 }], size := 4, zero := .agg #[.int .i64 0, .string ⟨#[]⟩, .string ⟨#[]⟩, .slice none 0 0], bytes := 64, plain := false }
theorem ty176_ok : TiOk Tryz.prog 176 ty176 := tiOk_of (by kernel_rfl) (by kernel_rfl) (fun h => by cases h)
def ty177 : TI := { desc := .struct #[{ name := "HasFrom", type := 4, offset := 0, embedded := false, tag := "", pkgPath := "", byteOffset := 0 }, { name := "HasTo", type := 4, offset := 1, embedded := false, tag := "", pkgPath := "", byteOffset := 1 }, { name := "From", type := 56, offset := 2, embedded := false, tag := "", pkgPath := "", byteOffset := 8 }, { name := "To", type := 56, offset := 6, embedded := false, tag := "", pkgPath := "", byteOffset := 48 }], size := 10, zero := .agg #[.bool false, .bool false, .int .i64 0, .int .i64 0, .int .i64 0, .string ⟨#[]⟩, .int .i64 0, .int .i64 0, .int .i64 0, .string ⟨#[]⟩], bytes := 88, plain := true }
theorem ty177_ok : TiOk Tryz.prog 177 ty177 := tiOk_of (by kernel_rfl) (by kernel_rfl) (fun _ => ⟨by kernel_rfl, by kernel_rfl⟩)
def ty178 : TI := { desc := .struct #[{ name := "HasFrom", type := 4, offset := 0, embedded := false, tag := "", pkgPath := "", byteOffset := 0 }, { name := "HasTo", type := 4, offset := 1, embedded := false, tag := "", pkgPath := "", byteOffset := 1 }, { name := "From", type := 56, offset := 2, embedded := false, tag := "", pkgPath := "", byteOffset := 8 }, { name := "To", type := 56, offset := 6, embedded := false, tag := "", pkgPath := "", byteOffset := 48 }], size := 10, zero := .agg #[.bool false, .bool false, .int .i64 0, .int .i64 0, .int .i64 0, .string ⟨#[]⟩, .int .i64 0, .int .i64 0, .int .i64 0, .string ⟨#[]⟩], bytes := 88, plain := true }
theorem ty178_ok : TiOk Tryz.prog 178 ty178 := tiOk_of (by kernel_rfl) (by kernel_rfl) (fun _ => ⟨by kernel_rfl, by kernel_rfl⟩)
def ty180 : TI := { desc := .slice 56, size := 1, zero := .slice none 0 0, bytes := 24, plain := false }
theorem ty180_ok : TiOk Tryz.prog 180 ty180 := tiOk_of (by kernel_rfl) (by kernel_rfl) (fun h => by cases h)
def ty188 : TI := { desc := .interface #[("Error", 326)], size := 1, zero := .nilIface, bytes := 16, plain := false }
theorem ty188_ok : TiOk Tryz.prog 188 ty188 := tiOk_of (by kernel_rfl) (by kernel_rfl) (fun h => by cases h)
def ty189 : TI := { desc := .interface #[("Error", 326)], size := 1, zero := .nilIface, bytes := 16, plain := false }
theorem ty189_ok : TiOk Tryz.prog 189 ty189 := tiOk_of (by kernel_rfl) (by kernel_rfl) (fun h => by cases h)
def ty192 : TI := { desc := .func #[4, 56] #[4] false, size := 1, zero := .nilFunc, bytes := 8, plain := false }
theorem ty192_ok : TiOk Tryz.prog 192 ty192 := tiOk_of (by kernel_rfl) (by kernel_rfl) (fun h => by cases h)
def ty197 : TI := { desc := .slice 5, size := 1, zero := .slice none 0 0, bytes := 24, plain := false }
theorem ty197_ok : TiOk Tryz.prog 197 ty197 := tiOk_of (by kernel_rfl) (by kernel_rfl) (fun h => by cases h)
def ty198 : TI := { desc := .array 2 9, size := 2, zero := .agg #[.string ⟨#[]⟩, .string ⟨#[]⟩], bytes := 32, plain := false }
theorem ty198_ok : TiOk Tryz.prog 198 ty198 := tiOk_of (by kernel_rfl) (by kernel_rfl) (fun h => by cases h)
def ty201 : TI := { desc := .map 9 38, size := 1, zero := .map none, bytes := 8, plain := false }
theorem ty201_ok : TiOk Tryz.prog 201 ty201 := tiOk_of (by kernel_rfl) (by kernel_rfl) (fun h => by cases h)
def ty202 : TI := { desc := .map 9 3, size := 1, zero := .map none, bytes := 8, plain := false }
theorem ty202_ok : TiOk Tryz.prog 202 ty202 := tiOk_of (by kernel_rfl) (by kernel_rfl) (fun h => by cases h)
def ty203 : TI := { desc := .map 9 40, size := 1, zero := .map none, bytes := 8, plain := false }
theorem ty203_ok : TiOk Tryz.prog 203 ty203 := tiOk_of (by kernel_rfl) (by kernel_rfl) (fun h => by cases h)
def ty204 : TI := { desc := .map 9 42, size := 1, zero := .map none, bytes := 8, plain := false }
theorem ty204_ok : TiOk Tryz.prog 204 ty204 := tiOk_of (by kernel_rfl) (by kernel_rfl) (fun h => by cases h)
def ty205 : TI := { desc := .struct #[{ name := "facts", type := 22, offset := 0, embedded := false, tag := "", pkgPath := "outfitter/disk", byteOffset := 0 }, { name := "files", type := 201, offset := 1, embedded := false, tag := "", pkgPath := "outfitter/disk", byteOffset := 24 }, { name := "below", type := 202, offset := 2, embedded := false, tag := "", pkgPath := "outfitter/disk", byteOffset := 32 }, { name := "settings", type := 203, offset := 3, embedded := false, tag := "", pkgPath := "outfitter/disk", byteOffset := 40 }, { name := "services", type := 204, offset := 4, embedded := false, tag := "", pkgPath := "outfitter/disk", byteOffset := 48 }], size := 5, zero := .agg #[.slice none 0 0, .map none, .map none, .map none, .map none], bytes := 56, plain := false }
theorem ty205_ok : TiOk Tryz.prog 205 ty205 := tiOk_of (by kernel_rfl) (by kernel_rfl) (fun h => by cases h)
def ty206 : TI := { desc := .struct #[{ name := "facts", type := 22, offset := 0, embedded := false, tag := "", pkgPath := "outfitter/disk", byteOffset := 0 }, { name := "files", type := 201, offset := 1, embedded := false, tag := "", pkgPath := "outfitter/disk", byteOffset := 24 }, { name := "below", type := 202, offset := 2, embedded := false, tag := "", pkgPath := "outfitter/disk", byteOffset := 32 }, { name := "settings", type := 203, offset := 3, embedded := false, tag := "", pkgPath := "outfitter/disk", byteOffset := 40 }, { name := "services", type := 204, offset := 4, embedded := false, tag := "", pkgPath := "outfitter/disk", byteOffset := 48 }], size := 5, zero := .agg #[.slice none 0 0, .map none, .map none, .map none, .map none], bytes := 56, plain := false }
theorem ty206_ok : TiOk Tryz.prog 206 ty206 := tiOk_of (by kernel_rfl) (by kernel_rfl) (fun h => by cases h)
def ty216 : TI := { desc := .func #[38] #[9] false, size := 1, zero := .nilFunc, bytes := 8, plain := false }
theorem ty216_ok : TiOk Tryz.prog 216 ty216 := tiOk_of (by kernel_rfl) (by kernel_rfl) (fun h => by cases h)
def ty225 : TI := { desc := .func #[9] #[9, 4] false, size := 1, zero := .nilFunc, bytes := 8, plain := false }
theorem ty225_ok : TiOk Tryz.prog 225 ty225 := tiOk_of (by kernel_rfl) (by kernel_rfl) (fun h => by cases h)
def ty234 : TI := { desc := .array 256 4, size := 256, zero := .agg #[.bool false, .bool false, .bool false, .bool false, .bool false, .bool false, .bool false, .bool false, .bool false, .bool false, .bool false, .bool false, .bool false, .bool false, .bool false, .bool false, .bool false, .bool false, .bool false, .bool false, .bool false, .bool false, .bool false, .bool false, .bool false, .bool false, .bool false, .bool false, .bool false, .bool false, .bool false, .bool false, .bool false, .bool false, .bool false, .bool false, .bool false, .bool false, .bool false, .bool false, .bool false, .bool false, .bool false, .bool false, .bool false, .bool false, .bool false, .bool false, .bool false, .bool false, .bool false, .bool false, .bool false, .bool false, .bool false, .bool false, .bool false, .bool false, .bool false, .bool false, .bool false, .bool false, .bool false, .bool false, .bool false, .bool false, .bool false, .bool false, .bool false, .bool false, .bool false, .bool false, .bool false, .bool false, .bool false, .bool false, .bool false, .bool false, .bool false, .bool false, .bool false, .bool false, .bool false, .bool false, .bool false, .bool false, .bool false, .bool false, .bool false, .bool false, .bool false, .bool false, .bool false, .bool false, .bool false, .bool false, .bool false, .bool false, .bool false, .bool false, .bool false, .bool false, .bool false, .bool false, .bool false, .bool false, .bool false, .bool false, .bool false, .bool false, .bool false, .bool false, .bool false, .bool false, .bool false, .bool false, .bool false, .bool false, .bool false, .bool false, .bool false, .bool false, .bool false, .bool false, .bool false, .bool false, .bool false, .bool false, .bool false, .bool false, .bool false, .bool false, .bool false, .bool false, .bool false, .bool false, .bool false, .bool false, .bool false, .bool false, .bool false, .bool false, .bool false, .bool false, .bool false, .bool false, .bool false, .bool false, .bool false, .bool false, .bool false, .bool false, .bool false, .bool false, .bool false, .bool false, .bool false, .bool false, .bool false, .bool false, .bool false, .bool false, .bool false, .bool false, .bool false, .bool false, .bool false, .bool false, .bool false, .bool false, .bool false, .bool false, .bool false, .bool false, .bool false, .bool false, .bool false, .bool false, .bool false, .bool false, .bool false, .bool false, .bool false, .bool false, .bool false, .bool false, .bool false, .bool false, .bool false, .bool false, .bool false, .bool false, .bool false, .bool false, .bool false, .bool false, .bool false, .bool false, .bool false, .bool false, .bool false, .bool false, .bool false, .bool false, .bool false, .bool false, .bool false, .bool false, .bool false, .bool false, .bool false, .bool false, .bool false, .bool false, .bool false, .bool false, .bool false, .bool false, .bool false, .bool false, .bool false, .bool false, .bool false, .bool false, .bool false, .bool false, .bool false, .bool false, .bool false, .bool false, .bool false, .bool false, .bool false, .bool false, .bool false, .bool false, .bool false, .bool false, .bool false, .bool false, .bool false, .bool false, .bool false, .bool false, .bool false, .bool false, .bool false, .bool false, .bool false, .bool false, .bool false, .bool false, .bool false, .bool false, .bool false, .bool false], bytes := 256, plain := false }
theorem ty234_ok : TiOk Tryz.prog 234 ty234 := tiOk_of (by kernel_rfl) (by kernel_rfl) (fun h => by cases h)
def ty235 : TI := { desc := .array 256 4, size := 256, zero := .agg #[.bool false, .bool false, .bool false, .bool false, .bool false, .bool false, .bool false, .bool false, .bool false, .bool false, .bool false, .bool false, .bool false, .bool false, .bool false, .bool false, .bool false, .bool false, .bool false, .bool false, .bool false, .bool false, .bool false, .bool false, .bool false, .bool false, .bool false, .bool false, .bool false, .bool false, .bool false, .bool false, .bool false, .bool false, .bool false, .bool false, .bool false, .bool false, .bool false, .bool false, .bool false, .bool false, .bool false, .bool false, .bool false, .bool false, .bool false, .bool false, .bool false, .bool false, .bool false, .bool false, .bool false, .bool false, .bool false, .bool false, .bool false, .bool false, .bool false, .bool false, .bool false, .bool false, .bool false, .bool false, .bool false, .bool false, .bool false, .bool false, .bool false, .bool false, .bool false, .bool false, .bool false, .bool false, .bool false, .bool false, .bool false, .bool false, .bool false, .bool false, .bool false, .bool false, .bool false, .bool false, .bool false, .bool false, .bool false, .bool false, .bool false, .bool false, .bool false, .bool false, .bool false, .bool false, .bool false, .bool false, .bool false, .bool false, .bool false, .bool false, .bool false, .bool false, .bool false, .bool false, .bool false, .bool false, .bool false, .bool false, .bool false, .bool false, .bool false, .bool false, .bool false, .bool false, .bool false, .bool false, .bool false, .bool false, .bool false, .bool false, .bool false, .bool false, .bool false, .bool false, .bool false, .bool false, .bool false, .bool false, .bool false, .bool false, .bool false, .bool false, .bool false, .bool false, .bool false, .bool false, .bool false, .bool false, .bool false, .bool false, .bool false, .bool false, .bool false, .bool false, .bool false, .bool false, .bool false, .bool false, .bool false, .bool false, .bool false, .bool false, .bool false, .bool false, .bool false, .bool false, .bool false, .bool false, .bool false, .bool false, .bool false, .bool false, .bool false, .bool false, .bool false, .bool false, .bool false, .bool false, .bool false, .bool false, .bool false, .bool false, .bool false, .bool false, .bool false, .bool false, .bool false, .bool false, .bool false, .bool false, .bool false, .bool false, .bool false, .bool false, .bool false, .bool false, .bool false, .bool false, .bool false, .bool false, .bool false, .bool false, .bool false, .bool false, .bool false, .bool false, .bool false, .bool false, .bool false, .bool false, .bool false, .bool false, .bool false, .bool false, .bool false, .bool false, .bool false, .bool false, .bool false, .bool false, .bool false, .bool false, .bool false, .bool false, .bool false, .bool false, .bool false, .bool false, .bool false, .bool false, .bool false, .bool false, .bool false, .bool false, .bool false, .bool false, .bool false, .bool false, .bool false, .bool false, .bool false, .bool false, .bool false, .bool false, .bool false, .bool false, .bool false, .bool false, .bool false, .bool false, .bool false, .bool false, .bool false, .bool false, .bool false, .bool false, .bool false, .bool false, .bool false, .bool false, .bool false, .bool false, .bool false, .bool false, .bool false, .bool false], bytes := 256, plain := false }
theorem ty235_ok : TiOk Tryz.prog 235 ty235 := tiOk_of (by kernel_rfl) (by kernel_rfl) (fun h => by cases h)
def ty242 : TI := { desc := .int .u64, size := 1, zero := .int .u64 0, bytes := 8, plain := false }
theorem ty242_ok : TiOk Tryz.prog 242 ty242 := tiOk_of (by kernel_rfl) (by kernel_rfl) (fun h => by cases h)
def ty264 : TI := { desc := .func #[176] #[4] false, size := 1, zero := .nilFunc, bytes := 8, plain := false }
theorem ty264_ok : TiOk Tryz.prog 264 ty264 := tiOk_of (by kernel_rfl) (by kernel_rfl) (fun h => by cases h)
def ty281 : TI := { desc := .int .u32, size := 1, zero := .int .u32 0, bytes := 4, plain := false }
theorem ty281_ok : TiOk Tryz.prog 281 ty281 := tiOk_of (by kernel_rfl) (by kernel_rfl) (fun h => by cases h)
def ty297 : TI := { desc := .int .u64, size := 1, zero := .int .u64 0, bytes := 8, plain := false }
theorem ty297_ok : TiOk Tryz.prog 297 ty297 := tiOk_of (by kernel_rfl) (by kernel_rfl) (fun h => by cases h)
def ty299 : TI := { desc := .slice 301, size := 1, zero := .slice none 0 0, bytes := 24, plain := false }
theorem ty299_ok : TiOk Tryz.prog 299 ty299 := tiOk_of (by kernel_rfl) (by kernel_rfl) (fun h => by cases h)
def ty300 : TI := { desc := .struct #[{ name := "sign", type := 5, offset := 0, embedded := false, tag := "", pkgPath := "outfitter/ver", byteOffset := 0 }, { name := "first", type := 9, offset := 1, embedded := false, tag := "", pkgPath := "outfitter/ver", byteOffset := 8 }, { name := "last", type := 9, offset := 2, embedded := false, tag := "", pkgPath := "outfitter/ver", byteOffset := 24 }], size := 3, zero := .agg #[.int .u8 0, .string ⟨#[]⟩, .string ⟨#[]⟩], bytes := 40, plain := true }
theorem ty300_ok : TiOk Tryz.prog 300 ty300 := tiOk_of (by kernel_rfl) (by kernel_rfl) (fun _ => ⟨by kernel_rfl, by kernel_rfl⟩)
def ty301 : TI := { desc := .struct #[{ name := "sign", type := 5, offset := 0, embedded := false, tag := "", pkgPath := "outfitter/ver", byteOffset := 0 }, { name := "first", type := 9, offset := 1, embedded := false, tag := "", pkgPath := "outfitter/ver", byteOffset := 8 }, { name := "last", type := 9, offset := 2, embedded := false, tag := "", pkgPath := "outfitter/ver", byteOffset := 24 }], size := 3, zero := .agg #[.int .u8 0, .string ⟨#[]⟩, .string ⟨#[]⟩], bytes := 40, plain := true }
theorem ty301_ok : TiOk Tryz.prog 301 ty301 := tiOk_of (by kernel_rfl) (by kernel_rfl) (fun _ => ⟨by kernel_rfl, by kernel_rfl⟩)
def ty310 : TI := { desc := .struct #[{ name := "Func", type := 9, offset := 0, embedded := false, tag := "", pkgPath := "", byteOffset := 0 }, { name := "Num", type := 9, offset := 1, embedded := false, tag := "", pkgPath := "", byteOffset := 16 }, { name := "Err", type := 189, offset := 2, embedded := false, tag := "", pkgPath := "", byteOffset := 32 }], size := 3, zero := .agg #[.string ⟨#[]⟩, .string ⟨#[]⟩, .nilIface], bytes := 48, plain := false }
theorem ty310_ok : TiOk Tryz.prog 310 ty310 := tiOk_of (by kernel_rfl) (by kernel_rfl) (fun h => by cases h)
def ty322 : TI := { desc := .pointer 324, size := 1, zero := .pointer none, bytes := 8, plain := false }
theorem ty322_ok : TiOk Tryz.prog 322 ty322 := tiOk_of (by kernel_rfl) (by kernel_rfl) (fun h => by cases h)
def ty323 : TI := { desc := .struct #[{ name := "addr", type := 322, offset := 0, embedded := false, tag := "", pkgPath := "strings", byteOffset := 0 }, { name := "buf", type := 197, offset := 1, embedded := false, tag := "", pkgPath := "strings", byteOffset := 8 }], size := 2, zero := .agg #[.pointer none, .slice none 0 0], bytes := 32, plain := false }
theorem ty323_ok : TiOk Tryz.prog 323 ty323 := tiOk_of (by kernel_rfl) (by kernel_rfl) (fun h => by cases h)
def ty324 : TI := { desc := .struct #[{ name := "addr", type := 322, offset := 0, embedded := false, tag := "", pkgPath := "strings", byteOffset := 0 }, { name := "buf", type := 197, offset := 1, embedded := false, tag := "", pkgPath := "strings", byteOffset := 8 }], size := 2, zero := .agg #[.pointer none, .slice none 0 0], bytes := 32, plain := false }
theorem ty324_ok : TiOk Tryz.prog 324 ty324 := tiOk_of (by kernel_rfl) (by kernel_rfl) (fun h => by cases h)
def ty328 : TI := { desc := .pointer 5, size := 1, zero := .pointer none, bytes := 8, plain := false }
theorem ty328_ok : TiOk Tryz.prog 328 ty328 := tiOk_of (by kernel_rfl) (by kernel_rfl) (fun h => by cases h)
def ty330 : TI := { desc := .struct #[{ name := "s", type := 9, offset := 0, embedded := false, tag := "", pkgPath := "errors", byteOffset := 0 }], size := 1, zero := .agg #[.string ⟨#[]⟩], bytes := 16, plain := true }
theorem ty330_ok : TiOk Tryz.prog 330 ty330 := tiOk_of (by kernel_rfl) (by kernel_rfl) (fun _ => ⟨by kernel_rfl, by kernel_rfl⟩)
def ty332 : TI := { desc := .array 256 5, size := 256, zero := .agg #[.int .u8 0, .int .u8 0, .int .u8 0, .int .u8 0, .int .u8 0, .int .u8 0, .int .u8 0, .int .u8 0, .int .u8 0, .int .u8 0, .int .u8 0, .int .u8 0, .int .u8 0, .int .u8 0, .int .u8 0, .int .u8 0, .int .u8 0, .int .u8 0, .int .u8 0, .int .u8 0, .int .u8 0, .int .u8 0, .int .u8 0, .int .u8 0, .int .u8 0, .int .u8 0, .int .u8 0, .int .u8 0, .int .u8 0, .int .u8 0, .int .u8 0, .int .u8 0, .int .u8 0, .int .u8 0, .int .u8 0, .int .u8 0, .int .u8 0, .int .u8 0, .int .u8 0, .int .u8 0, .int .u8 0, .int .u8 0, .int .u8 0, .int .u8 0, .int .u8 0, .int .u8 0, .int .u8 0, .int .u8 0, .int .u8 0, .int .u8 0, .int .u8 0, .int .u8 0, .int .u8 0, .int .u8 0, .int .u8 0, .int .u8 0, .int .u8 0, .int .u8 0, .int .u8 0, .int .u8 0, .int .u8 0, .int .u8 0, .int .u8 0, .int .u8 0, .int .u8 0, .int .u8 0, .int .u8 0, .int .u8 0, .int .u8 0, .int .u8 0, .int .u8 0, .int .u8 0, .int .u8 0, .int .u8 0, .int .u8 0, .int .u8 0, .int .u8 0, .int .u8 0, .int .u8 0, .int .u8 0, .int .u8 0, .int .u8 0, .int .u8 0, .int .u8 0, .int .u8 0, .int .u8 0, .int .u8 0, .int .u8 0, .int .u8 0, .int .u8 0, .int .u8 0, .int .u8 0, .int .u8 0, .int .u8 0, .int .u8 0, .int .u8 0, .int .u8 0, .int .u8 0, .int .u8 0, .int .u8 0, .int .u8 0, .int .u8 0, .int .u8 0, .int .u8 0, .int .u8 0, .int .u8 0, .int .u8 0, .int .u8 0, .int .u8 0, .int .u8 0, .int .u8 0, .int .u8 0, .int .u8 0, .int .u8 0, .int .u8 0, .int .u8 0, .int .u8 0, .int .u8 0, .int .u8 0, .int .u8 0, .int .u8 0, .int .u8 0, .int .u8 0, .int .u8 0, .int .u8 0, .int .u8 0, .int .u8 0, .int .u8 0, .int .u8 0, .int .u8 0, .int .u8 0, .int .u8 0, .int .u8 0, .int .u8 0, .int .u8 0, .int .u8 0, .int .u8 0, .int .u8 0, .int .u8 0, .int .u8 0, .int .u8 0, .int .u8 0, .int .u8 0, .int .u8 0, .int .u8 0, .int .u8 0, .int .u8 0, .int .u8 0, .int .u8 0, .int .u8 0, .int .u8 0, .int .u8 0, .int .u8 0, .int .u8 0, .int .u8 0, .int .u8 0, .int .u8 0, .int .u8 0, .int .u8 0, .int .u8 0, .int .u8 0, .int .u8 0, .int .u8 0, .int .u8 0, .int .u8 0, .int .u8 0, .int .u8 0, .int .u8 0, .int .u8 0, .int .u8 0, .int .u8 0, .int .u8 0, .int .u8 0, .int .u8 0, .int .u8 0, .int .u8 0, .int .u8 0, .int .u8 0, .int .u8 0, .int .u8 0, .int .u8 0, .int .u8 0, .int .u8 0, .int .u8 0, .int .u8 0, .int .u8 0, .int .u8 0, .int .u8 0, .int .u8 0, .int .u8 0, .int .u8 0, .int .u8 0, .int .u8 0, .int .u8 0, .int .u8 0, .int .u8 0, .int .u8 0, .int .u8 0, .int .u8 0, .int .u8 0, .int .u8 0, .int .u8 0, .int .u8 0, .int .u8 0, .int .u8 0, .int .u8 0, .int .u8 0, .int .u8 0, .int .u8 0, .int .u8 0, .int .u8 0, .int .u8 0, .int .u8 0, .int .u8 0, .int .u8 0, .int .u8 0, .int .u8 0, .int .u8 0, .int .u8 0, .int .u8 0, .int .u8 0, .int .u8 0, .int .u8 0, .int .u8 0, .int .u8 0, .int .u8 0, .int .u8 0, .int .u8 0, .int .u8 0, .int .u8 0, .int .u8 0, .int .u8 0, .int .u8 0, .int .u8 0, .int .u8 0, .int .u8 0, .int .u8 0, .int .u8 0, .int .u8 0, .int .u8 0, .int .u8 0, .int .u8 0, .int .u8 0, .int .u8 0, .int .u8 0, .int .u8 0, .int .u8 0, .int .u8 0, .int .u8 0, .int .u8 0, .int .u8 0, .int .u8 0, .int .u8 0, .int .u8 0, .int .u8 0, .int .u8 0], bytes := 256, plain := false }
theorem ty332_ok : TiOk Tryz.prog 332 ty332 := tiOk_of (by kernel_rfl) (by kernel_rfl) (fun h => by cases h)
def ty333 : TI := { desc := .struct #[{ name := "lo", type := 5, offset := 0, embedded := false, tag := "", pkgPath := "unicode/utf8", byteOffset := 0 }, { name := "hi", type := 5, offset := 1, embedded := false, tag := "", pkgPath := "unicode/utf8", byteOffset := 1 }], size := 2, zero := .agg #[.int .u8 0, .int .u8 0], bytes := 2, plain := true }
theorem ty333_ok : TiOk Tryz.prog 333 ty333 := tiOk_of (by kernel_rfl) (by kernel_rfl) (fun _ => ⟨by kernel_rfl, by kernel_rfl⟩)
def ty334 : TI := { desc := .struct #[{ name := "lo", type := 5, offset := 0, embedded := false, tag := "", pkgPath := "unicode/utf8", byteOffset := 0 }, { name := "hi", type := 5, offset := 1, embedded := false, tag := "", pkgPath := "unicode/utf8", byteOffset := 1 }], size := 2, zero := .agg #[.int .u8 0, .int .u8 0], bytes := 2, plain := true }
theorem ty334_ok : TiOk Tryz.prog 334 ty334 := tiOk_of (by kernel_rfl) (by kernel_rfl) (fun _ => ⟨by kernel_rfl, by kernel_rfl⟩)
def ty335 : TI := { desc := .array 16 334, size := 32, zero := .agg #[.int .u8 0, .int .u8 0, .int .u8 0, .int .u8 0, .int .u8 0, .int .u8 0, .int .u8 0, .int .u8 0, .int .u8 0, .int .u8 0, .int .u8 0, .int .u8 0, .int .u8 0, .int .u8 0, .int .u8 0, .int .u8 0, .int .u8 0, .int .u8 0, .int .u8 0, .int .u8 0, .int .u8 0, .int .u8 0, .int .u8 0, .int .u8 0, .int .u8 0, .int .u8 0, .int .u8 0, .int .u8 0, .int .u8 0, .int .u8 0, .int .u8 0, .int .u8 0], bytes := 32, plain := false }
theorem ty335_ok : TiOk Tryz.prog 335 ty335 := tiOk_of (by kernel_rfl) (by kernel_rfl) (fun h => by cases h)
def ty345 : TI := { desc := .array 24 5, size := 24, zero := .agg #[.int .u8 0, .int .u8 0, .int .u8 0, .int .u8 0, .int .u8 0, .int .u8 0, .int .u8 0, .int .u8 0, .int .u8 0, .int .u8 0, .int .u8 0, .int .u8 0, .int .u8 0, .int .u8 0, .int .u8 0, .int .u8 0, .int .u8 0, .int .u8 0, .int .u8 0, .int .u8 0, .int .u8 0, .int .u8 0, .int .u8 0, .int .u8 0], bytes := 24, plain := false }
theorem ty345_ok : TiOk Tryz.prog 345 ty345 := tiOk_of (by kernel_rfl) (by kernel_rfl) (fun h => by cases h)
def ty350 : TI := { desc := .array 20 297, size := 20, zero := .agg #[.int .u64 0, .int .u64 0, .int .u64 0, .int .u64 0, .int .u64 0, .int .u64 0, .int .u64 0, .int .u64 0, .int .u64 0, .int .u64 0, .int .u64 0, .int .u64 0, .int .u64 0, .int .u64 0, .int .u64 0, .int .u64 0, .int .u64 0, .int .u64 0, .int .u64 0, .int .u64 0], bytes := 160, plain := false }
theorem ty350_ok : TiOk Tryz.prog 350 ty350 := tiOk_of (by kernel_rfl) (by kernel_rfl) (fun h => by cases h)
def ty351 : TI := { desc := .array 65 5, size := 65, zero := .agg #[.int .u8 0, .int .u8 0, .int .u8 0, .int .u8 0, .int .u8 0, .int .u8 0, .int .u8 0, .int .u8 0, .int .u8 0, .int .u8 0, .int .u8 0, .int .u8 0, .int .u8 0, .int .u8 0, .int .u8 0, .int .u8 0, .int .u8 0, .int .u8 0, .int .u8 0, .int .u8 0, .int .u8 0, .int .u8 0, .int .u8 0, .int .u8 0, .int .u8 0, .int .u8 0, .int .u8 0, .int .u8 0, .int .u8 0, .int .u8 0, .int .u8 0, .int .u8 0, .int .u8 0, .int .u8 0, .int .u8 0, .int .u8 0, .int .u8 0, .int .u8 0, .int .u8 0, .int .u8 0, .int .u8 0, .int .u8 0, .int .u8 0, .int .u8 0, .int .u8 0, .int .u8 0, .int .u8 0, .int .u8 0, .int .u8 0, .int .u8 0, .int .u8 0, .int .u8 0, .int .u8 0, .int .u8 0, .int .u8 0, .int .u8 0, .int .u8 0, .int .u8 0, .int .u8 0, .int .u8 0, .int .u8 0, .int .u8 0, .int .u8 0, .int .u8 0, .int .u8 0], bytes := 65, plain := false }
theorem ty351_ok : TiOk Tryz.prog 351 ty351 := tiOk_of (by kernel_rfl) (by kernel_rfl) (fun h => by cases h)
def ty352 : TI := { desc := .array 32 5, size := 32, zero := .agg #[.int .u8 0, .int .u8 0, .int .u8 0, .int .u8 0, .int .u8 0, .int .u8 0, .int .u8 0, .int .u8 0, .int .u8 0, .int .u8 0, .int .u8 0, .int .u8 0, .int .u8 0, .int .u8 0, .int .u8 0, .int .u8 0, .int .u8 0, .int .u8 0, .int .u8 0, .int .u8 0, .int .u8 0, .int .u8 0, .int .u8 0, .int .u8 0, .int .u8 0, .int .u8 0, .int .u8 0, .int .u8 0, .int .u8 0, .int .u8 0, .int .u8 0, .int .u8 0], bytes := 32, plain := false }
theorem ty352_ok : TiOk Tryz.prog 352 ty352 := tiOk_of (by kernel_rfl) (by kernel_rfl) (fun h => by cases h)
def ty353 : TI := { desc := .array 64 5, size := 64, zero := .agg #[.int .u8 0, .int .u8 0, .int .u8 0, .int .u8 0, .int .u8 0, .int .u8 0, .int .u8 0, .int .u8 0, .int .u8 0, .int .u8 0, .int .u8 0, .int .u8 0, .int .u8 0, .int .u8 0, .int .u8 0, .int .u8 0, .int .u8 0, .int .u8 0, .int .u8 0, .int .u8 0, .int .u8 0, .int .u8 0, .int .u8 0, .int .u8 0, .int .u8 0, .int .u8 0, .int .u8 0, .int .u8 0, .int .u8 0, .int .u8 0, .int .u8 0, .int .u8 0, .int .u8 0, .int .u8 0, .int .u8 0, .int .u8 0, .int .u8 0, .int .u8 0, .int .u8 0, .int .u8 0, .int .u8 0, .int .u8 0, .int .u8 0, .int .u8 0, .int .u8 0, .int .u8 0, .int .u8 0, .int .u8 0, .int .u8 0, .int .u8 0, .int .u8 0, .int .u8 0, .int .u8 0, .int .u8 0, .int .u8 0, .int .u8 0, .int .u8 0, .int .u8 0, .int .u8 0, .int .u8 0, .int .u8 0, .int .u8 0, .int .u8 0, .int .u8 0], bytes := 64, plain := false }
theorem ty353_ok : TiOk Tryz.prog 353 ty353 := tiOk_of (by kernel_rfl) (by kernel_rfl) (fun h => by cases h)
def tyL : List (Nat × TI) := [(2, ty2), (3, ty3), (4, ty4), (5, ty5), (9, ty9), (12, ty12), (13, ty13), (20, ty20), (21, ty21), (22, ty22), (23, ty23), (24, ty24), (25, ty25), (26, ty26), (27, ty27), (28, ty28), (29, ty29), (34, ty34), (35, ty35), (37, ty37), (38, ty38), (39, ty39), (40, ty40), (41, ty41), (42, ty42), (43, ty43), (44, ty44), (53, ty53), (54, ty54), (55, ty55), (56, ty56), (64, ty64), (68, ty68), (69, ty69), (70, ty70), (71, ty71), (72, ty72), (73, ty73), (78, ty78), (79, ty79), (91, ty91), (92, ty92), (97, ty97), (104, ty104), (111, ty111), (119, ty119), (121, ty121), (122, ty122), (123, ty123), (124, ty124), (131, ty131), (133, ty133), (137, ty137), (152, ty152), (167, ty167), (174, ty174), (175, ty175), (176, ty176), (177, ty177), (178, ty178), (180, ty180), (188, ty188), (189, ty189), (192, ty192), (197, ty197), (198, ty198), (201, ty201), (202, ty202), (203, ty203), (204, ty204), (205, ty205), (206, ty206), (216, ty216), (225, ty225), (234, ty234), (235, ty235), (242, ty242), (264, ty264), (281, ty281), (297, ty297), (299, ty299), (300, ty300), (301, ty301), (310, ty310), (322, ty322), (323, ty323), (324, ty324), (328, ty328), (330, ty330), (332, ty332), (333, ty333), (334, ty334), (335, ty335), (345, ty345), (350, ty350), (351, ty351), (352, ty352), (353, ty353)]
def T : TypeId → Option TI := tabFind tyL
theorem tOk : TabOk Tryz.prog T := tabOk_of ⟨ty2_ok, ty3_ok, ty4_ok, ty5_ok, ty9_ok, ty12_ok, ty13_ok, ty20_ok, ty21_ok, ty22_ok, ty23_ok, ty24_ok, ty25_ok, ty26_ok, ty27_ok, ty28_ok, ty29_ok, ty34_ok, ty35_ok, ty37_ok, ty38_ok, ty39_ok, ty40_ok, ty41_ok, ty42_ok, ty43_ok, ty44_ok, ty53_ok, ty54_ok, ty55_ok, ty56_ok, ty64_ok, ty68_ok, ty69_ok, ty70_ok, ty71_ok, ty72_ok, ty73_ok, ty78_ok, ty79_ok, ty91_ok, ty92_ok, ty97_ok, ty104_ok, ty111_ok, ty119_ok, ty121_ok, ty122_ok, ty123_ok, ty124_ok, ty131_ok, ty133_ok, ty137_ok, ty152_ok, ty167_ok, ty174_ok, ty175_ok, ty176_ok, ty177_ok, ty178_ok, ty180_ok, ty188_ok, ty189_ok, ty192_ok, ty197_ok, ty198_ok, ty201_ok, ty202_ok, ty203_ok, ty204_ok, ty205_ok, ty206_ok, ty216_ok, ty225_ok, ty234_ok, ty235_ok, ty242_ok, ty264_ok, ty281_ok, ty297_ok, ty299_ok, ty300_ok, ty301_ok, ty310_ok, ty322_ok, ty323_ok, ty324_ok, ty328_ok, ty330_ok, ty332_ok, ty333_ok, ty334_ok, ty335_ok, ty345_ok, ty350_ok, ty351_ok, ty352_ok, ty353_ok, trivial⟩
theorem zeroOk_of : ∀ {l : List (Nat × TI)}, (l.all fun p => constOk p.2.zero) = true → ZeroOk (tabFind l)
  | [], _, t, i, h => by cases h
  | (k, j) :: l, h, t, i, hf => by
    simp only [List.all_cons, Bool.and_eq_true] at h
    unfold tabFind at hf
    cases hb : Nat.beq k t <;> rw [hb] at hf
    · exact zeroOk_of h.2 t i hf
    · obtain rfl : j = i := by simpa using hf
      exact h.1
theorem zOk : ZeroOk T := zeroOk_of (by kernel_rfl)
theorem mixed : Tryz.prog.follows .mixedOrders = true := by kernel_rfl
end Go.Proofs.YtcchfmilleffjaaGreatDoor
namespace Go.Proofs.YtcchfmilleffjaaGreatDoor
open Go Go.RowKit
end Go.Proofs.YtcchfmilleffjaaGreatDoor
namespace Go.Proofs
open Go.Shelf
def Tryz.lays106_ren : Go.Shelf.Ren := ⟨fun | 106 => 136 | 213 => 186 | 265 => 233 | n => n, fun | 9 => 9 | 3 => 3 | n => n, fun | n => n⟩
theorem Tryz.lays106 : Go.Proofs.Lays.n106 Tryz.prog Tryz.lays106_ren := {
  mixed := by kernel_rfl
  f106 := Tryz.func136.trans (congrArg some (by kernel_rfl))
  f213 := Tryz.func186.trans (congrArg some (by kernel_rfl))
  f265 := Tryz.func233.trans (congrArg some (by kernel_rfl))
  t3 := Tryz.underlying3
  a3 := Tryz.isAgg3
  z3 := Tryz.sizeOf3
  v3 := Tryz.zeroValue3
  t9 := Tryz.underlying9
  a9 := Tryz.isAgg9
  z9 := Tryz.sizeOf9
  v9 := Tryz.zeroValue9 }
open Go.RowKit in
theorem Tryz.strings_Compare (a b : ByteArray) (w : World) :
    Calls Tryz.prog 136 #[.string a, .string b] w fun e w' => e = .returned (.int .i64 (Lib.compareBytes a.data.toList b.data.toList)) ∧ w' = w := Any.strings_Compare Tryz.lays106 a b w
def Tryz.lays137_ren : Go.Shelf.Ren := ⟨fun | 137 => 197 | 217 => 198 | 266 => 240 | n => n, fun | 9 => 9 | 5 => 5 | 3 => 3 | n => n, fun | n => n⟩
theorem Tryz.lays137 : Go.Proofs.Lays.n137 Tryz.prog Tryz.lays137_ren := {
  mixed := by kernel_rfl
  f137 := Tryz.func197.trans (congrArg some (by kernel_rfl))
  f217 := Tryz.func198.trans (congrArg some (by kernel_rfl))
  f266 := Tryz.func240.trans (congrArg some (by kernel_rfl))
  t3 := Tryz.underlying3
  a3 := Tryz.isAgg3
  z3 := Tryz.sizeOf3
  v3 := Tryz.zeroValue3
  t5 := Tryz.underlying5
  a5 := Tryz.isAgg5
  z5 := Tryz.sizeOf5
  v5 := Tryz.zeroValue5
  t9 := Tryz.underlying9
  a9 := Tryz.isAgg9
  z9 := Tryz.sizeOf9
  v9 := Tryz.zeroValue9 }
open Go.RowKit in
theorem Tryz.strings_IndexByte (s : ByteArray) (c : Int) (w : World) :
    Calls Tryz.prog 197 #[.string s, .int .u8 c] w fun e w' => e = .returned (.int .i64 (Lib.indexByte s.data.toList c.toNat.toUInt8)) ∧ w' = w := Any.strings_IndexByte Tryz.lays137 s c w
def Tryz.lays103_ren : Go.Shelf.Ren := ⟨fun | 103 => 128 | 210 => 176 | 206 => 145 | n => n, fun | 9 => 9 | 4 => 4 | 24 => 106 | 3 => 3 | n => n, fun | n => n⟩
theorem Tryz.lays103 : Go.Proofs.Lays.n103 Tryz.prog Tryz.lays103_ren := {
  mixed := by kernel_rfl
  f103 := Tryz.func128.trans (congrArg some (by kernel_rfl))
  f206 := Tryz.func145.trans (congrArg some (by kernel_rfl))
  f210 := Tryz.func176.trans (congrArg some (by kernel_rfl))
  t3 := Tryz.underlying3
  a3 := Tryz.isAgg3
  z3 := Tryz.sizeOf3
  v3 := Tryz.zeroValue3
  t4 := Tryz.underlying4
  a4 := Tryz.isAgg4
  z4 := Tryz.sizeOf4
  v4 := Tryz.zeroValue4
  t9 := Tryz.underlying9
  a9 := Tryz.isAgg9
  z9 := Tryz.sizeOf9
  v9 := Tryz.zeroValue9
  t24 := Tryz.underlying106
  a24 := Tryz.isAgg106
  z24 := Tryz.sizeOf106
  v24 := Tryz.zeroValue106 }
open Go.RowKit in
theorem Tryz.strings_CutPrefix (s p : ByteArray) (w : World) :
    Calls Tryz.prog 128 #[.string s, .string p] w fun e w' => e = .returned (.tuple #[.string ⟨(Lib.trimPrefix s.data.toList p.data.toList).toArray⟩, .bool (Lib.hasPrefix s.data.toList p.data.toList)]) ∧ w' = w := Any.strings_CutPrefix Tryz.lays103 s p w
def Tryz.lays122_ren : Go.Shelf.Ren := ⟨fun | 122 => 122 | 215 => 171 | n => n, fun | 3 => 3 | 4 => 4 | n => n, fun | n => n⟩
theorem Tryz.lays122 : Go.Proofs.Lays.n122 Tryz.prog Tryz.lays122_ren := {
  mixed := by kernel_rfl
  f122 := Tryz.func122.trans (congrArg some (by kernel_rfl))
  f215 := Tryz.func171.trans (congrArg some (by kernel_rfl))
  t3 := Tryz.underlying3
  a3 := Tryz.isAgg3
  z3 := Tryz.sizeOf3
  v3 := Tryz.zeroValue3
  t4 := Tryz.underlying4
  a4 := Tryz.isAgg4
  z4 := Tryz.sizeOf4
  v4 := Tryz.zeroValue4 }
open Go.RowKit in
theorem Tryz.cmp_Compare_int (x y : Int) (w : World) :
    Calls Tryz.prog 122 #[.int .i64 x, .int .i64 y] w fun e w' => e = .returned (.int .i64 (Lib.compareInt x y)) ∧ w' = w := Any.cmp_Compare_int Tryz.lays122 x y w
def Tryz.laysC172_ren : Go.Shelf.Ren := ⟨fun | 172 => 135 | 244 => 184 | 245 => 185 | 247 => 228 | 279 => 229 | 280 => 230 | 281 => 231 | 282 => 232 | 287 => 269 | 316 => 270 | 171 => 272 | 205 => 271 | 321 => 287 | 322 => 288 | 243 => 289 | 246 => 295 | 283 => 298 | 284 => 299 | 285 => 300 | 286 => 301 | 129 => 262 | 317 => 302 | 318 => 303 | 319 => 304 | 320 => 305 | 337 => 306 | 338 => 307 | n => n, fun | 9 => 9 | 3 => 3 | 75 => 189 | 76 => 190 | 4 => 4 | 5 => 5 | 167 => 271 | 37 => 197 | 0 => 0 | 85 => 272 | 2 => 2 | 168 => 274 | 53 => 297 | 175 => 308 | 46 => 242 | 210 => 311 | 127 => 328 | 145 => 331 | 143 => 329 | 21 => 21 | 171 => 345 | 173 => 347 | 212 => 350 | 51 => 281 | 20 => 20 | 213 => 351 | 232 => 352 | 233 => 353 | 80 => 326 | n => n, fun | 15 => 1 | 16 => 2 | 17 => 5 | 18 => 6 | 19 => 7 | n => n⟩
theorem Tryz.laysC172 : Go.Proofs.LaysC.n172 Tryz.prog Tryz.laysC172_ren := {
  mixed := by kernel_rfl
  f129 := Tryz.func262.trans (congrArg some (by kernel_rfl))
  f171 := Tryz.func272.trans (congrArg some (by kernel_rfl))
  f172 := Tryz.func135.trans (congrArg some (by kernel_rfl))
  f205 := Tryz.func271.trans (congrArg some (by kernel_rfl))
  f243 := Tryz.func289.trans (congrArg some (by kernel_rfl))
  f244 := Tryz.func184.trans (congrArg some (by kernel_rfl))
  f245 := Tryz.func185.trans (congrArg some (by kernel_rfl))
  f246 := Tryz.func295.trans (congrArg some (by kernel_rfl))
  f247 := Tryz.func228.trans (congrArg some (by kernel_rfl))
  f279 := Tryz.func229.trans (congrArg some (by kernel_rfl))
  f280 := Tryz.func230.trans (congrArg some (by kernel_rfl))
  f281 := Tryz.func231.trans (congrArg some (by kernel_rfl))
  f282 := Tryz.func232.trans (congrArg some (by kernel_rfl))
  f283 := Tryz.func298.trans (congrArg some (by kernel_rfl))
  f284 := Tryz.func299.trans (congrArg some (by kernel_rfl))
  f285 := Tryz.func300.trans (congrArg some (by kernel_rfl))
  f286 := Tryz.func301.trans (congrArg some (by kernel_rfl))
  f287 := Tryz.func269.trans (congrArg some (by kernel_rfl))
  f316 := Tryz.func270.trans (congrArg some (by kernel_rfl))
  f317 := Tryz.func302.trans (congrArg some (by kernel_rfl))
  f318 := Tryz.func303.trans (congrArg some (by kernel_rfl))
  f319 := Tryz.func304.trans (congrArg some (by kernel_rfl))
  f320 := Tryz.func305.trans (congrArg some (by kernel_rfl))
  f321 := Tryz.func287.trans (congrArg some (by kernel_rfl))
  f322 := Tryz.func288.trans (congrArg some (by kernel_rfl))
  f337 := Tryz.func306.trans (congrArg some (by kernel_rfl))
  f338 := Tryz.func307.trans (congrArg some (by kernel_rfl))
  t0 := Tryz.underlying0
  a0 := Tryz.isAgg0
  z0 := Tryz.sizeOf0
  v0 := Tryz.zeroValue0
  t2 := Tryz.underlying2
  a2 := Tryz.isAgg2
  z2 := Tryz.sizeOf2
  v2 := Tryz.zeroValue2
  t3 := Tryz.underlying3
  a3 := Tryz.isAgg3
  z3 := Tryz.sizeOf3
  v3 := Tryz.zeroValue3
  t4 := Tryz.underlying4
  a4 := Tryz.isAgg4
  z4 := Tryz.sizeOf4
  v4 := Tryz.zeroValue4
  t5 := Tryz.underlying5
  a5 := Tryz.isAgg5
  z5 := Tryz.sizeOf5
  v5 := Tryz.zeroValue5
  t9 := Tryz.underlying9
  a9 := Tryz.isAgg9
  z9 := Tryz.sizeOf9
  v9 := Tryz.zeroValue9
  t20 := Tryz.underlying20
  a20 := Tryz.isAgg20
  z20 := Tryz.sizeOf20
  v20 := Tryz.zeroValue20
  t21 := Tryz.underlying21
  a21 := Tryz.isAgg21
  z21 := Tryz.sizeOf21
  v21 := Tryz.zeroValue21
  t37 := Tryz.underlying197
  a37 := Tryz.isAgg197
  z37 := Tryz.sizeOf197
  v37 := Tryz.zeroValue197
  t46 := Tryz.underlying242
  a46 := Tryz.isAgg242
  z46 := Tryz.sizeOf242
  v46 := Tryz.zeroValue242
  t51 := Tryz.underlying281
  a51 := Tryz.isAgg281
  z51 := Tryz.sizeOf281
  v51 := Tryz.zeroValue281
  t53 := Tryz.underlying297
  a53 := Tryz.isAgg297
  z53 := Tryz.sizeOf297
  v53 := Tryz.zeroValue297
  t75 := Tryz.underlying189
  a75 := Tryz.isAgg189
  z75 := Tryz.sizeOf189
  v75 := Tryz.zeroValue189
  t76 := Tryz.underlying190
  a76 := Tryz.isAgg190
  z76 := Tryz.sizeOf190
  v76 := Tryz.zeroValue190
  t85 := Tryz.underlying272
  a85 := Tryz.isAgg272
  z85 := Tryz.sizeOf272
  v85 := Tryz.zeroValue272
  t127 := Tryz.underlying328
  a127 := Tryz.isAgg328
  z127 := Tryz.sizeOf328
  v127 := Tryz.zeroValue328
  t143 := Tryz.underlying329
  a143 := Tryz.isAgg329
  z143 := Tryz.sizeOf329
  v143 := Tryz.zeroValue329
  t145 := Tryz.underlying331
  a145 := Tryz.isAgg331
  z145 := Tryz.sizeOf331
  v145 := Tryz.zeroValue331
  t167 := Tryz.underlying271
  a167 := Tryz.isAgg271
  z167 := Tryz.sizeOf271
  v167 := Tryz.zeroValue271
  t168 := Tryz.underlying274
  a168 := Tryz.isAgg274
  z168 := Tryz.sizeOf274
  v168 := Tryz.zeroValue274
  t171 := Tryz.underlying345
  a171 := Tryz.isAgg345
  z171 := Tryz.sizeOf345
  v171 := Tryz.zeroValue345
  t173 := Tryz.underlying347
  a173 := Tryz.isAgg347
  z173 := Tryz.sizeOf347
  v173 := Tryz.zeroValue347
  t175 := Tryz.underlying308
  a175 := Tryz.isAgg308
  z175 := Tryz.sizeOf308
  v175 := Tryz.zeroValue308
  t210 := Tryz.underlying311
  a210 := Tryz.isAgg311
  z210 := Tryz.sizeOf311
  v210 := Tryz.zeroValue311
  t212 := Tryz.underlying350
  a212 := Tryz.isAgg350
  z212 := Tryz.sizeOf350
  v212 := Tryz.zeroValue350
  t213 := Tryz.underlying351
  a213 := Tryz.isAgg351
  z213 := Tryz.sizeOf351
  t232 := Tryz.underlying352
  a232 := Tryz.isAgg352
  z232 := Tryz.sizeOf352
  v232 := Tryz.zeroValue352
  t233 := Tryz.underlying353
  a233 := Tryz.isAgg353
  z233 := Tryz.sizeOf353
  v233 := Tryz.zeroValue353
  g15 := by kernel_rfl
  g16 := by kernel_rfl
  g17 := by kernel_rfl
  g18 := by kernel_rfl
  g19 := by kernel_rfl
  t80 := Tryz.underlying326
  a80 := Tryz.isAgg326
  z80 := Tryz.sizeOf326
  v80 := Tryz.zeroValue326
  i0 := by kernel_rfl
  i2 := by kernel_rfl
  i3 := by kernel_rfl
  i4 := by kernel_rfl
  i5 := by kernel_rfl
  i9 := by kernel_rfl
  i20 := by kernel_rfl
  i21 := by kernel_rfl
  i37 := by kernel_rfl
  i46 := by kernel_rfl
  i51 := by kernel_rfl
  i53 := by kernel_rfl
  i75 := by kernel_rfl
  i76 := by kernel_rfl
  i80 := by kernel_rfl
  i85 := by kernel_rfl
  i127 := by kernel_rfl
  i143 := by kernel_rfl
  i145 := by kernel_rfl
  i167 := by kernel_rfl
  i168 := by kernel_rfl
  i171 := by kernel_rfl
  i173 := by kernel_rfl
  i175 := by kernel_rfl
  i210 := by kernel_rfl
  i212 := by kernel_rfl
  i232 := by kernel_rfl
  i233 := by kernel_rfl
  m15 := by kernel_rfl
  m16 := by kernel_rfl
  m17 := by kernel_rfl
  m18 := by kernel_rfl
  m19 := by kernel_rfl
  c0 := by kernel_rfl
  c2 := by kernel_rfl
  c3 := by kernel_rfl
  c4 := by kernel_rfl
  c5 := by kernel_rfl
  c9 := by kernel_rfl
  c20 := by kernel_rfl
  c21 := by kernel_rfl
  c37 := by kernel_rfl
  c46 := by kernel_rfl
  c51 := by kernel_rfl
  c53 := by kernel_rfl
  c75 := by kernel_rfl
  c76 := by kernel_rfl
  c80 := by kernel_rfl
  c85 := by kernel_rfl
  c127 := by kernel_rfl
  c143 := by kernel_rfl
  c145 := by kernel_rfl
  c167 := by kernel_rfl
  c168 := by kernel_rfl
  c171 := by kernel_rfl
  c173 := by kernel_rfl
  c175 := by kernel_rfl
  c210 := by kernel_rfl
  c212 := by kernel_rfl
  c213 := by kernel_rfl
  c232 := by kernel_rfl
  c233 := by kernel_rfl }
open Go.RowKit in
theorem Tryz.strconv_Atoi_ok (s : ByteArray) (hmax : s.size ≤ 9223372036854775806) (v : Int) (h : Lib.atoiAll s.data.toList = .ok v) (w : World) :
    Calls Tryz.prog 135 #[.string s] w fun e w' => e = .returned (.tuple #[.int .i64 v, .nilIface]) ∧ (w' = w ∨ ∃ t, w' = Lib.bytesWorld w 5 t) := Any.strconv_Atoi_ok Tryz.laysC172 s hmax v h w
open Go.RowKit in
theorem Tryz.strconv_Atoi_syntax_var (s : ByteArray) (hlim : s.size ≤ 281474976710656) (h : Lib.atoiAll s.data.toList = Lib.atoiAll []) (tp : TypeId) (p : Value) (w : World) (hvar : w.var? Tryz.prog "strconv.ErrSyntax" = some #[.iface tp p]) :
    Calls Tryz.prog 135 #[.string s] w fun e w' => ∃ N, e = .returned (.tuple #[.int .i64 0, .iface 274 (.pointer (some ⟨N, 0, none⟩))]) ∧ w.heap.size ≤ N ∧ w'.heap[N]? = some (.cells #[.string ⟨#[65, 116, 111, 105]⟩, .string s, .iface tp p] 311 (0, 0)) ∧ Below w.heap.size w w' := Any.strconv_Atoi_syntax_var Tryz.laysC172 s hlim h tp p w hvar
open Go.RowKit in
theorem Tryz.strconv_Atoi_range_var (s : ByteArray) (hlim : s.size ≤ 281474976710656) (h : Lib.atoiAll s.data.toList = .range) (tp : TypeId) (p : Value) (w : World) (hvar : w.var? Tryz.prog "strconv.ErrRange" = some #[.iface tp p]) :
    Calls Tryz.prog 135 #[.string s] w fun e w' => ∃ N, e = .returned (.tuple #[.int .i64 (Lib.atoiSat s.data.toList), .iface 274 (.pointer (some ⟨N, 0, none⟩))]) ∧ w.heap.size ≤ N ∧ w'.heap[N]? = some (.cells #[.string ⟨#[65, 116, 111, 105]⟩, .string s, .iface tp p] 311 (0, 0)) ∧ Below w.heap.size w w' := Any.strconv_Atoi_range_var Tryz.laysC172 s hlim h tp p w hvar
def Tryz.lays144_ren : Go.Shelf.Ren := ⟨fun | 144 => 101 | 143 => 144 | 219 => 149 | 217 => 198 | 225 => 199 | 224 => 200 | 267 => 201 | 266 => 240 | 314 => 241 | n => n, fun | 9 => 9 | 4 => 4 | 3 => 3 | 5 => 5 | 46 => 242 | 146 => 282 | 51 => 281 | n => n, fun | 1 => 0 | n => n⟩
theorem Tryz.lays144 : Go.Proofs.Lays.n144 Tryz.prog Tryz.lays144_ren := {
  mixed := by kernel_rfl
  f143 := Tryz.func144.trans (congrArg some (by kernel_rfl))
  f144 := Tryz.func101.trans (congrArg some (by kernel_rfl))
  f217 := Tryz.func198.trans (congrArg some (by kernel_rfl))
  f219 := Tryz.func149.trans (congrArg some (by kernel_rfl))
  f224 := Tryz.func200.trans (congrArg some (by kernel_rfl))
  f225 := Tryz.func199.trans (congrArg some (by kernel_rfl))
  f266 := Tryz.func240.trans (congrArg some (by kernel_rfl))
  f267 := Tryz.func201.trans (congrArg some (by kernel_rfl))
  f314 := Tryz.func241.trans (congrArg some (by kernel_rfl))
  t3 := Tryz.underlying3
  a3 := Tryz.isAgg3
  z3 := Tryz.sizeOf3
  v3 := Tryz.zeroValue3
  t4 := Tryz.underlying4
  a4 := Tryz.isAgg4
  z4 := Tryz.sizeOf4
  v4 := Tryz.zeroValue4
  t5 := Tryz.underlying5
  a5 := Tryz.isAgg5
  z5 := Tryz.sizeOf5
  v5 := Tryz.zeroValue5
  t9 := Tryz.underlying9
  a9 := Tryz.isAgg9
  z9 := Tryz.sizeOf9
  v9 := Tryz.zeroValue9
  t46 := Tryz.underlying242
  a46 := Tryz.isAgg242
  z46 := Tryz.sizeOf242
  v46 := Tryz.zeroValue242
  t51 := Tryz.underlying281
  a51 := Tryz.isAgg281
  z51 := Tryz.sizeOf281
  v51 := Tryz.zeroValue281
  t146 := Tryz.underlying282
  a146 := Tryz.isAgg282
  z146 := Tryz.sizeOf282
  v146 := Tryz.zeroValue282
  g1 := by kernel_rfl }
open Go.RowKit Go.Lib in
theorem Tryz.strings_Contains (s sub : ByteArray) (m : Int) (w : World) (hs : s.size < 4294967281) (hm : w.cell? ⟨0, 0, none⟩ = some (.int .i64 m)) :
    Calls Tryz.prog 101 #[.string s, .string sub] w fun e w' => e = .returned (.bool (Lib.contains s.data.toList sub.data.toList)) ∧ w' = w := Any.strings_Contains Tryz.lays144 s sub m w hs hm
def Tryz.lays145_ren : Go.Shelf.Ren := ⟨fun | 145 => 54 | 220 => 107 | 219 => 149 | 217 => 198 | 225 => 199 | 224 => 200 | 267 => 201 | 266 => 240 | 314 => 241 | n => n, fun | 9 => 9 | 4 => 4 | 59 => 101 | 3 => 3 | 5 => 5 | 46 => 242 | 146 => 282 | 51 => 281 | n => n, fun | 1 => 0 | n => n⟩
theorem Tryz.lays145 : Go.Proofs.Lays.n145 Tryz.prog Tryz.lays145_ren := {
  mixed := by kernel_rfl
  f145 := Tryz.func54.trans (congrArg some (by kernel_rfl))
  f217 := Tryz.func198.trans (congrArg some (by kernel_rfl))
  f219 := Tryz.func149.trans (congrArg some (by kernel_rfl))
  f220 := Tryz.func107.trans (congrArg some (by kernel_rfl))
  f224 := Tryz.func200.trans (congrArg some (by kernel_rfl))
  f225 := Tryz.func199.trans (congrArg some (by kernel_rfl))
  f266 := Tryz.func240.trans (congrArg some (by kernel_rfl))
  f267 := Tryz.func201.trans (congrArg some (by kernel_rfl))
  f314 := Tryz.func241.trans (congrArg some (by kernel_rfl))
  t3 := Tryz.underlying3
  a3 := Tryz.isAgg3
  z3 := Tryz.sizeOf3
  v3 := Tryz.zeroValue3
  t4 := Tryz.underlying4
  a4 := Tryz.isAgg4
  z4 := Tryz.sizeOf4
  v4 := Tryz.zeroValue4
  t5 := Tryz.underlying5
  a5 := Tryz.isAgg5
  z5 := Tryz.sizeOf5
  v5 := Tryz.zeroValue5
  t9 := Tryz.underlying9
  a9 := Tryz.isAgg9
  z9 := Tryz.sizeOf9
  v9 := Tryz.zeroValue9
  t46 := Tryz.underlying242
  a46 := Tryz.isAgg242
  z46 := Tryz.sizeOf242
  v46 := Tryz.zeroValue242
  t51 := Tryz.underlying281
  a51 := Tryz.isAgg281
  z51 := Tryz.sizeOf281
  v51 := Tryz.zeroValue281
  t59 := Tryz.underlying101
  a59 := Tryz.isAgg101
  z59 := Tryz.sizeOf101
  v59 := Tryz.zeroValue101
  t146 := Tryz.underlying282
  a146 := Tryz.isAgg282
  z146 := Tryz.sizeOf282
  v146 := Tryz.zeroValue282
  g1 := by kernel_rfl }
open Go.RowKit Go.Lib in
theorem Tryz.strings_Cut (s sep : ByteArray) (m : Int) (w : World) (hs : s.size < 4294967281) (hm : w.cell? ⟨0, 0, none⟩ = some (.int .i64 m)) :
    Calls Tryz.prog 54 #[.string s, .string sep] w fun e w' => e = .returned (.tuple #[.string ⟨(Lib.cut s.data.toList sep.data.toList).1.toArray⟩, .string ⟨(Lib.cut s.data.toList sep.data.toList).2.1.toArray⟩, .bool (Lib.cut s.data.toList sep.data.toList).2.2]) ∧ ∃ n, w' = w.drewN n := Any.strings_Cut Tryz.lays145 s sep m w hs hm
def Tryz.lays99_ren : Go.Shelf.Ren := ⟨fun | 99 => 103 | 206 => 145 | n => n, fun | 9 => 9 | 4 => 4 | 3 => 3 | n => n, fun | n => n⟩
theorem Tryz.lays99 : Go.Proofs.Lays.n99 Tryz.prog Tryz.lays99_ren := {
  mixed := by kernel_rfl
  f99 := Tryz.func103.trans (congrArg some (by kernel_rfl))
  f206 := Tryz.func145.trans (congrArg some (by kernel_rfl))
  t3 := Tryz.underlying3
  a3 := Tryz.isAgg3
  z3 := Tryz.sizeOf3
  v3 := Tryz.zeroValue3
  t4 := Tryz.underlying4
  a4 := Tryz.isAgg4
  z4 := Tryz.sizeOf4
  v4 := Tryz.zeroValue4
  t9 := Tryz.underlying9
  a9 := Tryz.isAgg9
  z9 := Tryz.sizeOf9
  v9 := Tryz.zeroValue9 }
open Go.RowKit Go.Lib in
theorem Tryz.strings_HasPrefix (s p : ByteArray) (w : World) :
    Calls Tryz.prog 103 #[.string s, .string p] w fun e w' => e = .returned (.bool (Lib.hasPrefix s.data.toList p.data.toList)) ∧ w' = w := Any.strings_HasPrefix Tryz.lays99 s p w
def Tryz.lays146_ren : Go.Shelf.Ren := ⟨fun | 146 => 96 | 221 => 142 | 268 => 188 | 138 => 189 | 143 => 144 | 195 => 234 | 197 => 235 | 218 => 236 | 219 => 149 | 260 => 273 | 217 => 198 | 225 => 199 | 224 => 200 | 267 => 201 | 266 => 240 | 314 => 241 | n => n, fun | 9 => 9 | 31 => 71 | 3 => 3 | 4 => 4 | 0 => 0 | 105 => 278 | 21 => 21 | 5 => 5 | 46 => 242 | 119 => 332 | 139 => 335 | 138 => 334 | 146 => 282 | 51 => 281 | n => n, fun | 1 => 0 | 3 => 3 | 4 => 4 | n => n⟩
theorem Tryz.lays146 : Go.Proofs.Lays.n146 Tryz.prog Tryz.lays146_ren := {
  mixed := by kernel_rfl
  f138 := Tryz.func189.trans (congrArg some (by kernel_rfl))
  f143 := Tryz.func144.trans (congrArg some (by kernel_rfl))
  f146 := Tryz.func96.trans (congrArg some (by kernel_rfl))
  f195 := Tryz.func234.trans (congrArg some (by kernel_rfl))
  f197 := Tryz.func235.trans (congrArg some (by kernel_rfl))
  f217 := Tryz.func198.trans (congrArg some (by kernel_rfl))
  f218 := Tryz.func236.trans (congrArg some (by kernel_rfl))
  f219 := Tryz.func149.trans (congrArg some (by kernel_rfl))
  f221 := Tryz.func142.trans (congrArg some (by kernel_rfl))
  f224 := Tryz.func200.trans (congrArg some (by kernel_rfl))
  f225 := Tryz.func199.trans (congrArg some (by kernel_rfl))
  f260 := Tryz.func273.trans (congrArg some (by kernel_rfl))
  f266 := Tryz.func240.trans (congrArg some (by kernel_rfl))
  f267 := Tryz.func201.trans (congrArg some (by kernel_rfl))
  f268 := Tryz.func188.trans (congrArg some (by kernel_rfl))
  f314 := Tryz.func241.trans (congrArg some (by kernel_rfl))
  t0 := Tryz.underlying0
  a0 := Tryz.isAgg0
  z0 := Tryz.sizeOf0
  v0 := Tryz.zeroValue0
  t3 := Tryz.underlying3
  a3 := Tryz.isAgg3
  z3 := Tryz.sizeOf3
  v3 := Tryz.zeroValue3
  t4 := Tryz.underlying4
  a4 := Tryz.isAgg4
  z4 := Tryz.sizeOf4
  v4 := Tryz.zeroValue4
  t5 := Tryz.underlying5
  a5 := Tryz.isAgg5
  z5 := Tryz.sizeOf5
  v5 := Tryz.zeroValue5
  t9 := Tryz.underlying9
  a9 := Tryz.isAgg9
  z9 := Tryz.sizeOf9
  v9 := Tryz.zeroValue9
  t21 := Tryz.underlying21
  a21 := Tryz.isAgg21
  z21 := Tryz.sizeOf21
  v21 := Tryz.zeroValue21
  t31 := Tryz.underlying71
  a31 := Tryz.isAgg71
  z31 := Tryz.sizeOf71
  v31 := Tryz.zeroValue71
  t46 := Tryz.underlying242
  a46 := Tryz.isAgg242
  z46 := Tryz.sizeOf242
  v46 := Tryz.zeroValue242
  t51 := Tryz.underlying281
  a51 := Tryz.isAgg281
  z51 := Tryz.sizeOf281
  v51 := Tryz.zeroValue281
  t105 := Tryz.underlying278
  a105 := Tryz.isAgg278
  z105 := Tryz.sizeOf278
  v105 := Tryz.zeroValue278
  t119 := Tryz.underlying332
  a119 := Tryz.isAgg332
  z119 := Tryz.sizeOf332
  t138 := Tryz.underlying334
  a138 := Tryz.isAgg334
  z138 := Tryz.sizeOf334
  v138 := Tryz.zeroValue334
  t139 := Tryz.underlying335
  a139 := Tryz.isAgg335
  z139 := Tryz.sizeOf335
  v139 := Tryz.zeroValue335
  t146 := Tryz.underlying282
  a146 := Tryz.isAgg282
  z146 := Tryz.sizeOf282
  v146 := Tryz.zeroValue282
  g1 := by kernel_rfl
  g3 := by kernel_rfl
  g4 := by kernel_rfl }
open Go.RowKit Go.Lib in
theorem Tryz.strings_Split (s sep : ByteArray) (m : Int) (w : World) (hs : s.size < 4294967281) (hm : w.cell? ⟨0, 0, none⟩ = some (.int .i64 m)) (h1 : 1 ≤ sep.size) :
    Calls Tryz.prog 96 #[.string s, .string sep] w fun e w' =>
      e = .returned (.slice (some ⟨w.heap.size, 0, none⟩) (Lib.countB s sep + 1) (Lib.countB s sep + 1)) ∧ w' = w.alloc (.cells ((Lib.splitB sep 0 (Lib.countB s sep) s).map Value.string).toArray 9) := Any.strings_Split Tryz.lays146 (by kernel_rfl) s sep m w hs hm h1
end Go.Proofs
namespace Go.Proofs.YtcchfmilleffjaaGreatDoor
theorem all_take_succ {α : Type} {φ : α → Bool} {s : List α} {d : α} {i : Nat} (hi : i < s.length) (h : (s.take i).all φ = true) (hc : φ (s.getD i d) = true) : (s.take (i + 1)).all φ = true := by
  rw [List.take_add_one, List.all_append, h]
  rw [List.getD_eq_getElem?_getD, List.getElem?_eq_getElem hi] at hc
  simp only [List.getElem?_eq_getElem hi, Option.toList_some, List.all_cons, List.all_nil, Bool.and_true, Bool.true_and]
  simpa using hc
theorem all_false_of {α : Type} {φ : α → Bool} {s : List α} {d : α} {i : Nat} (hi : i < s.length) (hc : φ (s.getD i d) = false) : s.all φ = false := by
  rw [List.getD_eq_getElem?_getD, List.getElem?_eq_getElem hi] at hc
  rw [← Bool.not_eq_true, List.all_eq_true]
  intro h
  have := h s[i] (List.getElem_mem hi)
  simp at hc
  rw [hc] at this
  cases this
theorem all_of_take {α : Type} {φ : α → Bool} {s : List α} {i : Nat} (hi : s.length ≤ i) (h : (s.take i).all φ = true) : s.all φ = true := by
  rwa [List.take_of_length_le hi] at h
theorem countFrom_le (sub : List UInt8) : ∀ (f : Nat) (s : List UInt8), Go.Lib.countFrom sub f s ≤ f
  | 0, _ => Nat.le_refl _
  | f + 1, s => by
    unfold Go.Lib.countFrom
    split
    · omega
    · have := countFrom_le sub f (s.drop ((Go.Lib.index s sub).toNat + sub.length)); omega
theorem splitK_le (sep : List UInt8) (save : Nat) : ∀ (k : Nat) (s : List UInt8), (Go.Lib.splitK sep save k s).length ≤ k + 1
  | 0, _ => by simp [Go.Lib.splitK]
  | k + 1, s => by
    unfold Go.Lib.splitK
    split
    · simp
    · have := splitK_le sep save k (s.drop ((Go.Lib.index s sep).toNat + sep.length)); simp; omega
theorem split_le (s sep : List UInt8) : (Go.Lib.split s sep).length ≤ s.length + 2 := by
  have h1 := splitK_le sep 0 (Go.Lib.count s sep) s
  have h2 := countFrom_le sep (s.length + 1) s
  unfold Go.Lib.count at h1
  unfold Go.Lib.split Go.Lib.count
  omega
theorem splitK_mem (sep : List UInt8) : ∀ (k : Nat) (s x : List UInt8), x ∈ Go.Lib.splitK sep 0 k s → x.length ≤ s.length
  | 0, s, x, h => by simp [Go.Lib.splitK] at h; rw [h]; exact Nat.le_refl _
  | k + 1, s, x, h => by
    unfold Go.Lib.splitK at h
    split at h
    · simp at h; rw [h]; exact Nat.le_refl _
    · rcases List.mem_cons.1 h with rfl | h
      · simp; omega
      · have := splitK_mem sep k _ x h; simp at this; omega
theorem split_mem {s sep x : List UInt8} (h : x ∈ Go.Lib.split s sep) : x.length ≤ s.length := splitK_mem sep _ s x h
theorem split_at {s sep : List UInt8} {i : Nat} : ((Go.Lib.split s sep).getD i []).length ≤ s.length := by
  rw [List.getD_eq_getElem?_getD]
  cases h : (Go.Lib.split s sep)[i]? with
  | none => simp
  | some x => exact split_mem (List.mem_of_getElem? h)
def atoiV (s : List UInt8) : Int := match Go.Lib.atoiAll s with
  | .ok v => v
  | .range => Go.Lib.atoiSat s
  | _ => 0
def atoiOk (s : List UInt8) : Bool := match Go.Lib.atoiAll s with
  | .ok _ => true
  | _ => false
def firstNe (l : List Int) : Int := (l.find? (· != 0)).getD 0
theorem firstNe_hit {l : List Int} {i : Nat} (hi : i < l.length) (h : (l.take i).all (· == 0) = true) (hc : l.getD i 0 ≠ 0) : firstNe l = l.getD i 0 := by
  induction l generalizing i with
  | nil => simp at hi
  | cons a l ih =>
    unfold firstNe
    cases i with
    | zero => simp at hc; simp [hc]
    | succ i =>
      simp only [List.take_succ_cons, List.all_cons, Bool.and_eq_true, beq_iff_eq] at h
      simp only [h.1, List.find?_cons, bne_self_eq_false]
      exact ih (by simpa using hi) h.2 (by simpa using hc)
theorem firstNe_none {l : List Int} {i : Nat} (hi : l.length ≤ i) (h : (l.take i).all (· == 0) = true) : firstNe l = 0 := by
  rw [List.take_of_length_le hi] at h
  unfold firstNe
  rw [List.find?_eq_none.2]
  · rfl
  · intro x hx
    have := List.all_eq_true.1 h x hx
    simpa using this
theorem zip_at {α β : Type} {f : α → β → Int} {xs : List α} {ys : List β} {i : Nat} (d : α) (e : β) (h1 : i < xs.length) (h2 : i < ys.length) : (List.zipWith f xs ys).getD i 0 = f (xs.getD i d) (ys.getD i e) := by
  simp [List.getD, List.getElem?_zipWith, h1, h2]
theorem three {α : Type} {l : List α} (h : l.length = 3) : ∃ a b c, l = [a, b, c] := by
  match l, h with
  | [a, b, c], _ => exact ⟨a, b, c, rfl⟩
end Go.Proofs.YtcchfmilleffjaaGreatDoor
namespace Go.Proofs.YtcchfmilleffjaaGreatDoor
open Go Go.RowKit Go.Sort
structure Base (w : World) : Prop where
  max : ∃ m, w.cell? ⟨0, 0, none⟩ = some (.int .i64 m)
  pow : Lib.TabIs Tryz.prog w "internal/strconv.uint64pow10" .u64 Lib.pow10Tab
  esyn : ∃ t p, w.var? Tryz.prog "strconv.ErrSyntax" = some #[.iface t p]
  eran : ∃ t p, w.var? Tryz.prog "strconv.ErrRange" = some #[.iface t p]
  db : Lib.TabIs Tryz.prog w "math/bits.deBruijn64tab" .u8 (List.map (fun n : Nat => (n : Int)) Lib.deBruijn64tab)
theorem var_lt {P : Program} {w : World} {s : String} {g : Nat} {cs : Array Value} (hg : P.globalNamed s = some g) (hc : w.var? P s = some cs) : g < w.heap.size := by
  simp only [World.var?, hg, Option.bind_some] at hc
  apply Decidable.byContradiction; intro hn
  rw [Array.getElem?_eq_none (by omega)] at hc
  simp at hc
theorem var_stay {P : Program} {N : Nat} {w w' : World} {s : String} {g : Nat} {cs : Array Value} (h : Below N w w') (hg : P.globalNamed s = some g) (hN : g < N) (hc : w.var? P s = some cs) : w'.var? P s = some cs := by
  simp only [World.var?, hg, Option.bind_some] at hc ⊢
  rw [h.block g hN]; exact hc
theorem cell_lt {w : World} {b o : Nat} {v : Value} (hc : w.cell? ⟨b, o, none⟩ = some v) : b < w.heap.size := by
  apply Decidable.byContradiction; intro hn
  simp only [World.cell?] at hc
  rw [Array.getElem?_eq_none (by omega)] at hc
  simp at hc
theorem cell_stay {N : Nat} {w w' : World} {b o : Nat} {v : Value} (h : Below N w w') (hN : b < N) (hc : w.cell? ⟨b, o, none⟩ = some v) : w'.cell? ⟨b, o, none⟩ = some v := by
  rw [World.cell?_of_block (w := w) (h.block b hN)]; exact hc
def JN : Nat := Nat.max (0 + 1) (Nat.max (7 + 1) (Nat.max (5 + 1) (Nat.max (1 + 1) (2 + 1))))
def J : Inv where
  I := Base
  N := JN
  lt w h := by
    obtain ⟨m, hm⟩ := h.max
    obtain ⟨t, p, hs⟩ := h.esyn
    obtain ⟨t', p', hr⟩ := h.eran
    have h1 := cell_lt hm
    have h2 := var_lt (g := 5) (by kernel_rfl) h.pow
    have h3 := var_lt (g := 1) (by kernel_rfl) hs
    have h4 := var_lt (g := 2) (by kernel_rfl) hr
    have h5 := var_lt (g := 7) (by kernel_rfl) h.db
    exact Nat.max_le.2 ⟨h1, Nat.max_le.2 ⟨h5, Nat.max_le.2 ⟨h2, Nat.max_le.2 ⟨h3, h4⟩⟩⟩⟩
  st w w' h hb := ⟨h.max.imp fun m hm => cell_stay hb (by decide) hm, var_stay (g := 5) hb (by kernel_rfl) (by decide) h.pow,
    h.esyn.imp fun t ht => ht.imp fun p hp => var_stay (g := 1) hb (by kernel_rfl) (by decide) hp,
    h.eran.imp fun t ht => ht.imp fun p hp => var_stay (g := 2) hb (by kernel_rfl) (by decide) hp, var_stay (g := 7) hb (by kernel_rfl) (by decide) h.db⟩
theorem Below.bytesW (w : World) (e : TypeId) (s : ByteArray) : Below w.heap.size w (Lib.bytesWorld w e s) :=
  ⟨rfl, rfl, rfl, by rw [Lib.bytesWorld_size]; omega, fun j hj => Lib.bytesWorld_at_old w e s j hj⟩
theorem pc_Compare (a b : List UInt8) : PureCall Tryz.prog J 136 [.one (.d (.str a)), .one (.d (.str b))] (.one (.d (.int .i64 (Lib.compareBytes a b)))) :=
  PureCall.lib Tryz.func136 (by kernel_rfl) (by kernel_rfl) (xs := [.string ⟨a.toArray⟩, .string ⟨b.toArray⟩]) rfl fun w _ =>
    Calls.mono (Tryz.strings_Compare ⟨a.toArray⟩ ⟨b.toArray⟩ w) fun e w' ⟨he, hw⟩ => ⟨_, he, hw ▸ Below.refl _ _, RV.of_lit (by simp [D.lit])⟩
theorem pc_IndexByte (a : List UInt8) (c : Int) : PureCall Tryz.prog J 197 [.one (.d (.str a)), .one (.d (.int .u8 c))] (.one (.d (.int .i64 (Lib.indexByte a c.toNat.toUInt8)))) :=
  PureCall.lib Tryz.func197 (by kernel_rfl) (by kernel_rfl) (xs := [.string ⟨a.toArray⟩, .int .u8 c]) rfl fun w _ =>
    Calls.mono (Tryz.strings_IndexByte ⟨a.toArray⟩ c w) fun e w' ⟨he, hw⟩ => ⟨_, he, hw ▸ Below.refl _ _, RV.of_lit (by simp [D.lit])⟩
theorem pc_HasPrefix (a b : List UInt8) : PureCall Tryz.prog J 103 [.one (.d (.str a)), .one (.d (.str b))] (.one (.d (.bool (Lib.hasPrefix a b)))) :=
  PureCall.lib Tryz.func103 (by kernel_rfl) (by kernel_rfl) (xs := [.string ⟨a.toArray⟩, .string ⟨b.toArray⟩]) rfl fun w _ =>
    Calls.mono (Tryz.strings_HasPrefix ⟨a.toArray⟩ ⟨b.toArray⟩ w) fun e w' ⟨he, hw⟩ => ⟨_, he, hw ▸ Below.refl _ _, RV.of_lit (by simp [D.lit])⟩
theorem pc_CutPrefix (a b : List UInt8) : PureCall Tryz.prog J 128 [.one (.d (.str a)), .one (.d (.str b))] (.tup [.one (.d (.str (Lib.trimPrefix a b))), .one (.d (.bool (Lib.hasPrefix a b)))]) :=
  PureCall.lib Tryz.func128 (by kernel_rfl) (by kernel_rfl) (xs := [.string ⟨a.toArray⟩, .string ⟨b.toArray⟩]) rfl fun w _ =>
    Calls.mono (Tryz.strings_CutPrefix ⟨a.toArray⟩ ⟨b.toArray⟩ w) fun e w' ⟨he, hw⟩ => ⟨_, he, hw ▸ Below.refl _ _, RV.tup2 (RV.of_lit (by simp [D.lit])) (RV.of_lit (by simp [D.lit]))⟩
theorem pc_Contains (a b : List UInt8) (ha : a.length < 4294967281) : PureCall Tryz.prog J 101 [.one (.d (.str a)), .one (.d (.str b))] (.one (.d (.bool (Lib.contains a b)))) :=
  PureCall.lib Tryz.func101 (by kernel_rfl) (by kernel_rfl) (xs := [.string ⟨a.toArray⟩, .string ⟨b.toArray⟩]) rfl fun w hw =>
    hw.max.elim fun m hm => Calls.mono (Tryz.strings_Contains ⟨a.toArray⟩ ⟨b.toArray⟩ m w (by simpa [ByteArray.size] using ha) hm) fun e w' ⟨he, hw⟩ => ⟨_, he, hw ▸ Below.refl _ _, RV.of_lit (by simp [D.lit])⟩
theorem pc_Cut (a b : List UInt8) (ha : a.length < 4294967281) : PureCall Tryz.prog J 54 [.one (.d (.str a)), .one (.d (.str b))]
    (.tup [.one (.d (.str (Lib.cut a b).1)), .one (.d (.str (Lib.cut a b).2.1)), .one (.d (.bool (Lib.cut a b).2.2))]) :=
  PureCall.lib Tryz.func54 (by kernel_rfl) (by kernel_rfl) (xs := [.string ⟨a.toArray⟩, .string ⟨b.toArray⟩]) rfl fun w hw =>
    hw.max.elim fun m hm => Calls.mono (Tryz.strings_Cut ⟨a.toArray⟩ ⟨b.toArray⟩ m w (by simpa [ByteArray.size] using ha) hm) fun e w' ⟨he, n, hw⟩ => ⟨_, he, hw ▸ Below.drewN' _ _, RV.tup3 (RV.of_lit (by simp [D.lit])) (RV.of_lit (by simp [D.lit])) (RV.of_lit (by simp [D.lit]))⟩
theorem countB_eq (s sep : List UInt8) : Lib.countB ⟨s.toArray⟩ ⟨sep.toArray⟩ = Lib.count s sep := by simp [Lib.countB]
theorem pc_Split (a b : List UInt8) (ha : a.length < 4294967281) (hb : 1 ≤ b.length) : PureCall Tryz.prog J 96 [.one (.d (.str a)), .one (.d (.str b))]
    (.one (.d (.vec 1 ((Lib.split a b).map fun x => [.str x])))) :=
  PureCall.lib Tryz.func96 (by kernel_rfl) (by kernel_rfl) (xs := [.string ⟨a.toArray⟩, .string ⟨b.toArray⟩]) rfl fun w hw =>
    hw.max.elim fun m hm => Calls.mono (Tryz.strings_Split ⟨a.toArray⟩ ⟨b.toArray⟩ m w (by simpa [ByteArray.size] using ha) hm (by simpa [ByteArray.size] using hb)) fun e w' ⟨he, hw⟩ => by
      subst hw
      refine ⟨_, he, Below.alloc' _ _, ?_⟩
      have hl := Lib.splitB_all ⟨b.toArray⟩ (by simpa [ByteArray.size] using hb) 0 (Lib.countB ⟨a.toArray⟩ ⟨b.toArray⟩) ⟨a.toArray⟩ rfl
      have hd := Lib.splitB_data ⟨b.toArray⟩ 0 (Lib.countB ⟨a.toArray⟩ ⟨b.toArray⟩) ⟨a.toArray⟩
      have he : (Lib.split a b).map (fun x => [D.str x]) = (Lib.splitB ⟨b.toArray⟩ 0 (Lib.countB ⟨a.toArray⟩ ⟨b.toArray⟩) ⟨a.toArray⟩).map fun s => [D.str s.data.toList] := by
        have h2 : Lib.split a b = (Lib.splitB ⟨b.toArray⟩ 0 (Lib.countB ⟨a.toArray⟩ ⟨b.toArray⟩) ⟨a.toArray⟩).map (·.data.toList) := by
          rw [hd, countB_eq]; rfl
        rw [h2, List.map_map]; rfl
      rw [he]
      exact RV.texts _ (fun h => by rw [h] at hl; simp at hl) _ hl.symm
theorem pc_cmpInt (x y : Int) : PureCall Tryz.prog J 122 [.one (.d (.int .i64 x)), .one (.d (.int .i64 y))] (.one (.d (.int .i64 (Lib.compareInt x y)))) :=
  PureCall.lib Tryz.func122 (by kernel_rfl) (by kernel_rfl) (xs := [.int .i64 x, .int .i64 y]) rfl fun w _ =>
    Calls.mono (Tryz.cmp_Compare_int x y w) fun e w' ⟨he, hw⟩ => ⟨_, he, hw ▸ Below.refl _ _, RV.of_lit (by simp [D.lit])⟩
theorem pc_Atoi (s : List UInt8) (hs : s.length ≤ 281474976710656) : PureCall Tryz.prog J 135 [.one (.d (.str s))] (.tup [.one (.d (.int .i64 (atoiV s))), .one (.d (.err (atoiOk s)))]) :=
  PureCall.lib Tryz.func135 (by kernel_rfl) (by kernel_rfl) (xs := [.string ⟨s.toArray⟩]) rfl fun w hw => by
    have hsz : (⟨s.toArray⟩ : ByteArray).size ≤ 281474976710656 := by simpa [ByteArray.size] using hs
    cases h : Lib.atoiAll s with
    | ok v =>
      refine Calls.mono (Tryz.strconv_Atoi_ok ⟨s.toArray⟩ (by omega) v h w) fun e w' ⟨he, hw⟩ => ⟨_, he, ?_, ?_⟩
      · rcases hw with rfl | ⟨t, rfl⟩
        · exact Below.refl _ _
        · exact Below.bytesW _ _ _
      · rw [show atoiV s = v by simp [atoiV, h], show atoiOk s = true by simp [atoiOk, h]]
        exact RV.tup2 (RV.of_lit rfl) (.one _ _ (.d _ _ .errNil))
    | range =>
      obtain ⟨t, p, hv⟩ := hw.eran
      refine Calls.mono (Tryz.strconv_Atoi_range_var ⟨s.toArray⟩ hsz h t p w hv) fun e w' ⟨N, he, _, _, hB⟩ => ⟨_, he, hB, ?_⟩
      rw [show atoiV s = Lib.atoiSat s by simp [atoiV, h], show atoiOk s = false by simp [atoiOk, h]]
      exact RV.tup2 (RV.of_lit rfl) (.one _ _ (.d _ _ (.errSome _ _)))
    | _ =>
      obtain ⟨t, p, hv⟩ := hw.esyn
      refine Calls.mono (Tryz.strconv_Atoi_syntax_var ⟨s.toArray⟩ hsz h t p w hv) fun e w' ⟨N, he, _, _, hB⟩ => ⟨_, he, hB, ?_⟩
      rw [show atoiV s = 0 by simp [atoiV, h], show atoiOk s = false by simp [atoiOk, h]]
      exact RV.tup2 (RV.of_lit rfl) (.one _ _ (.d _ _ (.errSome _ _)))
end Go.Proofs.YtcchfmilleffjaaGreatDoor
namespace Go.Proofs.YtcchfmilleffjaaGreatDoor
def isDigit (c : Int) : Bool := decide (c ≥ 48) && decide (c ≤ 57)
def isSmall (c : Int) : Bool := decide (c ≥ 97) && decide (c ≤ 122)
def outsideB (n l h : Int) : Bool := decide (n < l) || decide (n > h)
def bI (c : UInt8) : Int := (c.toNat : Int)
def nameC (c : Int) : Bool := isSmall c || isDigit c || c == 45 || c == 46
def partC' (c : Int) : Bool := isSmall c || (decide (c ≥ 65) && decide (c ≤ 90)) || isDigit c || c == 45 || c == 46 || c == 95
def valueC (c : Int) : Bool := decide (c ≥ 32) && decide (c ≤ 126)
def earlyC (c : Int) : Bool := isSmall c || isDigit c
def eachB (φ : Int → Bool) (s : List UInt8) (m : Int) : Bool := s.all (fun c => φ (bI c)) && (!(s == []) && decide ((s.length : Int) ≤ m))
theorem eachB_pos {φ : Int → Bool} {s : List UInt8} {m : Int} (h : eachB φ s m = true) : (0 : Int) < (s.length : Int) := by
  unfold eachB at h
  cases s with
  | nil => simp at h
  | cons a l => simp only [List.length_cons]; omega
def nameB (s : List UInt8) : Bool := eachB nameC s 40 && isSmall (bI (s.getD 0 0))
def partB (s : List UInt8) : Bool := eachB partC' s 40 && !(s == [46]) && !(s == [46, 46])
def valueB (s : List UInt8) : Bool := s == [] || eachB valueC s 1000
def numeralB (s : List UInt8) : Bool := eachB isDigit s 10
def wordB (w : List UInt8) : Bool := eachB earlyC w 10 && !(numeralB w && bI (w.getD 0 0) == 48 && !(w == [48]))
theorem word_f {a b : Bool} (h : (!a || b) = true) : (a && !b) = false := by cases a <;> cases b <;> simp_all
theorem word_t {a b : Bool} (h : (!a || b) = false) : (a && !b) = true := by cases a <;> cases b <;> simp_all
def pathB (s : List UInt8) : Bool := (Go.Lib.split s [47]).all partB && decide ((s.length : Int) ≤ 200)
def earlyB (s : List UInt8) : Bool := (Go.Lib.split s [46]).all wordB && decide ((s.length : Int) ≤ 40)
def outsideN (n : Int) : Bool := outsideB n 0 999999
def checkB (a b c : Int) (e : List UInt8) : Int := if outsideN a || outsideN b || outsideN c then 3 else if !(e == []) && !earlyB e then 2 else 0
end Go.Proofs.YtcchfmilleffjaaGreatDoor
set_option maxRecDepth 100000
set_option maxHeartbeats 4000000
namespace Go.Proofs.YtcchfmilleffjaaGreatDoor
open Go
open Go.RowKit
theorem pc_ver_isDigit (c : Int) :
  PureCall Tryz.prog J 95 [.one (.d (.int .u8 c))] (.one (.d (.bool (isDigit c)))) := by
 refine PureCall.of_body tOk (fn := Tryz.f95) Tryz.func95 (by kernel_rfl) rfl (Nat.le_of_ble_eq_true rfl) (fun E => ?_)
 refine W.seq ?_
 refine W.region ?_
 refine S.pure tOk zOk rfl rfl rfl ?_
 refine thenK_n ?_
 refine W.seq ?_
 refine W.region ?_
 refine S.pure tOk zOk rfl rfl rfl ?_
 refine S.pure tOk zOk rfl rfl rfl ?_
 refine S.pure tOk zOk rfl rfl rfl ?_
 refine S.pureG tOk zOk rfl rfl tg (fun _ => rfl) rfl ?_
 refine S.pureG tOk zOk rfl rfl tg (fun _ => rfl) rfl ?_
 refine S.pickAnd tOk zOk rfl rfl tg ?_
 refine S.pure tOk zOk rfl rfl rfl ?_
 refine thenK_n ?_
 refine W.ret ?_
 exact ⟨_, rfl, rfl, LeV.refl _⟩
theorem pc_ver_isSmall (c : Int) :
  PureCall Tryz.prog J 94 [.one (.d (.int .u8 c))] (.one (.d (.bool (isSmall c)))) := by
 refine PureCall.of_body tOk (fn := Tryz.f94) Tryz.func94 (by kernel_rfl) rfl (Nat.le_of_ble_eq_true rfl) (fun E => ?_)
 refine W.seq ?_
 refine W.region ?_
 refine S.pure tOk zOk rfl rfl rfl ?_
 refine thenK_n ?_
 refine W.seq ?_
 refine W.region ?_
 refine S.pure tOk zOk rfl rfl rfl ?_
 refine S.pure tOk zOk rfl rfl rfl ?_
 refine S.pure tOk zOk rfl rfl rfl ?_
 refine S.pureG tOk zOk rfl rfl tg (fun _ => rfl) rfl ?_
 refine S.pureG tOk zOk rfl rfl tg (fun _ => rfl) rfl ?_
 refine S.pickAnd tOk zOk rfl rfl tg ?_
 refine S.pure tOk zOk rfl rfl rfl ?_
 refine thenK_n ?_
 refine W.ret ?_
 exact ⟨_, rfl, rfl, LeV.refl _⟩
theorem pc_ver_outside (n l h : Int) :
  PureCall Tryz.prog J 119 [.one (.d (.int .i64 n)), .one (.d (.int .i64 l)), .one (.d (.int .i64 h))] (.one (.d (.bool (outsideB n l h)))) := by
 refine PureCall.of_body tOk (fn := Tryz.f119) Tryz.func119 (by kernel_rfl) rfl (Nat.le_of_ble_eq_true rfl) (fun E => ?_)
 refine W.seq ?_
 refine W.region ?_
 refine S.pure tOk zOk rfl rfl rfl ?_
 refine thenK_n ?_
 refine W.seq ?_
 refine W.region ?_
 refine S.pure tOk zOk rfl rfl rfl ?_
 refine S.pure tOk zOk rfl rfl rfl ?_
 refine S.pure tOk zOk rfl rfl rfl ?_
 refine S.pure tOk zOk rfl rfl rfl ?_
 refine S.pureG tOk zOk rfl rfl tg (fun _ => rfl) rfl ?_
 refine S.pureG tOk zOk rfl rfl tg (fun _ => rfl) rfl ?_
 refine S.pureG tOk zOk rfl rfl tg (fun _ => rfl) rfl ?_
 refine S.pickOr tOk zOk rfl rfl tg ?_
 refine S.pure tOk zOk rfl rfl rfl ?_
 refine thenK_n ?_
 refine W.ret ?_
 exact ⟨_, rfl, rfl, LeV.refl _⟩
theorem pc_ver_each (φ : Int → Bool) (s : List UInt8) (m : Int) (f : FuncId) (hs : s.length ≤ 4611686018427387904) (hφ : ∀ c, PureCall Tryz.prog J f [.one (.d (.int .u8 c))] (.one (.d (.bool (φ c))))) :
  PureCall Tryz.prog J 92 [.one (.d (.str s)), .one (.d (.int .i64 m)), .one (.d (.fn f))] (.one (.d (.bool (eachB φ s m)))) := by
 refine PureCall.of_body tOk (fn := Tryz.f92) Tryz.func92 (by kernel_rfl) rfl (Nat.le_of_ble_eq_true rfl) (fun E => ?_)
 refine W.seq ?_
 refine W.region ?_
 refine S.pure tOk zOk rfl rfl rfl ?_
 refine thenK_n ?_
 refine W.seq ?_
 refine W.seq ?_
 refine W.region ?_
 refine S.pure tOk zOk rfl rfl rfl ?_
 refine thenK_n ?_
 refine W.block ?_
 refine W.loop (fun k st => ∃ i : Nat, i ≤ s.length ∧ (s.take i).all (fun c => φ (bI c)) = true ∧ k = s.length - i ∧ ∃ t b2 r2 m2, st = ⟨t, [] ++ b2, [] ++ r2, [] ++ m2⟩ ∧ holdsL t [(0, .one (.d (.str s))), (1, .one (.d (.int .i64 m))), (2, .one (.d (.fn f))), (7, .one (.d (.int .i64 (i : Int))))]) (s.length) ⟨0, Nat.zero_le _, by simp, rfl, _, _, _, _, rfl, rfl, rfl, rfl, rfl, trivial⟩ ?_
 rintro k0 _ ⟨i, f0_0, f0_1, rfl, t0, bb0, rr0, mm0, rfl, hh0⟩
 refine W.keepR _ _ _ _ _ _ _ hh0 rfl ?_
 refine W.seq ?_
 refine W.seq ?_
 refine W.region ?_
 refine S.pure tOk zOk rfl rfl rfl ?_
 refine S.pure tOk zOk rfl rfl rfl ?_
 refine S.pure tOk zOk rfl rfl rfl ?_
 refine S.pure tOk zOk rfl rfl rfl ?_
 refine thenK_n ?_
 refine W.cond rfl (fun c1 => ?_) (fun c1 => ?_)
 ·skip
  have hi : i < s.length := by simpa using c1
  refine W.skip ?_
  refine thenK_n ?_
  refine W.seq ?_
  refine W.block ?_
  refine W.seq ?_
  refine W.region ?_
  refine S.pure tOk zOk rfl rfl rfl ?_
  refine S.pure tOk zOk rfl rfl rfl ?_
  refine S.pure tOk zOk rfl rfl rfl ?_
  refine S.pure tOk zOk rfl (str_ok hi) rfl ?_
  refine S.call rfl rfl rfl rfl rfl (hφ _) ?_
  refine S.pure tOk zOk rfl rfl rfl ?_
  refine thenK_n ?_
  refine W.cond rfl (fun c2 => ?_) (fun c2 => ?_)
  ·skip
   refine W.seq ?_
   refine W.region ?_
   refine S.pure tOk zOk rfl rfl rfl ?_
   refine thenK_n ?_
   refine W.ret ?_
   refine blockK_r ?_
   refine thenK_r ?_
   refine thenK_r ?_
   refine blockK_r ?_
   refine thenK_r ?_
   exact ⟨_, rfl, rfl, LeV.of_eq (by rw [eachB, all_false_of (d := 0) (φ := fun c => φ (bI c)) hi (by simpa [bI] using c2)]; rfl)⟩
  ·skip
   refine W.skip ?_
   refine blockK_n ?_
   refine thenK_n ?_
   refine W.region ?_
   refine S.pure tOk zOk rfl rfl rfl ?_
   refine S.pure tOk zOk rfl rfl rfl ?_
   refine S.pure tOk zOk rfl rfl rfl ?_
   refine loop_n (s.length - (i + 1)) (by omega) ⟨i + 1, by omega, all_take_succ (d := 0) (φ := fun c => φ (bI c)) hi f0_1 (by simpa [bI] using c2), rfl, _, _, _, _, rfl, rfl, rfl, rfl, inc_i64 (by omega), trivial⟩
 ·skip
  have hi : s.length ≤ i := by simpa using c1
  refine W.exit ?_
  refine thenK_e ?_
  refine thenK_e ?_
  refine blockK_x ?_
  refine thenK_n ?_
  refine W.seq ?_
  refine W.region ?_
  refine S.pure tOk zOk rfl rfl rfl ?_
  refine S.pure tOk zOk rfl rfl rfl ?_
  refine S.pure tOk zOk rfl rfl rfl ?_
  refine S.pureG tOk zOk rfl rfl tg (fun _ => rfl) rfl ?_
  refine S.pureG tOk zOk rfl rfl tg (fun _ => rfl) rfl ?_
  refine S.pureG tOk zOk rfl rfl tg (fun _ => rfl) rfl ?_
  refine S.pureG tOk zOk rfl rfl tg (fun _ => rfl) rfl ?_
  refine S.pickAnd tOk zOk rfl rfl tg ?_
  refine S.pure tOk zOk rfl rfl rfl ?_
  refine thenK_n ?_
  refine W.ret ?_
  exact ⟨_, rfl, rfl, LeV.of_eq (by rw [eachB, all_of_take hi f0_1]; rfl)⟩
theorem pc_ver_IsName_1 (c : Int) :
  PureCall Tryz.prog J 93 [.one (.d (.int .u8 c))] (.one (.d (.bool (nameC c)))) := by
 refine PureCall.of_body tOk (fn := Tryz.f93) Tryz.func93 (by kernel_rfl) rfl (Nat.le_of_ble_eq_true rfl) (fun E => ?_)
 refine W.seq ?_
 refine W.region ?_
 refine S.pure tOk zOk rfl rfl rfl ?_
 refine thenK_n ?_
 refine W.seq ?_
 refine W.region ?_
 refine S.pure tOk zOk rfl rfl rfl ?_
 refine S.call rfl rfl rfl rfl rfl (pc_ver_isSmall _) ?_
 refine S.pure tOk zOk rfl rfl rfl ?_
 refine S.pureG tOk zOk rfl rfl tg (fun _ => rfl) rfl ?_
 refine S.callG rfl rfl rfl rfl tg rfl rfl (fun _ => pc_ver_isDigit _) ?_
 refine S.pickOr tOk zOk rfl rfl tg ?_
 refine S.pure tOk zOk rfl rfl rfl ?_
 refine S.pureG tOk zOk rfl rfl tg (fun _ => rfl) rfl ?_
 refine S.pureG tOk zOk rfl rfl tg (fun _ => rfl) rfl ?_
 refine S.pickOr tOk zOk rfl rfl tg ?_
 refine S.pure tOk zOk rfl rfl rfl ?_
 refine S.pureG tOk zOk rfl rfl tg (fun _ => rfl) rfl ?_
 refine S.pureG tOk zOk rfl rfl tg (fun _ => rfl) rfl ?_
 refine S.pickOr tOk zOk rfl rfl tg ?_
 refine S.pure tOk zOk rfl rfl rfl ?_
 refine thenK_n ?_
 refine W.ret ?_
 exact ⟨_, rfl, rfl, LeV.refl _⟩
theorem pc_ver_IsName (s : List UInt8) (hs : s.length ≤ 4611686018427387904) :
  PureCall Tryz.prog J 39 [.one (.d (.str s))] (.one (.d (.bool (nameB s)))) := by
 refine PureCall.of_body tOk (fn := Tryz.f39) Tryz.func39 (by kernel_rfl) rfl (Nat.le_of_ble_eq_true rfl) (fun E => ?_)
 refine W.seq ?_
 refine W.region ?_
 refine S.pure tOk zOk rfl rfl rfl ?_
 refine thenK_n ?_
 refine W.seq ?_
 refine W.region ?_
 refine S.pure tOk zOk rfl rfl rfl ?_
 refine S.call rfl rfl rfl rfl rfl (pc_ver_each _ _ _ _ (hs) (fun c => pc_ver_IsName_1 c)) ?_
 refine S.pure tOk zOk rfl rfl rfl ?_
 refine S.pureG tOk zOk rfl rfl tg (fun _ => rfl) rfl ?_
 refine S.pureG tOk zOk rfl rfl tg (fun h => idx_ok (Int.le_refl _) (eachB_pos h)) rfl ?_
 refine S.callG rfl rfl rfl rfl tg rfl rfl (fun _ => pc_ver_isSmall _) ?_
 refine S.pickAnd tOk zOk rfl rfl tg ?_
 refine S.pure tOk zOk rfl rfl rfl ?_
 refine thenK_n ?_
 refine W.ret ?_
 exact ⟨_, rfl, rfl, LeV.refl _⟩
theorem pc_ver_isPart_1 (c : Int) :
  PureCall Tryz.prog J 143 [.one (.d (.int .u8 c))] (.one (.d (.bool (partC' c)))) := by
 refine PureCall.of_body tOk (fn := Tryz.f143) Tryz.func143 (by kernel_rfl) rfl (Nat.le_of_ble_eq_true rfl) (fun E => ?_)
 refine W.seq ?_
 refine W.region ?_
 refine S.pure tOk zOk rfl rfl rfl ?_
 refine thenK_n ?_
 refine W.seq ?_
 refine W.region ?_
 refine S.pure tOk zOk rfl rfl rfl ?_
 refine S.call rfl rfl rfl rfl rfl (pc_ver_isSmall _) ?_
 refine S.pure tOk zOk rfl rfl rfl ?_
 refine S.pureG tOk zOk rfl rfl tg (fun _ => rfl) rfl ?_
 refine S.pureG tOk zOk rfl rfl tg (fun _ => rfl) rfl ?_
 refine S.pureG tOk zOk rfl rfl tg (fun _ => rfl) rfl ?_
 refine S.pureG tOk zOk rfl rfl tg (fun _ => rfl) rfl ?_
 refine S.pureG tOk zOk rfl rfl tg (fun _ => rfl) rfl ?_
 refine S.pickAndG tOk zOk rfl rfl rfl tg tg ?_
 refine S.pickOr tOk zOk rfl rfl tg ?_
 refine S.pure tOk zOk rfl rfl rfl ?_
 refine S.pureG tOk zOk rfl rfl tg (fun _ => rfl) rfl ?_
 refine S.callG rfl rfl rfl rfl tg rfl rfl (fun _ => pc_ver_isDigit _) ?_
 refine S.pickOr tOk zOk rfl rfl tg ?_
 refine S.pure tOk zOk rfl rfl rfl ?_
 refine S.pureG tOk zOk rfl rfl tg (fun _ => rfl) rfl ?_
 refine S.pureG tOk zOk rfl rfl tg (fun _ => rfl) rfl ?_
 refine S.pickOr tOk zOk rfl rfl tg ?_
 refine S.pure tOk zOk rfl rfl rfl ?_
 refine S.pureG tOk zOk rfl rfl tg (fun _ => rfl) rfl ?_
 refine S.pureG tOk zOk rfl rfl tg (fun _ => rfl) rfl ?_
 refine S.pickOr tOk zOk rfl rfl tg ?_
 refine S.pure tOk zOk rfl rfl rfl ?_
 refine S.pureG tOk zOk rfl rfl tg (fun _ => rfl) rfl ?_
 refine S.pureG tOk zOk rfl rfl tg (fun _ => rfl) rfl ?_
 refine S.pickOr tOk zOk rfl rfl tg ?_
 refine S.pure tOk zOk rfl rfl rfl ?_
 refine thenK_n ?_
 refine W.ret ?_
 exact ⟨_, rfl, rfl, LeV.refl _⟩
theorem pc_ver_isPart (s : List UInt8) (hs : s.length < 4294967281) :
  PureCall Tryz.prog J 97 [.one (.d (.str s))] (.one (.d (.bool (partB s)))) := by
 refine PureCall.of_body tOk (fn := Tryz.f97) Tryz.func97 (by kernel_rfl) rfl (Nat.le_of_ble_eq_true rfl) (fun E => ?_)
 refine W.seq ?_
 refine W.region ?_
 refine S.pure tOk zOk rfl rfl rfl ?_
 refine thenK_n ?_
 refine W.seq ?_
 refine W.region ?_
 refine S.pure tOk zOk rfl rfl rfl ?_
 refine thenK_n ?_
 refine W.seq ?_
 refine W.region ?_
 refine S.pure tOk zOk rfl rfl rfl ?_
 refine S.pure tOk zOk rfl rfl rfl ?_
 refine S.call rfl rfl rfl rfl rfl (pc_ver_each _ _ _ _ (by omega) (fun c => pc_ver_isPart_1 c)) ?_
 refine S.pure tOk zOk rfl rfl rfl ?_
 refine S.pureG tOk zOk rfl rfl tg (fun _ => rfl) rfl ?_
 refine S.pureG tOk zOk rfl rfl tg (fun _ => rfl) rfl ?_
 refine S.pickAnd tOk zOk rfl rfl tg ?_
 refine S.pure tOk zOk rfl rfl rfl ?_
 refine S.pureG tOk zOk rfl rfl tg (fun _ => rfl) rfl ?_
 refine S.pureG tOk zOk rfl rfl tg (fun _ => rfl) rfl ?_
 refine S.pickAnd tOk zOk rfl rfl tg ?_
 refine S.pure tOk zOk rfl rfl rfl ?_
 refine thenK_n ?_
 refine W.ret ?_
 exact ⟨_, rfl, rfl, LeV.refl _⟩
theorem pc_ver_IsPath (s : List UInt8) (hs : s.length < 4294967281) :
  PureCall Tryz.prog J 45 [.one (.d (.str s))] (.one (.d (.bool (pathB s)))) := by
 have hl := split_le s [47]
 have hm := fun i => @split_at s [47] i
 refine PureCall.of_body tOk (fn := Tryz.f45) Tryz.func45 (by kernel_rfl) rfl (Nat.le_of_ble_eq_true rfl) (fun E => ?_)
 refine W.seq ?_
 refine W.region ?_
 refine S.pure tOk zOk rfl rfl rfl ?_
 refine thenK_n ?_
 refine W.seq ?_
 refine W.seq ?_
 refine W.region ?_
 refine S.pure tOk zOk rfl rfl rfl ?_
 refine S.call rfl rfl rfl rfl rfl (pc_Split _ _ hs (by decide)) ?_
 refine S.pure tOk zOk rfl rfl rfl ?_
 refine S.pure tOk zOk rfl rfl rfl ?_
 refine thenK_n ?_
 refine W.block ?_
 refine W.loop (fun k st => ∃ i : Nat, i ≤ (Lib.split s [47]).length ∧ ((Lib.split s [47]).take i).all partB = true ∧ k = (Lib.split s [47]).length - i ∧ ∃ t b2 r2 m2, st = ⟨t, [] ++ b2, [] ++ r2, [] ++ m2⟩ ∧ holdsL t [(0, .one (.d (.str s))), (6, .one (.d (.vec 1 ((Lib.split s [47]).map fun x => [.str x])))), (7, .one (.d (.int .i64 (((Lib.split s [47]).map fun x => ([.str x] : List D)).length : Int)))), (8, .one (.d (.int .i64 (i : Int))))]) ((Lib.split s [47]).length) ⟨0, Nat.zero_le _, by simp, rfl, _, _, _, _, rfl, rfl, rfl, rfl, rfl, trivial⟩ ?_
 rintro k0 _ ⟨i, f0_0, f0_1, rfl, t0, bb0, rr0, mm0, rfl, hh0⟩
 refine W.keepR _ _ _ _ _ _ _ hh0 rfl ?_
 refine W.seq ?_
 refine W.region ?_
 refine S.pure tOk zOk rfl rfl rfl ?_
 refine thenK_n ?_
 refine W.seq ?_
 refine W.cond rfl (fun c1 => ?_) (fun c1 => ?_)
 ·skip
  have hi := row_lt c1
  refine W.skip ?_
  refine thenK_n ?_
  refine W.seq ?_
  refine W.block ?_
  refine W.seq ?_
  refine W.region ?_
  refine S.pureE tOk zOk rfl (row_ok hi) (row_at [] hi) rfl ?_
  refine S.pure tOk zOk rfl rfl rfl ?_
  refine S.pure tOk zOk rfl rfl rfl ?_
  refine thenK_n ?_
  refine W.seq ?_
  refine W.region ?_
  refine S.pure tOk zOk rfl rfl rfl ?_
  refine S.call rfl rfl rfl rfl rfl (pc_ver_isPart _ (by have := hm i; omega)) ?_
  refine S.pure tOk zOk rfl rfl rfl ?_
  refine thenK_n ?_
  refine W.cond rfl (fun c2 => ?_) (fun c2 => ?_)
  ·skip
   refine W.seq ?_
   refine W.region ?_
   refine S.pure tOk zOk rfl rfl rfl ?_
   refine thenK_n ?_
   refine W.ret ?_
   refine blockK_r ?_
   refine thenK_r ?_
   refine thenK_r ?_
   refine blockK_r ?_
   refine thenK_r ?_
   exact ⟨_, rfl, rfl, LeV.of_eq (by rw [pathB, all_false_of (d := []) hi (by simpa using c2)]; rfl)⟩
  ·skip
   refine W.skip ?_
   refine blockK_n ?_
   refine thenK_n ?_
   refine W.region ?_
   refine S.pure tOk zOk rfl rfl rfl ?_
   refine S.pure tOk zOk rfl rfl rfl ?_
   refine loop_n ((Lib.split s [47]).length - (i + 1)) (by omega) ⟨i + 1, hi, all_take_succ (d := []) hi f0_1 (by simpa using c2), rfl, _, _, _, _, rfl, rfl, rfl, rfl, inc_i64 (by omega), trivial⟩
 ·skip
  have hi := row_ge c1
  refine W.exit ?_
  refine thenK_e ?_
  refine thenK_e ?_
  refine blockK_x ?_
  refine thenK_n ?_
  refine W.seq ?_
  refine W.region ?_
  refine S.pure tOk zOk rfl rfl rfl ?_
  refine S.pure tOk zOk rfl rfl rfl ?_
  refine S.pure tOk zOk rfl rfl rfl ?_
  refine S.pure tOk zOk rfl rfl rfl ?_
  refine thenK_n ?_
  refine W.ret ?_
  exact ⟨_, rfl, rfl, LeV.of_eq (by rw [pathB, all_of_take hi f0_1]; rfl)⟩
theorem pc_ver_IsValue_1 (c : Int) :
  PureCall Tryz.prog J 141 [.one (.d (.int .u8 c))] (.one (.d (.bool (valueC c)))) := by
 refine PureCall.of_body tOk (fn := Tryz.f141) Tryz.func141 (by kernel_rfl) rfl (Nat.le_of_ble_eq_true rfl) (fun E => ?_)
 refine W.seq ?_
 refine W.region ?_
 refine S.pure tOk zOk rfl rfl rfl ?_
 refine thenK_n ?_
 refine W.seq ?_
 refine W.region ?_
 refine S.pure tOk zOk rfl rfl rfl ?_
 refine S.pure tOk zOk rfl rfl rfl ?_
 refine S.pure tOk zOk rfl rfl rfl ?_
 refine S.pureG tOk zOk rfl rfl tg (fun _ => rfl) rfl ?_
 refine S.pureG tOk zOk rfl rfl tg (fun _ => rfl) rfl ?_
 refine S.pickAnd tOk zOk rfl rfl tg ?_
 refine S.pure tOk zOk rfl rfl rfl ?_
 refine thenK_n ?_
 refine W.ret ?_
 exact ⟨_, rfl, rfl, LeV.refl _⟩
theorem pc_ver_IsValue (s : List UInt8) (hs : s.length < 4294967281) :
  PureCall Tryz.prog J 91 [.one (.d (.str s))] (.one (.d (.bool (valueB s)))) := by
 refine PureCall.of_body tOk (fn := Tryz.f91) Tryz.func91 (by kernel_rfl) rfl (Nat.le_of_ble_eq_true rfl) (fun E => ?_)
 refine W.seq ?_
 refine W.region ?_
 refine S.pure tOk zOk rfl rfl rfl ?_
 refine thenK_n ?_
 refine W.seq ?_
 refine W.region ?_
 refine S.pure tOk zOk rfl rfl rfl ?_
 refine S.pure tOk zOk rfl rfl rfl ?_
 refine S.pure tOk zOk rfl rfl rfl ?_
 refine S.pureG tOk zOk rfl rfl tg (fun _ => rfl) rfl ?_
 refine S.callG rfl rfl rfl rfl tg rfl rfl (fun _ => pc_ver_each _ _ _ _ (by omega) (fun c => pc_ver_IsValue_1 c)) ?_
 refine S.pickOr tOk zOk rfl rfl tg ?_
 refine S.pure tOk zOk rfl rfl rfl ?_
 refine thenK_n ?_
 refine W.ret ?_
 exact ⟨_, rfl, rfl, LeV.refl _⟩
theorem pc_ver_isNumeral (s : List UInt8) (hs : s.length < 4294967281) :
  PureCall Tryz.prog J 170 [.one (.d (.str s))] (.one (.d (.bool (numeralB s)))) := by
 refine PureCall.of_body tOk (fn := Tryz.f170) Tryz.func170 (by kernel_rfl) rfl (Nat.le_of_ble_eq_true rfl) (fun E => ?_)
 refine W.seq ?_
 refine W.region ?_
 refine S.pure tOk zOk rfl rfl rfl ?_
 refine thenK_n ?_
 refine W.seq ?_
 refine W.region ?_
 refine S.pure tOk zOk rfl rfl rfl ?_
 refine S.call rfl rfl rfl rfl rfl (pc_ver_each _ _ _ _ (by omega) (fun c => pc_ver_isDigit c)) ?_
 refine S.pure tOk zOk rfl rfl rfl ?_
 refine thenK_n ?_
 refine W.ret ?_
 exact ⟨_, rfl, rfl, LeV.refl _⟩
theorem pc_ver_isEarly_1 (c : Int) :
  PureCall Tryz.prog J 169 [.one (.d (.int .u8 c))] (.one (.d (.bool (earlyC c)))) := by
 refine PureCall.of_body tOk (fn := Tryz.f169) Tryz.func169 (by kernel_rfl) rfl (Nat.le_of_ble_eq_true rfl) (fun E => ?_)
 refine W.seq ?_
 refine W.region ?_
 refine S.pure tOk zOk rfl rfl rfl ?_
 refine thenK_n ?_
 refine W.seq ?_
 refine W.region ?_
 refine S.pure tOk zOk rfl rfl rfl ?_
 refine S.call rfl rfl rfl rfl rfl (pc_ver_isSmall _) ?_
 refine S.pure tOk zOk rfl rfl rfl ?_
 refine S.pureG tOk zOk rfl rfl tg (fun _ => rfl) rfl ?_
 refine S.callG rfl rfl rfl rfl tg rfl rfl (fun _ => pc_ver_isDigit _) ?_
 refine S.pickOr tOk zOk rfl rfl tg ?_
 refine S.pure tOk zOk rfl rfl rfl ?_
 refine thenK_n ?_
 refine W.ret ?_
 exact ⟨_, rfl, rfl, LeV.refl _⟩
theorem pc_ver_isEarly (s : List UInt8) (hs : s.length < 4294967281) :
  PureCall Tryz.prog J 120 [.one (.d (.str s))] (.one (.d (.bool (earlyB s)))) := by
 have hl := split_le s [46]
 have hm := fun i => @split_at s [46] i
 refine PureCall.of_body tOk (fn := Tryz.f120) Tryz.func120 (by kernel_rfl) rfl (Nat.le_of_ble_eq_true rfl) (fun E => ?_)
 refine W.seq ?_
 refine W.region ?_
 refine S.pure tOk zOk rfl rfl rfl ?_
 refine thenK_n ?_
 refine W.seq ?_
 refine W.seq ?_
 refine W.region ?_
 refine S.pure tOk zOk rfl rfl rfl ?_
 refine S.call rfl rfl rfl rfl rfl (pc_Split _ _ hs (by decide)) ?_
 refine S.pure tOk zOk rfl rfl rfl ?_
 refine S.pure tOk zOk rfl rfl rfl ?_
 refine thenK_n ?_
 refine W.block ?_
 refine W.loop (fun k st => ∃ i : Nat, i ≤ (Lib.split s [46]).length ∧ ((Lib.split s [46]).take i).all wordB = true ∧ k = (Lib.split s [46]).length - i ∧ ∃ t b2 r2 m2, st = ⟨t, [] ++ b2, [] ++ r2, [] ++ m2⟩ ∧ holdsL t [(0, .one (.d (.str s))), (6, .one (.d (.vec 1 ((Lib.split s [46]).map fun x => [.str x])))), (7, .one (.d (.int .i64 (((Lib.split s [46]).map fun x => ([.str x] : List D)).length : Int)))), (8, .one (.d (.int .i64 (i : Int))))]) ((Lib.split s [46]).length) ⟨0, Nat.zero_le _, by simp, rfl, _, _, _, _, rfl, rfl, rfl, rfl, rfl, trivial⟩ ?_
 rintro k0 _ ⟨i, f0_0, f0_1, rfl, t0, bb0, rr0, mm0, rfl, hh0⟩
 refine W.keepR _ _ _ _ _ _ _ hh0 rfl ?_
 refine W.seq ?_
 refine W.region ?_
 refine S.pure tOk zOk rfl rfl rfl ?_
 refine thenK_n ?_
 refine W.seq ?_
 refine W.cond rfl (fun c1 => ?_) (fun c1 => ?_)
 ·skip
  have hi := row_lt c1
  refine W.skip ?_
  refine thenK_n ?_
  refine W.seq ?_
  refine W.block ?_
  refine W.seq ?_
  refine W.region ?_
  refine S.pureE tOk zOk rfl (row_ok hi) (row_at [] hi) rfl ?_
  refine S.pure tOk zOk rfl rfl rfl ?_
  refine S.pure tOk zOk rfl rfl rfl ?_
  refine thenK_n ?_
  refine W.seq ?_
  refine W.region ?_
  refine S.pure tOk zOk rfl rfl rfl ?_
  refine S.call rfl rfl rfl rfl rfl (pc_ver_each _ _ _ _ (by have := hm i; omega) (fun c => pc_ver_isEarly_1 c)) ?_
  refine S.pure tOk zOk rfl rfl rfl ?_
  refine S.pure tOk zOk rfl rfl rfl ?_
  refine S.pureG tOk zOk rfl rfl tg (fun _ => rfl) rfl ?_
  refine S.callG rfl rfl rfl rfl tg rfl rfl (fun _ => pc_ver_isNumeral _ (by have := hm i; omega)) ?_
  refine S.pureG tOk zOk rfl rfl tg (fun _ => rfl) rfl ?_
  refine S.pureG tOk zOk rfl rfl tg (fun _ => rfl) rfl ?_
  refine S.pureG tOk zOk rfl rfl tg (fun h => idx_ok (Int.le_refl _) (eachB_pos (andr h))) rfl ?_
  refine S.pureG tOk zOk rfl rfl tg (fun _ => rfl) rfl ?_
  refine S.pickAndG tOk zOk rfl rfl rfl tg tg ?_
  refine S.pureG tOk zOk rfl rfl tg (fun _ => rfl) rfl ?_
  refine S.pureG tOk zOk rfl rfl tg (fun _ => rfl) rfl ?_
  refine S.pureG tOk zOk rfl rfl tg (fun _ => rfl) rfl ?_
  refine S.pickAndG tOk zOk rfl rfl rfl tg tg ?_
  refine S.pickOr tOk zOk rfl rfl tg ?_
  refine thenK_n ?_
  refine W.cond rfl (fun c2 => ?_) (fun c2 => ?_)
  ·skip
   refine W.seq ?_
   refine W.region ?_
   refine S.pure tOk zOk rfl rfl rfl ?_
   refine thenK_n ?_
   refine W.ret ?_
   refine blockK_r ?_
   refine thenK_r ?_
   refine thenK_r ?_
   refine blockK_r ?_
   refine thenK_r ?_
   exact ⟨_, rfl, rfl, LeV.of_eq (by rw [earlyB, all_false_of (d := []) hi (word_f c2)]; rfl)⟩
  ·skip
   refine W.skip ?_
   refine blockK_n ?_
   refine thenK_n ?_
   refine W.region ?_
   refine S.pure tOk zOk rfl rfl rfl ?_
   refine S.pure tOk zOk rfl rfl rfl ?_
   refine loop_n ((Lib.split s [46]).length - (i + 1)) (by omega) ⟨i + 1, hi, all_take_succ (d := []) hi f0_1 (word_t c2), rfl, _, _, _, _, rfl, rfl, rfl, rfl, inc_i64 (by omega), trivial⟩
 ·skip
  have hi := row_ge c1
  refine W.exit ?_
  refine thenK_e ?_
  refine thenK_e ?_
  refine blockK_x ?_
  refine thenK_n ?_
  refine W.seq ?_
  refine W.region ?_
  refine S.pure tOk zOk rfl rfl rfl ?_
  refine S.pure tOk zOk rfl rfl rfl ?_
  refine S.pure tOk zOk rfl rfl rfl ?_
  refine S.pure tOk zOk rfl rfl rfl ?_
  refine thenK_n ?_
  refine W.ret ?_
  exact ⟨_, rfl, rfl, LeV.of_eq (by rw [earlyB, all_of_take hi f0_1]; rfl)⟩
end Go.Proofs.YtcchfmilleffjaaGreatDoor
namespace Go.Proofs.YtcchfmilleffjaaGreatDoor
open Go
structure Ver where
  a : Int
  b : Int
  c : Int
  e : List UInt8
  deriving DecidableEq
def Ver.z : Ver := ⟨0, 0, 0, []⟩
def Ver.check (v : Ver) : Int := checkB v.a v.b v.c v.e
def VerOk (v : Ver) : Prop := -9223372036854775808 ≤ v.a ∧ v.a ≤ 9223372036854775807 ∧ -9223372036854775808 ≤ v.b ∧ v.b ≤ 9223372036854775807 ∧ -9223372036854775808 ≤ v.c ∧ v.c ≤ 9223372036854775807
def w1 (x : Int) : Int := IntKind.i64.wrap (x + 1)
def numB (s : List UInt8) : Int × Bool := if !eachB isDigit s 9 || (bI (s.getD 0 0) == 48 && !(s == [48])) then (0, false) else (atoiV s, atoiOk s)
def threeB (e p q r : List UInt8) : Ver × Int :=
  if !(numB p).2 then (Ver.z, 8) else if !(numB q).2 then (Ver.z, 8) else if !(numB r).2 then (Ver.z, 8) else
  if checkB (numB p).1 (numB q).1 (numB r).1 e != 0 then (Ver.z, checkB (numB p).1 (numB q).1 (numB r).1 e) else (⟨(numB p).1, (numB q).1, (numB r).1, e⟩, 0)
def parseW (e : List UInt8) (is : Bool) (ws : List (List UInt8)) : Ver × Int :=
  if !((ws.length : Int) == 3) || (is && e == []) then (Ver.z, 8) else match ws with
    | [p, q, r] => threeB e p q r
    | _ => (Ver.z, 8)
theorem parse_ok {e : List UInt8} {is : Bool} {p q r : List UInt8} (h : (!(([p, q, r].length : Int) == 3) || (is && e == [])) = false) : parseW e is [p, q, r] = threeB e p q r := if_neg (Bool.eq_false_iff.1 h)
def parseB (s : List UInt8) : Ver × Int := parseW (Lib.cut s [45]).2.1 (Lib.cut s [45]).2.2 (Lib.split (Lib.cut s [45]).1 [46])
def cwB (a b : List UInt8) : Int :=
  if numeralB a && numeralB b then (if !((a.length : Int) == (b.length : Int)) then Lib.compareInt a.length b.length else Lib.compareBytes a b)
  else if numeralB a then -1 else if numeralB b then 1 else Lib.compareBytes a b
def rowsB (xs ys : List (List UInt8)) : Int := if firstNe (List.zipWith cwB xs ys) != 0 then firstNe (List.zipWith cwB xs ys) else Lib.compareInt xs.length ys.length
def ceB (a b : List UInt8) : Int := if a == b then 0 else if a == [] then 1 else if b == [] then -1 else rowsB (Lib.split a [46]) (Lib.split b [46])
def orderB (v w : Ver) : Int := firstNe [Lib.compareInt v.a w.a, Lib.compareInt v.b w.b, Lib.compareInt v.c w.c, ceB v.e w.e]
def compareB (v w : Ver) : Int × Int := if v.check != 0 then (0, v.check) else if w.check != 0 then (0, w.check) else (orderB v w, 0)
def nextOk (x y z : Int) : Ver × Int := if checkB x y z [] != 0 then (Ver.z, 3) else (⟨x, y, z, []⟩, 0)
def nextB (v : Ver) (p : Int) : Ver × Int :=
  if v.check != 0 then (Ver.z, v.check) else
  if p == 0 then nextOk (w1 v.a) 0 0 else if p == 1 then nextOk v.a (w1 v.b) 0 else if p == 2 && v.e == [] then nextOk v.a v.b (w1 v.c) else if !(p == 2) then (Ver.z, 3) else nextOk v.a v.b v.c
theorem min_lt {α β : Type} {xs : List α} {ys : List β} {i : Nat} {x y : Int} (hx : x = (xs.length : Int)) (hy : y = (ys.length : Int)) (h : decide ((i : Int) < if y < x then y else x) = true) : i < xs.length ∧ i < ys.length := by
  subst hx; subst hy
  simp only [decide_eq_true_eq] at h
  split at h <;> omega
theorem min_ge {α β : Type} {xs : List α} {ys : List β} {i : Nat} {x y : Int} (hx : x = (xs.length : Int)) (hy : y = (ys.length : Int)) (h : decide ((i : Int) < if y < x then y else x) = false) : xs.length ≤ i ∨ ys.length ≤ i := by
  subst hx; subst hy
  simp only [decide_eq_false_iff_not] at h
  split at h <;> omega
theorem cut_le (s sep : List UInt8) : (Lib.cut s sep).1.length ≤ s.length ∧ (Lib.cut s sep).2.1.length ≤ s.length := by
  unfold Lib.cut
  split
  · simp; omega
  · simp
end Go.Proofs.YtcchfmilleffjaaGreatDoor
namespace Go.Proofs.YtcchfmilleffjaaGreatDoor
open Go Go.RowKit
def verV (v : Ver) : V := .agg [.d (.int .i64 v.a), .d (.int .i64 v.b), .d (.int .i64 v.c), .d (.str v.e)]
def verD (v : Ver) : List D := [.int .i64 v.a, .int .i64 v.b, .int .i64 v.c, .str v.e]
end Go.Proofs.YtcchfmilleffjaaGreatDoor
namespace Go.Proofs.YtcchfmilleffjaaGreatDoor
open Go
open Go.RowKit
theorem pc_ver_Check (v : Ver) (he : v.e.length < 4294967281) :
  PureCall Tryz.prog J 71 [verV v] (.one (.d (.int .i64 v.check))) := by
 refine PureCall.of_body tOk (fn := Tryz.f71) Tryz.func71 (by kernel_rfl) rfl (Nat.le_of_ble_eq_true rfl) (fun E => ?_)
 refine W.seq ?_
 refine W.region ?_
 refine S.box rfl rfl rfl rfl ?_
 refine S.pure tOk zOk rfl rfl rfl ?_
 refine thenK_n ?_
 refine W.seq ?_
 refine W.seq ?_
 refine W.region ?_
 refine S.pure tOk zOk rfl rfl rfl ?_
 refine S.pure tOk zOk rfl rfl rfl ?_
 refine S.pure tOk zOk rfl rfl rfl ?_
 refine S.pure tOk zOk rfl rfl rfl ?_
 refine S.pure tOk zOk rfl rfl rfl ?_
 refine S.pure tOk zOk rfl rfl rfl ?_
 refine S.pure tOk zOk rfl rfl rfl ?_
 refine S.pure tOk zOk rfl rfl rfl ?_
 refine thenK_n ?_
 refine W.block ?_
 refine W.rounds 4 ?_
 refine WR.succ ?_
 refine W.seq ?_
 refine W.region ?_
 refine S.pure tOk zOk rfl rfl rfl ?_
 refine thenK_n ?_
 refine W.seq ?_
 refine W.condT rfl rfl ?_
 refine W.skip ?_
 refine thenK_n ?_
 refine W.seq ?_
 refine W.block ?_
 refine W.seq ?_
 refine W.region ?_
 refine S.pure tOk zOk rfl (by first | rfl | exact idx_ok (by omega) (by omega)) rfl ?_
 refine S.pure tOk zOk rfl rfl rfl ?_
 refine thenK_n ?_
 refine W.seq ?_
 refine W.region ?_
 refine S.pure tOk zOk rfl rfl rfl ?_
 refine S.call rfl rfl rfl rfl rfl (pc_ver_outside _ _ _) ?_
 refine thenK_n ?_
 refine W.cond rfl (fun c2 => ?_) (fun c2 => ?_)
 ·skip
  refine W.seq ?_
  refine W.region ?_
  refine S.pure tOk zOk rfl rfl rfl ?_
  refine thenK_n ?_
  refine W.ret ?_
  refine blockK_r ?_
  refine thenK_r ?_
  refine thenK_r ?_
  refine blockK_r ?_
  refine thenK_r ?_
  exact ⟨_, rfl, rfl, LeV.of_force rfl (by simp_all [Ver.check, checkB, outsideN])⟩
 ·skip
  refine W.skip ?_
  refine blockK_n ?_
  refine thenK_n ?_
  refine W.region ?_
  refine S.pure tOk zOk rfl rfl rfl ?_
  refine S.pure tOk zOk rfl rfl rfl ?_
  refine thenK_n ?_
  refine WR.succ ?_
  refine W.seq ?_
  refine W.region ?_
  refine S.pure tOk zOk rfl rfl rfl ?_
  refine thenK_n ?_
  refine W.seq ?_
  refine W.condT rfl rfl ?_
  refine W.skip ?_
  refine thenK_n ?_
  refine W.seq ?_
  refine W.block ?_
  refine W.seq ?_
  refine W.region ?_
  refine S.pure tOk zOk rfl (by first | rfl | exact idx_ok (by omega) (by omega)) rfl ?_
  refine S.pure tOk zOk rfl rfl rfl ?_
  refine thenK_n ?_
  refine W.seq ?_
  refine W.region ?_
  refine S.pure tOk zOk rfl rfl rfl ?_
  refine S.call rfl rfl rfl rfl rfl (pc_ver_outside _ _ _) ?_
  refine thenK_n ?_
  refine W.cond rfl (fun c4 => ?_) (fun c4 => ?_)
  ·skip
   refine W.seq ?_
   refine W.region ?_
   refine S.pure tOk zOk rfl rfl rfl ?_
   refine thenK_n ?_
   refine W.ret ?_
   refine blockK_r ?_
   refine thenK_r ?_
   refine thenK_r ?_
   refine blockK_r ?_
   refine thenK_r ?_
   exact ⟨_, rfl, rfl, LeV.of_force rfl (by simp_all [Ver.check, checkB, outsideN])⟩
  ·skip
   refine W.skip ?_
   refine blockK_n ?_
   refine thenK_n ?_
   refine W.region ?_
   refine S.pure tOk zOk rfl rfl rfl ?_
   refine S.pure tOk zOk rfl rfl rfl ?_
   refine thenK_n ?_
   refine WR.succ ?_
   refine W.seq ?_
   refine W.region ?_
   refine S.pure tOk zOk rfl rfl rfl ?_
   refine thenK_n ?_
   refine W.seq ?_
   refine W.condT rfl rfl ?_
   refine W.skip ?_
   refine thenK_n ?_
   refine W.seq ?_
   refine W.block ?_
   refine W.seq ?_
   refine W.region ?_
   refine S.pure tOk zOk rfl (by first | rfl | exact idx_ok (by omega) (by omega)) rfl ?_
   refine S.pure tOk zOk rfl rfl rfl ?_
   refine thenK_n ?_
   refine W.seq ?_
   refine W.region ?_
   refine S.pure tOk zOk rfl rfl rfl ?_
   refine S.call rfl rfl rfl rfl rfl (pc_ver_outside _ _ _) ?_
   refine thenK_n ?_
   refine W.cond rfl (fun c6 => ?_) (fun c6 => ?_)
   ·skip
    refine W.seq ?_
    refine W.region ?_
    refine S.pure tOk zOk rfl rfl rfl ?_
    refine thenK_n ?_
    refine W.ret ?_
    refine blockK_r ?_
    refine thenK_r ?_
    refine thenK_r ?_
    refine blockK_r ?_
    refine thenK_r ?_
    exact ⟨_, rfl, rfl, LeV.of_force rfl (by simp_all [Ver.check, checkB, outsideN])⟩
   ·skip
    refine W.skip ?_
    refine blockK_n ?_
    refine thenK_n ?_
    refine W.region ?_
    refine S.pure tOk zOk rfl rfl rfl ?_
    refine S.pure tOk zOk rfl rfl rfl ?_
    refine thenK_n ?_
    refine WR.succ ?_
    refine W.seq ?_
    refine W.region ?_
    refine S.pure tOk zOk rfl rfl rfl ?_
    refine thenK_n ?_
    refine W.seq ?_
    refine W.condF rfl rfl ?_
    refine W.exit ?_
    refine thenK_e ?_
    refine thenK_e ?_
    refine blockK_x ?_
    refine thenK_n ?_
    refine W.seq ?_
    refine W.seq ?_
    refine W.region ?_
    refine S.pure tOk zOk rfl rfl rfl ?_
    refine S.pure tOk zOk rfl rfl rfl ?_
    refine S.pure tOk zOk rfl rfl rfl ?_
    refine S.pure tOk zOk rfl rfl rfl ?_
    refine S.pureG tOk zOk rfl rfl tg (fun _ => rfl) rfl ?_
    refine S.pureG tOk zOk rfl rfl tg (fun _ => rfl) rfl ?_
    refine S.callG rfl rfl rfl rfl tg rfl rfl (fun _ => pc_ver_isEarly _ (by omega)) ?_
    refine S.pureG tOk zOk rfl rfl tg (fun _ => rfl) rfl ?_
    refine S.pickAnd tOk zOk rfl rfl tg ?_
    refine thenK_n ?_
    refine W.cond rfl (fun c8 => ?_) (fun c8 => ?_)
    ·skip
     refine W.seq ?_
     refine W.region ?_
     refine S.pure tOk zOk rfl rfl rfl ?_
     refine thenK_n ?_
     refine W.ret ?_
     refine thenK_r ?_
     exact ⟨_, rfl, rfl, LeV.of_force rfl (by simp_all [Ver.check, checkB, outsideN])⟩
    ·skip
     refine W.skip ?_
     refine thenK_n ?_
     refine W.seq ?_
     refine W.region ?_
     refine S.pure tOk zOk rfl rfl rfl ?_
     refine thenK_n ?_
     refine W.ret ?_
     exact ⟨_, rfl, rfl, LeV.of_force rfl (by simp_all [Ver.check, checkB, outsideN])⟩
theorem pc_ver_number (s : List UInt8) (hs : s.length < 4294967281) :
  PureCall Tryz.prog J 263 [.one (.d (.str s))] (.tup [.one (.d (.int .i64 (numB s).1)), .one (.d (.bool (numB s).2))]) := by
 refine PureCall.of_body tOk (fn := Tryz.f263) Tryz.func263 (by kernel_rfl) rfl (Nat.le_of_ble_eq_true rfl) (fun E => ?_)
 refine W.seq ?_
 refine W.region ?_
 refine S.pure tOk zOk rfl rfl rfl ?_
 refine S.pure tOk zOk rfl rfl rfl ?_
 refine thenK_n ?_
 refine W.seq ?_
 refine W.seq ?_
 refine W.region ?_
 refine S.pure tOk zOk rfl rfl rfl ?_
 refine S.call rfl rfl rfl rfl rfl (pc_ver_each _ _ _ _ (by omega) (fun c => pc_ver_isDigit c)) ?_
 refine S.pure tOk zOk rfl rfl rfl ?_
 refine S.pure tOk zOk rfl rfl rfl ?_
 refine S.pureG tOk zOk rfl rfl tg (fun _ => rfl) rfl ?_
 refine S.pureG tOk zOk rfl rfl tg (fun h => idx_ok (Int.le_refl _) (eachB_pos (by simpa using h))) rfl ?_
 refine S.pureG tOk zOk rfl rfl tg (fun _ => rfl) rfl ?_
 refine S.pureG tOk zOk rfl rfl tg (fun _ => rfl) rfl ?_
 refine S.pureG tOk zOk rfl rfl tg (fun _ => rfl) rfl ?_
 refine S.pureG tOk zOk rfl rfl tg (fun _ => rfl) rfl ?_
 refine S.pickAndG tOk zOk rfl rfl rfl tg tg ?_
 refine S.pickOr tOk zOk rfl rfl tg ?_
 refine thenK_n ?_
 refine W.cond rfl (fun c1 => ?_) (fun c1 => ?_)
 ·skip
  refine W.seq ?_
  refine W.region ?_
  refine S.pure tOk zOk rfl rfl rfl ?_
  refine S.pure tOk zOk rfl rfl rfl ?_
  refine thenK_n ?_
  refine W.ret ?_
  refine thenK_r ?_
  exact ⟨_, rfl, rfl, LeV.of_force rfl (by rw [show numB s = (0, false) from if_pos c1]; rfl)⟩
 ·skip
  refine W.skip ?_
  refine thenK_n ?_
  refine W.seq ?_
  refine W.region ?_
  refine S.pure tOk zOk rfl rfl rfl ?_
  refine S.call rfl rfl rfl rfl rfl (pc_Atoi _ (by omega)) ?_
  refine S.pure tOk zOk rfl rfl rfl ?_
  refine S.pure tOk zOk rfl rfl rfl ?_
  refine S.pure tOk zOk rfl rfl rfl ?_
  refine S.pure tOk zOk rfl rfl rfl ?_
  refine S.pure tOk zOk rfl rfl rfl ?_
  refine thenK_n ?_
  refine W.seq ?_
  refine W.regionD mixed (by kernel_rfl) ?_
  refine D.pure tOk zOk rfl rfl rfl rfl ?_
  refine D.pure tOk zOk rfl rfl rfl rfl ?_
  refine D.pure tOk zOk rfl rfl rfl rfl ?_
  refine D.pure tOk zOk rfl rfl rfl rfl ?_
  refine D.pure tOk zOk rfl rfl rfl rfl ?_
  refine thenK_n ?_
  refine W.ret ?_
  exact ⟨_, rfl, rfl, LeV.of_force rfl (by rw [show numB s = (atoiV s, atoiOk s) from if_neg (Bool.eq_false_iff.1 c1)])⟩
theorem pc_cmp_Or_int_ (xs : List Int) (hl : xs.length ≤ 1000000) :
  PureCall Tryz.prog J 121 [.one (.d (.vec 1 (xs.map fun x => [.int .i64 x])))] (.one (.d (.int .i64 (firstNe xs)))) := by
 refine PureCall.of_body tOk (fn := Tryz.f121) Tryz.func121 (by kernel_rfl) rfl (Nat.le_of_ble_eq_true rfl) (fun E => ?_)
 refine W.seq ?_
 refine W.region ?_
 refine S.pure tOk zOk rfl rfl rfl ?_
 refine thenK_n ?_
 refine W.seq ?_
 refine W.region ?_
 refine S.pure tOk zOk rfl rfl rfl ?_
 refine thenK_n ?_
 refine W.seq ?_
 refine W.seq ?_
 refine W.region ?_
 refine S.pure tOk zOk rfl rfl rfl ?_
 refine S.pure tOk zOk rfl rfl rfl ?_
 refine S.pure tOk zOk rfl rfl rfl ?_
 refine thenK_n ?_
 refine W.block ?_
 refine W.loop (fun k st => ∃ i : Nat, i ≤ xs.length ∧ (xs.take i).all (· == 0) = true ∧ k = xs.length - i ∧ ∃ t b2 r2 m2, st = ⟨t, [] ++ b2, [] ++ r2, [] ++ m2⟩ ∧ holdsL t [(3, .one (.d (.int .i64 0))), (6, .one (.d (.vec 1 (xs.map fun x => [.int .i64 x])))), (7, .one (.d (.int .i64 ((xs.map fun x => ([.int .i64 x] : List D)).length : Int)))), (8, .one (.d (.int .i64 (i : Int))))]) (xs.length) ⟨0, Nat.zero_le _, by simp, rfl, _, _, _, _, rfl, rfl, rfl, rfl, rfl, trivial⟩ ?_
 rintro k0 _ ⟨i, f0_0, f0_1, rfl, t0, bb0, rr0, mm0, rfl, hh0⟩
 refine W.keepR _ _ _ _ _ _ _ hh0 rfl ?_
 refine W.seq ?_
 refine W.region ?_
 refine S.pure tOk zOk rfl rfl rfl ?_
 refine thenK_n ?_
 refine W.seq ?_
 refine W.cond rfl (fun c1 => ?_) (fun c1 => ?_)
 ·skip
  have hi := row_lt c1
  refine W.skip ?_
  refine thenK_n ?_
  refine W.seq ?_
  refine W.block ?_
  refine W.seq ?_
  refine W.region ?_
  refine S.pureE tOk zOk rfl (row_ok hi) (row_at 0 hi) rfl ?_
  refine S.pure tOk zOk rfl rfl rfl ?_
  refine S.pure tOk zOk rfl rfl rfl ?_
  refine thenK_n ?_
  refine W.seq ?_
  refine W.region ?_
  refine S.pure tOk zOk rfl rfl rfl ?_
  refine S.pure tOk zOk rfl rfl rfl ?_
  refine S.pure tOk zOk rfl rfl rfl ?_
  refine thenK_n ?_
  refine W.cond rfl (fun c2 => ?_) (fun c2 => ?_)
  ·skip
   refine W.seq ?_
   refine W.region ?_
   refine S.pure tOk zOk rfl rfl rfl ?_
   refine S.pure tOk zOk rfl rfl rfl ?_
   refine thenK_n ?_
   refine W.ret ?_
   refine blockK_r ?_
   refine thenK_r ?_
   refine thenK_r ?_
   refine blockK_r ?_
   refine thenK_r ?_
   exact ⟨_, rfl, rfl, LeV.of_force rfl (by rw [firstNe_hit hi f0_1 (by simpa using c2)])⟩
  ·skip
   refine W.skip ?_
   refine blockK_n ?_
   refine thenK_n ?_
   refine W.region ?_
   refine S.pure tOk zOk rfl rfl rfl ?_
   refine S.pure tOk zOk rfl rfl rfl ?_
   refine loop_n (xs.length - (i + 1)) (by omega) ⟨i + 1, hi, all_take_succ (d := 0) hi f0_1 (by simpa using c2), rfl, _, _, _, _, rfl, rfl, rfl, rfl, inc_i64 (by omega), trivial⟩
 ·skip
  have hi := row_ge c1
  refine W.exit ?_
  refine thenK_e ?_
  refine thenK_e ?_
  refine blockK_x ?_
  refine thenK_n ?_
  refine W.seq ?_
  refine W.region ?_
  refine S.pure tOk zOk rfl rfl rfl ?_
  refine S.pure tOk zOk rfl rfl rfl ?_
  refine thenK_n ?_
  refine W.ret ?_
  exact ⟨_, rfl, rfl, LeV.of_force rfl (by rw [firstNe_none hi f0_1])⟩
theorem pc_ver_compareWords (a b : List UInt8) (ha : a.length < 4294967281) (hb : b.length < 4294967281) :
  PureCall Tryz.prog J 172 [.one (.d (.str a)), .one (.d (.str b))] (.one (.d (.int .i64 (cwB a b)))) := by
 refine PureCall.of_body tOk (fn := Tryz.f172) Tryz.func172 (by kernel_rfl) rfl (Nat.le_of_ble_eq_true rfl) (fun E => ?_)
 refine W.seq ?_
 refine W.region ?_
 refine S.pure tOk zOk rfl rfl rfl ?_
 refine thenK_n ?_
 refine W.seq ?_
 refine W.region ?_
 refine S.pure tOk zOk rfl rfl rfl ?_
 refine S.call rfl rfl rfl rfl rfl (pc_ver_isNumeral _ (by omega)) ?_
 refine S.pure tOk zOk rfl rfl rfl ?_
 refine S.call rfl rfl rfl rfl rfl (pc_ver_isNumeral _ (by omega)) ?_
 refine S.pure tOk zOk rfl rfl rfl ?_
 refine S.pure tOk zOk rfl rfl rfl ?_
 refine thenK_n ?_
 refine W.seq ?_
 refine W.block ?_
 refine W.seq ?_
 refine W.region ?_
 refine S.pure tOk zOk rfl rfl rfl ?_
 refine S.pure tOk zOk rfl rfl rfl ?_
 refine S.pureG tOk zOk rfl rfl tg (fun _ => rfl) rfl ?_
 refine S.pickAnd tOk zOk rfl rfl tg ?_
 refine S.pure tOk zOk rfl rfl rfl ?_
 refine thenK_n ?_
 refine W.cond rfl (fun c1 => ?_) (fun c1 => ?_)
 ·skip
  refine W.seq ?_
  refine W.region ?_
  refine S.pure tOk zOk rfl rfl rfl ?_
  refine S.pure tOk zOk rfl rfl rfl ?_
  refine S.pure tOk zOk rfl rfl rfl ?_
  refine S.pure tOk zOk rfl rfl rfl ?_
  refine S.pure tOk zOk rfl rfl rfl ?_
  refine thenK_n ?_
  refine W.cond rfl (fun c2 => ?_) (fun c2 => ?_)
  ·skip
   refine W.seq ?_
   refine W.region ?_
   refine S.pure tOk zOk rfl rfl rfl ?_
   refine S.pure tOk zOk rfl rfl rfl ?_
   refine S.pure tOk zOk rfl rfl rfl ?_
   refine S.pure tOk zOk rfl rfl rfl ?_
   refine S.call rfl rfl rfl rfl rfl (pc_cmpInt _ _) ?_
   refine S.pure tOk zOk rfl rfl rfl ?_
   refine thenK_n ?_
   refine W.ret ?_
   refine blockK_r ?_
   refine thenK_r ?_
   exact ⟨_, rfl, rfl, LeV.of_force rfl (by simp_all [cwB])⟩
  ·skip
   refine W.skip ?_
   refine blockK_n ?_
   refine thenK_n ?_
   refine W.seq ?_
   refine W.region ?_
   refine S.pure tOk zOk rfl rfl rfl ?_
   refine S.pure tOk zOk rfl rfl rfl ?_
   refine S.call rfl rfl rfl rfl rfl (pc_Compare _ _) ?_
   refine S.pure tOk zOk rfl rfl rfl ?_
   refine thenK_n ?_
   refine W.ret ?_
   exact ⟨_, rfl, rfl, LeV.of_force rfl (by simp_all [cwB])⟩
 ·skip
  refine W.seq ?_
  refine W.region ?_
  refine S.pure tOk zOk rfl rfl rfl ?_
  refine S.pure tOk zOk rfl rfl rfl ?_
  refine thenK_n ?_
  refine W.cond rfl (fun c3 => ?_) (fun c3 => ?_)
  ·skip
   refine W.seq ?_
   refine W.region ?_
   refine S.pure tOk zOk rfl rfl rfl ?_
   refine thenK_n ?_
   refine W.ret ?_
   refine blockK_r ?_
   refine thenK_r ?_
   exact ⟨_, rfl, rfl, LeV.of_force rfl (by simp_all [cwB])⟩
  ·skip
   refine W.seq ?_
   refine W.region ?_
   refine S.pure tOk zOk rfl rfl rfl ?_
   refine S.pure tOk zOk rfl rfl rfl ?_
   refine thenK_n ?_
   refine W.cond rfl (fun c4 => ?_) (fun c4 => ?_)
   ·skip
    refine W.seq ?_
    refine W.region ?_
    refine S.pure tOk zOk rfl rfl rfl ?_
    refine thenK_n ?_
    refine W.ret ?_
    refine blockK_r ?_
    refine thenK_r ?_
    exact ⟨_, rfl, rfl, LeV.of_force rfl (by simp_all [cwB])⟩
   ·skip
    refine W.skip ?_
    refine blockK_n ?_
    refine thenK_n ?_
    refine W.seq ?_
    refine W.region ?_
    refine S.pure tOk zOk rfl rfl rfl ?_
    refine S.pure tOk zOk rfl rfl rfl ?_
    refine S.call rfl rfl rfl rfl rfl (pc_Compare _ _) ?_
    refine S.pure tOk zOk rfl rfl rfl ?_
    refine thenK_n ?_
    refine W.ret ?_
    exact ⟨_, rfl, rfl, LeV.of_force rfl (by simp_all [cwB])⟩
theorem pc_ver_compareEarly (a b : List UInt8) (ha : a.length < 4294967281) (hb : b.length < 4294967281) :
  PureCall Tryz.prog J 123 [.one (.d (.str a)), .one (.d (.str b))] (.one (.d (.int .i64 (ceB a b)))) := by
 have hl := split_le a [46]
 have hl2 := split_le b [46]
 refine PureCall.of_body tOk (fn := Tryz.f123) Tryz.func123 (by kernel_rfl) rfl (Nat.le_of_ble_eq_true rfl) (fun E => ?_)
 refine W.seq ?_
 refine W.region ?_
 refine S.pure tOk zOk rfl rfl rfl ?_
 refine thenK_n ?_
 refine W.seq ?_
 refine W.block ?_
 refine W.seq ?_
 refine W.region ?_
 refine S.pure tOk zOk rfl rfl rfl ?_
 refine S.pure tOk zOk rfl rfl rfl ?_
 refine S.pure tOk zOk rfl rfl rfl ?_
 refine S.pure tOk zOk rfl rfl rfl ?_
 refine thenK_n ?_
 refine W.cond rfl (fun c1 => ?_) (fun c1 => ?_)
 ·skip
  refine W.seq ?_
  refine W.region ?_
  refine S.pure tOk zOk rfl rfl rfl ?_
  refine thenK_n ?_
  refine W.ret ?_
  refine blockK_r ?_
  refine thenK_r ?_
  exact ⟨_, rfl, rfl, LeV.of_force rfl (by simp_all [ceB])⟩
 ·skip
  refine W.seq ?_
  refine W.region ?_
  refine S.pure tOk zOk rfl rfl rfl ?_
  refine S.pure tOk zOk rfl rfl rfl ?_
  refine S.pure tOk zOk rfl rfl rfl ?_
  refine thenK_n ?_
  refine W.cond rfl (fun c2 => ?_) (fun c2 => ?_)
  ·skip
   refine W.seq ?_
   refine W.region ?_
   refine S.pure tOk zOk rfl rfl rfl ?_
   refine thenK_n ?_
   refine W.ret ?_
   refine blockK_r ?_
   refine thenK_r ?_
   exact ⟨_, rfl, rfl, LeV.of_force rfl (by simp_all [ceB])⟩
  ·skip
   refine W.seq ?_
   refine W.region ?_
   refine S.pure tOk zOk rfl rfl rfl ?_
   refine S.pure tOk zOk rfl rfl rfl ?_
   refine S.pure tOk zOk rfl rfl rfl ?_
   refine thenK_n ?_
   refine W.cond rfl (fun c3 => ?_) (fun c3 => ?_)
   ·skip
    refine W.seq ?_
    refine W.region ?_
    refine S.pure tOk zOk rfl rfl rfl ?_
    refine thenK_n ?_
    refine W.ret ?_
    refine blockK_r ?_
    refine thenK_r ?_
    exact ⟨_, rfl, rfl, LeV.of_force rfl (by simp_all [ceB])⟩
   ·skip
    refine W.skip ?_
    refine blockK_n ?_
    refine thenK_n ?_
    refine W.seq ?_
    refine W.region ?_
    refine S.pure tOk zOk rfl rfl rfl ?_
    refine S.call rfl rfl rfl rfl rfl (pc_Split _ _ ha (by decide)) ?_
    refine S.pure tOk zOk rfl rfl rfl ?_
    refine S.call rfl rfl rfl rfl rfl (pc_Split _ _ hb (by decide)) ?_
    refine S.pure tOk zOk rfl rfl rfl ?_
    refine S.pure tOk zOk rfl rfl rfl ?_
    refine thenK_n ?_
    refine W.seq ?_
    refine W.seq ?_
    refine W.region ?_
    refine S.pure tOk zOk rfl rfl rfl ?_
    refine S.pure tOk zOk rfl rfl rfl ?_
    refine S.pure tOk zOk rfl rfl rfl ?_
    refine S.pure tOk zOk rfl rfl rfl ?_
    refine S.pure tOk zOk rfl rfl rfl ?_
    refine S.pure tOk zOk rfl rfl rfl ?_
    refine thenK_n ?_
    refine W.block ?_
    refine W.loop (fun k st => ∃ i : Nat, i ≤ (Lib.split a [46]).length ∧ ((List.zipWith cwB (Lib.split a [46]) (Lib.split b [46])).take i).all (· == 0) = true ∧ k = (Lib.split a [46]).length - i ∧ ∃ t b2 r2 m2, st = ⟨t, [] ++ b2, [] ++ r2, [] ++ m2⟩ ∧ holdsL t [(5, .one (.d (.vec 1 ((Lib.split a [46]).map fun x => [.str x])))), (6, .one (.d (.vec 1 ((Lib.split b [46]).map fun x => [.str x])))), (27, .one (.d (.int .i64 (if (((Lib.split b [46]).map fun x => [D.str x]).length : Int) < (((Lib.split a [46]).map fun x => [D.str x]).length : Int) then (((Lib.split b [46]).map fun x => [D.str x]).length : Int) else (((Lib.split a [46]).map fun x => [D.str x]).length : Int))))), (28, .one (.d (.int .i64 (i : Int))))]) ((Lib.split a [46]).length) ⟨0, Nat.zero_le _, by simp, rfl, _, _, _, _, rfl, rfl, rfl, rfl, rfl, trivial⟩ ?_
    rintro k1 _ ⟨i, f1_0, f1_1, rfl, t1, bb1, rr1, mm1, rfl, hh1⟩
    refine W.keepR _ _ _ _ _ _ _ hh1 rfl ?_
    refine W.seq ?_
    refine W.region ?_
    refine S.pure tOk zOk rfl rfl rfl ?_
    refine thenK_n ?_
    refine W.seq ?_
    refine W.cond rfl (fun c4 => ?_) (fun c4 => ?_)
    ·skip
     have hi := min_lt (xs := Lib.split a [46]) (ys := Lib.split b [46]) (by simp) (by simp) c4
     refine W.skip ?_
     refine thenK_n ?_
     refine W.seq ?_
     refine W.block ?_
     refine W.seq ?_
     refine W.region ?_
     refine S.pure tOk zOk rfl rfl rfl ?_
     refine S.pure tOk zOk rfl rfl rfl ?_
     refine thenK_n ?_
     refine W.seq ?_
     refine W.regionD mixed (by kernel_rfl) ?_
     refine D.pure tOk zOk rfl rfl rfl rfl ?_
     refine D.pure tOk zOk rfl rfl rfl rfl ?_
     refine D.pureE tOk zOk rfl rfl (row_ok hi.1) (row_at [] hi.1) rfl ?_
     refine D.pure tOk zOk rfl rfl rfl rfl ?_
     refine D.pure tOk zOk rfl rfl rfl rfl ?_
     refine D.pure tOk zOk rfl rfl rfl rfl ?_
     refine D.pureE tOk zOk rfl rfl (row_ok hi.2) (row_at [] hi.2) rfl ?_
     refine D.pure tOk zOk rfl rfl rfl rfl ?_
     refine D.call rfl rfl rfl rfl rfl (pc_ver_compareWords _ _ (by have := @split_at a [46] i; omega) (by have := @split_at b [46] i; omega)) ?_
     refine D.pure tOk zOk rfl rfl rfl rfl ?_
     refine thenK_n ?_
     refine W.seq ?_
     refine W.region ?_
     refine S.pure tOk zOk rfl rfl rfl ?_
     refine S.pure tOk zOk rfl rfl rfl ?_
     refine thenK_n ?_
     refine W.cond rfl (fun c5 => ?_) (fun c5 => ?_)
     ·skip
      refine W.seq ?_
      refine W.region ?_
      refine S.pure tOk zOk rfl rfl rfl ?_
      refine S.pure tOk zOk rfl rfl rfl ?_
      refine thenK_n ?_
      refine W.ret ?_
      refine blockK_r ?_
      refine thenK_r ?_
      refine thenK_r ?_
      refine blockK_r ?_
      refine thenK_r ?_
      exact ⟨_, rfl, rfl, LeV.of_force rfl (by
   have hz := zip_at (f := cwB) [] [] hi.1 hi.2
   have hc : cwB ((Lib.split a [46]).getD i []) ((Lib.split b [46]).getD i []) ≠ 0 := by simpa using c5
   have hh := firstNe_hit (by simp; omega) f1_1 (by rw [hz]; exact hc); rw [hz] at hh; rw [ceB, rowsB, hh]; simp_all)⟩
     ·skip
      refine W.skip ?_
      refine blockK_n ?_
      refine thenK_n ?_
      refine W.region ?_
      refine S.pure tOk zOk rfl rfl rfl ?_
      refine S.pure tOk zOk rfl rfl rfl ?_
      refine loop_n ((Lib.split a [46]).length - (i + 1)) (by omega) ⟨i + 1, by omega, all_take_succ (d := 0) (by simp; omega) f1_1 (by rw [zip_at [] [] hi.1 hi.2]; simpa using c5), rfl, _, _, _, _, rfl, rfl, rfl, rfl, inc_i64 (by omega), trivial⟩
    ·skip
     have hi := min_ge (xs := Lib.split a [46]) (ys := Lib.split b [46]) (by simp) (by simp) c4
     refine W.exit ?_
     refine thenK_e ?_
     refine thenK_e ?_
     refine blockK_x ?_
     refine thenK_n ?_
     refine W.seq ?_
     refine W.region ?_
     refine S.pure tOk zOk rfl rfl rfl ?_
     refine S.pure tOk zOk rfl rfl rfl ?_
     refine S.pure tOk zOk rfl rfl rfl ?_
     refine S.pure tOk zOk rfl rfl rfl ?_
     refine S.call rfl rfl rfl rfl rfl (pc_cmpInt _ _) ?_
     refine S.pure tOk zOk rfl rfl rfl ?_
     refine thenK_n ?_
     refine W.ret ?_
     exact ⟨_, rfl, rfl, LeV.of_force rfl (by have hh := firstNe_none (l := List.zipWith cwB (Lib.split a [46]) (Lib.split b [46])) (by simp; omega) f1_1; rw [ceB, rowsB, hh]; simp_all)⟩
theorem pc_ver_Order (v w : Ver) (hv : v.e.length < 4294967281) (hw : w.e.length < 4294967281) :
  PureCall Tryz.prog J 72 [verV v, verV w] (.one (.d (.int .i64 (orderB v w)))) := by
 refine PureCall.of_body tOk (fn := Tryz.f72) Tryz.func72 (by kernel_rfl) rfl (Nat.le_of_ble_eq_true rfl) (fun E => ?_)
 refine W.seq ?_
 refine W.region ?_
 refine S.box rfl rfl rfl rfl ?_
 refine S.box rfl rfl rfl rfl ?_
 refine S.pure tOk zOk rfl rfl rfl ?_
 refine thenK_n ?_
 refine W.seq ?_
 refine W.regionD mixed (by kernel_rfl) ?_
 refine D.pure tOk zOk rfl rfl rfl rfl ?_
 refine D.pure tOk zOk rfl rfl rfl rfl ?_
 refine D.pure tOk zOk rfl rfl rfl rfl ?_
 refine D.pure tOk zOk rfl rfl rfl rfl ?_
 refine D.call rfl rfl rfl rfl rfl (pc_cmpInt _ _) ?_
 refine D.pure tOk zOk rfl rfl rfl rfl ?_
 refine D.pure tOk zOk rfl rfl rfl rfl ?_
 refine D.pure tOk zOk rfl rfl rfl rfl ?_
 refine D.pure tOk zOk rfl rfl rfl rfl ?_
 refine D.call rfl rfl rfl rfl rfl (pc_cmpInt _ _) ?_
 refine D.pure tOk zOk rfl rfl rfl rfl ?_
 refine D.pure tOk zOk rfl rfl rfl rfl ?_
 refine D.pure tOk zOk rfl rfl rfl rfl ?_
 refine D.pure tOk zOk rfl rfl rfl rfl ?_
 refine D.call rfl rfl rfl rfl rfl (pc_cmpInt _ _) ?_
 refine D.pure tOk zOk rfl rfl rfl rfl ?_
 refine D.pure tOk zOk rfl rfl rfl rfl ?_
 refine D.pure tOk zOk rfl rfl rfl rfl ?_
 refine D.pure tOk zOk rfl rfl rfl rfl ?_
 refine D.call rfl rfl rfl rfl rfl (pc_ver_compareEarly _ _ (by omega) (by omega)) ?_
 refine D.slice tOk rfl rfl ?_
 refine D.call rfl rfl rfl rfl rfl (pc_cmp_Or_int_ [_, _, _, _] (by simp)) ?_
 refine D.pure tOk zOk rfl rfl rfl rfl ?_
 refine thenK_n ?_
 refine W.ret ?_
 exact ⟨_, rfl, rfl, LeV.refl _⟩
theorem pc_ver_Compare (v w : Ver) (hv : v.e.length < 4294967281) (hw : w.e.length < 4294967281) :
  PureCall Tryz.prog J 23 [verV v, verV w] (.tup [.one (.d (.int .i64 (compareB v w).1)), .one (.d (.int .i64 (compareB v w).2))]) := by
 refine PureCall.of_body tOk (fn := Tryz.f23) Tryz.func23 (by kernel_rfl) rfl (Nat.le_of_ble_eq_true rfl) (fun E => ?_)
 refine W.seq ?_
 refine W.region ?_
 refine S.box rfl rfl rfl rfl ?_
 refine S.box rfl rfl rfl rfl ?_
 refine S.pure tOk zOk rfl rfl rfl ?_
 refine S.pure tOk zOk rfl rfl rfl ?_
 refine thenK_n ?_
 refine W.seq ?_
 refine W.seq ?_
 refine W.region ?_
 refine S.pure tOk zOk rfl rfl rfl ?_
 refine S.pure tOk zOk rfl rfl rfl ?_
 refine S.pure tOk zOk rfl rfl rfl ?_
 refine S.pure tOk zOk rfl rfl rfl ?_
 refine thenK_n ?_
 refine W.block ?_
 refine W.rounds 3 ?_
 refine WR.succ ?_
 refine W.seq ?_
 refine W.region ?_
 refine S.pure tOk zOk rfl rfl rfl ?_
 refine thenK_n ?_
 refine W.seq ?_
 refine W.condT rfl rfl ?_
 refine W.skip ?_
 refine thenK_n ?_
 refine W.seq ?_
 refine W.block ?_
 refine W.seq ?_
 refine W.region ?_
 refine S.pure tOk zOk rfl (by first | rfl | exact idx_ok (by omega) (by omega)) rfl ?_
 refine S.alloc tOk rfl rfl rfl rfl ?_
 refine S.store tOk rfl rfl rfl rfl rfl rfl rfl rfl ?_
 refine thenK_n ?_
 refine W.seq ?_
 refine W.region ?_
 refine S.pure tOk zOk rfl rfl rfl ?_
 refine S.call rfl rfl rfl rfl rfl (pc_ver_Check ⟨_, _, _, _⟩ (by first | exact hv | exact hw)) ?_
 refine S.pure tOk zOk rfl rfl rfl ?_
 refine thenK_n ?_
 refine W.seq ?_
 refine W.region ?_
 refine S.pure tOk zOk rfl rfl rfl ?_
 refine S.pure tOk zOk rfl rfl rfl ?_
 refine thenK_n ?_
 refine W.cond rfl (fun c2 => ?_) (fun c2 => ?_)
 ·skip
  refine W.seq ?_
  refine W.region ?_
  refine S.pure tOk zOk rfl rfl rfl ?_
  refine S.pure tOk zOk rfl rfl rfl ?_
  refine S.pure tOk zOk rfl rfl rfl ?_
  refine thenK_n ?_
  refine W.ret ?_
  refine blockK_r ?_
  refine thenK_r ?_
  refine thenK_r ?_
  refine blockK_r ?_
  refine thenK_r ?_
  exact ⟨_, rfl, rfl, LeV.of_force rfl (by simp_all [compareB])⟩
 ·skip
  refine W.skip ?_
  refine blockK_n ?_
  refine thenK_n ?_
  refine W.region ?_
  refine S.pure tOk zOk rfl rfl rfl ?_
  refine S.pure tOk zOk rfl rfl rfl ?_
  refine thenK_n ?_
  refine WR.succ ?_
  refine W.seq ?_
  refine W.region ?_
  refine S.pure tOk zOk rfl rfl rfl ?_
  refine thenK_n ?_
  refine W.seq ?_
  refine W.condT rfl rfl ?_
  refine W.skip ?_
  refine thenK_n ?_
  refine W.seq ?_
  refine W.block ?_
  refine W.seq ?_
  refine W.region ?_
  refine S.pure tOk zOk rfl (by first | rfl | exact idx_ok (by omega) (by omega)) rfl ?_
  refine S.alloc tOk rfl rfl rfl rfl ?_
  refine S.store tOk rfl rfl rfl rfl rfl rfl rfl rfl ?_
  refine thenK_n ?_
  refine W.seq ?_
  refine W.region ?_
  refine S.pure tOk zOk rfl rfl rfl ?_
  refine S.call rfl rfl rfl rfl rfl (pc_ver_Check ⟨_, _, _, _⟩ (by first | exact hv | exact hw)) ?_
  refine S.pure tOk zOk rfl rfl rfl ?_
  refine thenK_n ?_
  refine W.seq ?_
  refine W.region ?_
  refine S.pure tOk zOk rfl rfl rfl ?_
  refine S.pure tOk zOk rfl rfl rfl ?_
  refine thenK_n ?_
  refine W.cond rfl (fun c4 => ?_) (fun c4 => ?_)
  ·skip
   refine W.seq ?_
   refine W.region ?_
   refine S.pure tOk zOk rfl rfl rfl ?_
   refine S.pure tOk zOk rfl rfl rfl ?_
   refine S.pure tOk zOk rfl rfl rfl ?_
   refine thenK_n ?_
   refine W.ret ?_
   refine blockK_r ?_
   refine thenK_r ?_
   refine thenK_r ?_
   refine blockK_r ?_
   refine thenK_r ?_
   exact ⟨_, rfl, rfl, LeV.of_force rfl (by simp_all [compareB])⟩
  ·skip
   refine W.skip ?_
   refine blockK_n ?_
   refine thenK_n ?_
   refine W.region ?_
   refine S.pure tOk zOk rfl rfl rfl ?_
   refine S.pure tOk zOk rfl rfl rfl ?_
   refine thenK_n ?_
   refine WR.succ ?_
   refine W.seq ?_
   refine W.region ?_
   refine S.pure tOk zOk rfl rfl rfl ?_
   refine thenK_n ?_
   refine W.seq ?_
   refine W.condF rfl rfl ?_
   refine W.exit ?_
   refine thenK_e ?_
   refine thenK_e ?_
   refine blockK_x ?_
   refine thenK_n ?_
   refine W.seq ?_
   refine W.region ?_
   refine S.pure tOk zOk rfl rfl rfl ?_
   refine S.pure tOk zOk rfl rfl rfl ?_
   refine S.call rfl rfl rfl rfl rfl (pc_ver_Order _ _ (by omega) (by omega)) ?_
   refine S.pure tOk zOk rfl rfl rfl ?_
   refine S.pure tOk zOk rfl rfl rfl ?_
   refine thenK_n ?_
   refine W.ret ?_
   exact ⟨_, rfl, rfl, LeV.of_force rfl (by simp_all [compareB])⟩
theorem pc_ver_Next (v : Ver) (he : v.e.length < 4294967281) (p : Int) :
  PureCall Tryz.prog J 292 [verV v, .one (.d (.int .i64 p))] (.tup [verV (nextB v p).1, .one (.d (.int .i64 (nextB v p).2))]) := by
 refine PureCall.of_body tOk (fn := Tryz.f292) Tryz.func292 (by kernel_rfl) rfl (Nat.le_of_ble_eq_true rfl) (fun E => ?_)
 refine W.seq ?_
 refine W.region ?_
 refine S.box rfl rfl rfl rfl ?_
 refine S.alloc tOk rfl rfl rfl rfl ?_
 refine S.pure tOk zOk rfl rfl rfl ?_
 refine thenK_n ?_
 refine W.seq ?_
 refine W.seq ?_
 refine W.region ?_
 refine S.pure tOk zOk rfl rfl rfl ?_
 refine S.call rfl rfl rfl rfl rfl (pc_ver_Check v he) ?_
 refine S.pure tOk zOk rfl rfl rfl ?_
 refine thenK_n ?_
 refine W.seq ?_
 refine W.region ?_
 refine S.pure tOk zOk rfl rfl rfl ?_
 refine S.pure tOk zOk rfl rfl rfl ?_
 refine thenK_n ?_
 refine W.cond rfl (fun c1 => ?_) (fun c1 => ?_)
 ·skip
  refine W.seq ?_
  refine W.region ?_
  refine S.pure tOk zOk rfl rfl rfl ?_
  refine S.pure tOk zOk rfl rfl rfl ?_
  refine S.store tOk rfl rfl rfl rfl rfl rfl rfl rfl ?_
  refine S.pure tOk zOk rfl rfl rfl ?_
  refine thenK_n ?_
  refine W.ret ?_
  refine thenK_r ?_
  exact ⟨_, rfl, rfl, LeV.of_force rfl (by simp_all [nextB, nextOk, Ver.check, Ver.z, w1, verV])⟩
 ·skip
  refine W.skip ?_
  refine thenK_n ?_
  refine W.seq ?_
  refine W.region ?_
  refine S.pure tOk zOk rfl rfl rfl ?_
  refine S.pure tOk zOk rfl rfl rfl ?_
  refine S.pure tOk zOk rfl rfl rfl ?_
  refine S.pure tOk zOk rfl rfl rfl ?_
  refine S.pure tOk zOk rfl rfl rfl ?_
  refine S.pure tOk zOk rfl rfl rfl ?_
  refine S.pure tOk zOk rfl rfl rfl ?_
  refine S.alloc tOk rfl rfl rfl rfl ?_
  refine S.store tOk rfl rfl rfl rfl rfl rfl rfl rfl ?_
  refine thenK_n ?_
  refine W.seq ?_
  refine W.block ?_
  refine W.seq ?_
  refine W.region ?_
  refine S.pure tOk zOk rfl rfl rfl ?_
  refine S.pure tOk zOk rfl rfl rfl ?_
  refine S.pure tOk zOk rfl rfl rfl ?_
  refine thenK_n ?_
  refine W.cond rfl (fun c2 => ?_) (fun c2 => ?_)
  ·skip
   refine W.region ?_
   refine S.pure tOk zOk rfl rfl rfl ?_
   refine S.pure tOk zOk rfl rfl rfl ?_
   refine S.pure tOk zOk rfl rfl rfl ?_
   refine S.pure tOk zOk rfl rfl rfl ?_
   refine S.store tOk rfl rfl rfl rfl rfl rfl rfl rfl ?_
   refine blockK_n ?_
   refine thenK_n ?_
   refine W.seq ?_
   refine W.seq ?_
   refine W.region ?_
   refine S.pure tOk zOk rfl rfl rfl ?_
   refine S.call rfl rfl rfl rfl rfl (pc_ver_Check ⟨w1 v.a, 0, 0, []⟩ (by decide : ([] : List UInt8).length < _)) ?_
   refine S.pure tOk zOk rfl rfl rfl ?_
   refine thenK_n ?_
   refine W.cond rfl (fun c3 => ?_) (fun c3 => ?_)
   ·skip
    refine W.seq ?_
    refine W.region ?_
    refine S.pure tOk zOk rfl rfl rfl ?_
    refine S.store tOk rfl rfl rfl rfl rfl rfl rfl rfl ?_
    refine S.pure tOk zOk rfl rfl rfl ?_
    refine thenK_n ?_
    refine W.ret ?_
    refine thenK_r ?_
    exact ⟨_, rfl, rfl, LeV.of_force rfl (by simp_all [nextB, nextOk, Ver.check, Ver.z, w1, verV])⟩
   ·skip
    refine W.skip ?_
    refine thenK_n ?_
    refine W.seq ?_
    refine W.region ?_
    refine S.pure tOk zOk rfl rfl rfl ?_
    refine S.store tOk rfl rfl rfl rfl rfl rfl rfl rfl ?_
    refine S.pure tOk zOk rfl rfl rfl ?_
    refine thenK_n ?_
    refine W.ret ?_
    exact ⟨_, rfl, rfl, LeV.of_force rfl (by simp_all [nextB, nextOk, Ver.check, Ver.z, w1, verV])⟩
  ·skip
   refine W.seq ?_
   refine W.region ?_
   refine S.pure tOk zOk rfl rfl rfl ?_
   refine S.pure tOk zOk rfl rfl rfl ?_
   refine S.pure tOk zOk rfl rfl rfl ?_
   refine thenK_n ?_
   refine W.cond rfl (fun c4 => ?_) (fun c4 => ?_)
   ·skip
    refine W.region ?_
    refine S.pure tOk zOk rfl rfl rfl ?_
    refine S.pure tOk zOk rfl rfl rfl ?_
    refine S.pure tOk zOk rfl rfl rfl ?_
    refine S.pure tOk zOk rfl rfl rfl ?_
    refine S.store tOk rfl rfl rfl rfl rfl rfl rfl rfl ?_
    refine S.pure tOk zOk rfl rfl rfl ?_
    refine S.store tOk rfl rfl rfl rfl rfl rfl rfl rfl ?_
    refine blockK_n ?_
    refine thenK_n ?_
    refine W.seq ?_
    refine W.seq ?_
    refine W.region ?_
    refine S.pure tOk zOk rfl rfl rfl ?_
    refine S.call rfl rfl rfl rfl rfl (pc_ver_Check ⟨v.a, w1 v.b, 0, []⟩ (by decide : ([] : List UInt8).length < _)) ?_
    refine S.pure tOk zOk rfl rfl rfl ?_
    refine thenK_n ?_
    refine W.cond rfl (fun c5 => ?_) (fun c5 => ?_)
    ·skip
     refine W.seq ?_
     refine W.region ?_
     refine S.pure tOk zOk rfl rfl rfl ?_
     refine S.store tOk rfl rfl rfl rfl rfl rfl rfl rfl ?_
     refine S.pure tOk zOk rfl rfl rfl ?_
     refine thenK_n ?_
     refine W.ret ?_
     refine thenK_r ?_
     exact ⟨_, rfl, rfl, LeV.of_force rfl (by simp_all [nextB, nextOk, Ver.check, Ver.z, w1, verV])⟩
    ·skip
     refine W.skip ?_
     refine thenK_n ?_
     refine W.seq ?_
     refine W.region ?_
     refine S.pure tOk zOk rfl rfl rfl ?_
     refine S.store tOk rfl rfl rfl rfl rfl rfl rfl rfl ?_
     refine S.pure tOk zOk rfl rfl rfl ?_
     refine thenK_n ?_
     refine W.ret ?_
     exact ⟨_, rfl, rfl, LeV.of_force rfl (by simp_all [nextB, nextOk, Ver.check, Ver.z, w1, verV])⟩
   ·skip
    refine W.seq ?_
    refine W.region ?_
    refine S.pure tOk zOk rfl rfl rfl ?_
    refine S.pure tOk zOk rfl rfl rfl ?_
    refine S.pure tOk zOk rfl rfl rfl ?_
    refine S.pureG tOk zOk rfl rfl tg (fun _ => rfl) rfl ?_
    refine S.pureG tOk zOk rfl rfl tg (fun _ => rfl) rfl ?_
    refine S.pureG tOk zOk rfl rfl tg (fun _ => rfl) rfl ?_
    refine S.pickAnd tOk zOk rfl rfl tg ?_
    refine S.pure tOk zOk rfl rfl rfl ?_
    refine thenK_n ?_
    refine W.cond rfl (fun c6 => ?_) (fun c6 => ?_)
    ·skip
     refine W.region ?_
     refine S.pure tOk zOk rfl rfl rfl ?_
     refine S.pure tOk zOk rfl rfl rfl ?_
     refine S.pure tOk zOk rfl rfl rfl ?_
     refine S.pure tOk zOk rfl rfl rfl ?_
     refine S.store tOk rfl rfl rfl rfl rfl rfl rfl rfl ?_
     refine blockK_n ?_
     refine thenK_n ?_
     refine W.seq ?_
     refine W.seq ?_
     refine W.region ?_
     refine S.pure tOk zOk rfl rfl rfl ?_
     refine S.call rfl rfl rfl rfl rfl (pc_ver_Check ⟨v.a, v.b, w1 v.c, []⟩ (by decide : ([] : List UInt8).length < _)) ?_
     refine S.pure tOk zOk rfl rfl rfl ?_
     refine thenK_n ?_
     refine W.cond rfl (fun c7 => ?_) (fun c7 => ?_)
     ·skip
      refine W.seq ?_
      refine W.region ?_
      refine S.pure tOk zOk rfl rfl rfl ?_
      refine S.store tOk rfl rfl rfl rfl rfl rfl rfl rfl ?_
      refine S.pure tOk zOk rfl rfl rfl ?_
      refine thenK_n ?_
      refine W.ret ?_
      refine thenK_r ?_
      exact ⟨_, rfl, rfl, LeV.of_force rfl (by simp_all [nextB, nextOk, Ver.check, Ver.z, w1, verV])⟩
     ·skip
      refine W.skip ?_
      refine thenK_n ?_
      refine W.seq ?_
      refine W.region ?_
      refine S.pure tOk zOk rfl rfl rfl ?_
      refine S.store tOk rfl rfl rfl rfl rfl rfl rfl rfl ?_
      refine S.pure tOk zOk rfl rfl rfl ?_
      refine thenK_n ?_
      refine W.ret ?_
      exact ⟨_, rfl, rfl, LeV.of_force rfl (by simp_all [nextB, nextOk, Ver.check, Ver.z, w1, verV])⟩
    ·skip
     refine W.seq ?_
     refine W.region ?_
     refine S.pure tOk zOk rfl rfl rfl ?_
     refine S.pure tOk zOk rfl rfl rfl ?_
     refine S.pure tOk zOk rfl rfl rfl ?_
     refine thenK_n ?_
     refine W.cond rfl (fun c8 => ?_) (fun c8 => ?_)
     ·skip
      refine W.seq ?_
      refine W.region ?_
      refine S.pure tOk zOk rfl rfl rfl ?_
      refine S.store tOk rfl rfl rfl rfl rfl rfl rfl rfl ?_
      refine S.pure tOk zOk rfl rfl rfl ?_
      refine thenK_n ?_
      refine W.ret ?_
      refine blockK_r ?_
      refine thenK_r ?_
      exact ⟨_, rfl, rfl, LeV.of_force rfl (by simp_all [nextB, nextOk, Ver.check, Ver.z, w1, verV])⟩
     ·skip
      refine W.skip ?_
      refine blockK_n ?_
      refine thenK_n ?_
      refine W.seq ?_
      refine W.seq ?_
      refine W.region ?_
      refine S.pure tOk zOk rfl rfl rfl ?_
      refine S.call rfl rfl rfl rfl rfl (pc_ver_Check ⟨v.a, v.b, v.c, []⟩ (by decide : ([] : List UInt8).length < _)) ?_
      refine S.pure tOk zOk rfl rfl rfl ?_
      refine thenK_n ?_
      refine W.cond rfl (fun c9 => ?_) (fun c9 => ?_)
      ·skip
       refine W.seq ?_
       refine W.region ?_
       refine S.pure tOk zOk rfl rfl rfl ?_
       refine S.store tOk rfl rfl rfl rfl rfl rfl rfl rfl ?_
       refine S.pure tOk zOk rfl rfl rfl ?_
       refine thenK_n ?_
       refine W.ret ?_
       refine thenK_r ?_
       exact ⟨_, rfl, rfl, LeV.of_force rfl (by simp_all [nextB, nextOk, Ver.check, Ver.z, w1, verV])⟩
      ·skip
       refine W.skip ?_
       refine thenK_n ?_
       refine W.seq ?_
       refine W.region ?_
       refine S.pure tOk zOk rfl rfl rfl ?_
       refine S.store tOk rfl rfl rfl rfl rfl rfl rfl rfl ?_
       refine S.pure tOk zOk rfl rfl rfl ?_
       refine thenK_n ?_
       refine W.ret ?_
       exact ⟨_, rfl, rfl, LeV.of_force rfl (by simp_all [nextB, nextOk, Ver.check, Ver.z, w1, verV])⟩
theorem pc_ver_Parse (s : List UInt8) (hs : s.length < 4294967281) :
  PureCall Tryz.prog J 223 [.one (.d (.str s))] (.tup [verV (parseB s).1, .one (.d (.int .i64 (parseB s).2))]) := by
 have hc := cut_le s [45]
 have hm := fun i => @split_at (Lib.cut s [45]).1 [46] i
 have hsp := pc_Split (Lib.cut s [45]).1 [46] (by omega) (by decide)
 unfold parseB
 generalize hws : Lib.split (Lib.cut s [45]).1 [46] = ws at hm hsp ⊢
 refine PureCall.of_body tOk (fn := Tryz.f223) Tryz.func223 (by kernel_rfl) rfl (Nat.le_of_ble_eq_true rfl) (fun E => ?_)
 refine W.seq ?_
 refine W.region ?_
 refine S.alloc tOk rfl rfl rfl rfl ?_
 refine S.pure tOk zOk rfl rfl rfl ?_
 refine thenK_n ?_
 refine W.seq ?_
 refine W.region ?_
 refine S.pure tOk zOk rfl rfl rfl ?_
 refine S.call rfl rfl rfl rfl rfl (pc_Cut _ _ hs) ?_
 refine S.pure tOk zOk rfl rfl rfl ?_
 refine S.pure tOk zOk rfl rfl rfl ?_
 refine S.pure tOk zOk rfl rfl rfl ?_
 refine S.pure tOk zOk rfl rfl rfl ?_
 refine S.pure tOk zOk rfl rfl rfl ?_
 refine S.pure tOk zOk rfl rfl rfl ?_
 refine S.pure tOk zOk rfl rfl rfl ?_
 refine thenK_n ?_
 refine W.seq ?_
 refine W.region ?_
 refine S.pure tOk zOk rfl rfl rfl ?_
 refine S.call rfl rfl rfl rfl rfl (hsp) ?_
 refine S.pure tOk zOk rfl rfl rfl ?_
 refine thenK_n ?_
 refine W.seq ?_
 refine W.seq ?_
 refine W.region ?_
 refine S.pure tOk zOk rfl rfl rfl ?_
 refine S.pure tOk zOk rfl rfl rfl ?_
 refine S.pure tOk zOk rfl rfl rfl ?_
 refine S.pure tOk zOk rfl rfl rfl ?_
 refine S.pureG tOk zOk rfl rfl tg (fun _ => rfl) rfl ?_
 refine S.pureG tOk zOk rfl rfl tg (fun _ => rfl) rfl ?_
 refine S.pureG tOk zOk rfl rfl tg (fun _ => rfl) rfl ?_
 refine S.pureG tOk zOk rfl rfl tg (fun _ => rfl) rfl ?_
 refine S.pickAndG tOk zOk rfl rfl rfl tg tg ?_
 refine S.pickOr tOk zOk rfl rfl tg ?_
 refine thenK_n ?_
 refine W.cond rfl (fun c1 => ?_) (fun c1 => ?_)
 ·skip
  refine W.seq ?_
  refine W.region ?_
  refine S.pure tOk zOk rfl rfl rfl ?_
  refine S.store tOk rfl rfl rfl rfl rfl rfl rfl rfl ?_
  refine S.pure tOk zOk rfl rfl rfl ?_
  refine thenK_n ?_
  refine W.ret ?_
  refine thenK_r ?_
  exact ⟨_, rfl, rfl, LeV.of_force rfl (by simp_all [parseW, verV, Ver.z])⟩
 ·skip
  have h3 : ws.length = 3 := by simp at c1; omega
  obtain ⟨p, q, r, rfl⟩ := three h3
  refine W.skip ?_
  refine thenK_n ?_
  refine W.seq ?_
  refine W.region ?_
  refine S.alloc tOk rfl rfl rfl rfl ?_
  refine thenK_n ?_
  refine W.seq ?_
  refine W.seq ?_
  refine W.region ?_
  refine S.pure tOk zOk rfl rfl rfl ?_
  refine S.pure tOk zOk rfl rfl rfl ?_
  refine S.pure tOk zOk rfl rfl rfl ?_
  refine thenK_n ?_
  refine W.block ?_
  refine W.rounds 4 ?_
  refine WR.succ ?_
  refine W.seq ?_
  refine W.region ?_
  refine S.pure tOk zOk rfl rfl rfl ?_
  refine thenK_n ?_
  refine W.seq ?_
  refine W.condT rfl rfl ?_
  refine W.skip ?_
  refine thenK_n ?_
  refine W.seq ?_
  refine W.block ?_
  refine W.seq ?_
  refine W.region ?_
  refine S.pure tOk zOk rfl rfl rfl ?_
  refine S.pure tOk zOk rfl (by first | rfl | exact idx_ok (by omega) (by omega)) rfl ?_
  refine S.pure tOk zOk rfl rfl rfl ?_
  refine S.pure tOk zOk rfl rfl rfl ?_
  refine S.pure tOk zOk rfl rfl rfl ?_
  refine thenK_n ?_
  refine W.seq ?_
  refine W.region ?_
  refine S.pure tOk zOk rfl rfl rfl ?_
  refine S.call rfl rfl rfl rfl rfl (pc_ver_number _ (by first | (have := hm 0; simp at this; omega) | (have := hm 1; simp at this; omega) | (have := hm 2; simp at this; omega))) ?_
  refine S.pure tOk zOk rfl rfl rfl ?_
  refine S.pure tOk zOk rfl rfl rfl ?_
  refine S.pure tOk zOk rfl rfl rfl ?_
  refine S.pure tOk zOk rfl rfl rfl ?_
  refine S.pure tOk zOk rfl rfl rfl ?_
  refine thenK_n ?_
  refine W.seq ?_
  refine W.seq ?_
  refine W.region ?_
  refine S.pure tOk zOk rfl rfl rfl ?_
  refine S.pure tOk zOk rfl rfl rfl ?_
  refine thenK_n ?_
  refine W.cond rfl (fun c3 => ?_) (fun c3 => ?_)
  ·skip
   refine W.seq ?_
   refine W.region ?_
   refine S.pure tOk zOk rfl rfl rfl ?_
   refine S.store tOk rfl rfl rfl rfl rfl rfl rfl rfl ?_
   refine S.pure tOk zOk rfl rfl rfl ?_
   refine thenK_n ?_
   refine W.ret ?_
   refine thenK_r ?_
   refine blockK_r ?_
   refine thenK_r ?_
   refine thenK_r ?_
   refine blockK_r ?_
   refine thenK_r ?_
   exact ⟨_, rfl, rfl, LeV.of_force rfl (by rw [parse_ok c1]; clear c1; simp_all [threeB, verV, Ver.z, Ver.check])⟩
  ·skip
   refine W.skip ?_
   refine thenK_n ?_
   refine W.region ?_
   refine S.pure tOk zOk rfl rfl rfl ?_
   refine S.pure tOk zOk rfl rfl rfl ?_
   refine S.pure tOk zOk rfl (by first | rfl | exact idx_ok (by omega) (by omega)) rfl ?_
   refine S.store tOk rfl rfl rfl rfl rfl rfl rfl rfl ?_
   refine blockK_n ?_
   refine thenK_n ?_
   refine W.region ?_
   refine S.pure tOk zOk rfl rfl rfl ?_
   refine S.pure tOk zOk rfl rfl rfl ?_
   refine thenK_n ?_
   refine WR.succ ?_
   refine W.seq ?_
   refine W.region ?_
   refine S.pure tOk zOk rfl rfl rfl ?_
   refine thenK_n ?_
   refine W.seq ?_
   refine W.condT rfl rfl ?_
   refine W.skip ?_
   refine thenK_n ?_
   refine W.seq ?_
   refine W.block ?_
   refine W.seq ?_
   refine W.region ?_
   refine S.pure tOk zOk rfl rfl rfl ?_
   refine S.pure tOk zOk rfl (by first | rfl | exact idx_ok (by omega) (by omega)) rfl ?_
   refine S.pure tOk zOk rfl rfl rfl ?_
   refine S.pure tOk zOk rfl rfl rfl ?_
   refine S.pure tOk zOk rfl rfl rfl ?_
   refine thenK_n ?_
   refine W.seq ?_
   refine W.region ?_
   refine S.pure tOk zOk rfl rfl rfl ?_
   refine S.call rfl rfl rfl rfl rfl (pc_ver_number _ (by first | (have := hm 0; simp at this; omega) | (have := hm 1; simp at this; omega) | (have := hm 2; simp at this; omega))) ?_
   refine S.pure tOk zOk rfl rfl rfl ?_
   refine S.pure tOk zOk rfl rfl rfl ?_
   refine S.pure tOk zOk rfl rfl rfl ?_
   refine S.pure tOk zOk rfl rfl rfl ?_
   refine S.pure tOk zOk rfl rfl rfl ?_
   refine thenK_n ?_
   refine W.seq ?_
   refine W.seq ?_
   refine W.region ?_
   refine S.pure tOk zOk rfl rfl rfl ?_
   refine S.pure tOk zOk rfl rfl rfl ?_
   refine thenK_n ?_
   refine W.cond rfl (fun c5 => ?_) (fun c5 => ?_)
   ·skip
    refine W.seq ?_
    refine W.region ?_
    refine S.pure tOk zOk rfl rfl rfl ?_
    refine S.store tOk rfl rfl rfl rfl rfl rfl rfl rfl ?_
    refine S.pure tOk zOk rfl rfl rfl ?_
    refine thenK_n ?_
    refine W.ret ?_
    refine thenK_r ?_
    refine blockK_r ?_
    refine thenK_r ?_
    refine thenK_r ?_
    refine blockK_r ?_
    refine thenK_r ?_
    exact ⟨_, rfl, rfl, LeV.of_force rfl (by rw [parse_ok c1]; clear c1; simp_all [threeB, verV, Ver.z, Ver.check])⟩
   ·skip
    refine W.skip ?_
    refine thenK_n ?_
    refine W.region ?_
    refine S.pure tOk zOk rfl rfl rfl ?_
    refine S.pure tOk zOk rfl rfl rfl ?_
    refine S.pure tOk zOk rfl (by first | rfl | exact idx_ok (by omega) (by omega)) rfl ?_
    refine S.store tOk rfl rfl rfl rfl rfl rfl rfl rfl ?_
    refine blockK_n ?_
    refine thenK_n ?_
    refine W.region ?_
    refine S.pure tOk zOk rfl rfl rfl ?_
    refine S.pure tOk zOk rfl rfl rfl ?_
    refine thenK_n ?_
    refine WR.succ ?_
    refine W.seq ?_
    refine W.region ?_
    refine S.pure tOk zOk rfl rfl rfl ?_
    refine thenK_n ?_
    refine W.seq ?_
    refine W.condT rfl rfl ?_
    refine W.skip ?_
    refine thenK_n ?_
    refine W.seq ?_
    refine W.block ?_
    refine W.seq ?_
    refine W.region ?_
    refine S.pure tOk zOk rfl rfl rfl ?_
    refine S.pure tOk zOk rfl (by first | rfl | exact idx_ok (by omega) (by omega)) rfl ?_
    refine S.pure tOk zOk rfl rfl rfl ?_
    refine S.pure tOk zOk rfl rfl rfl ?_
    refine S.pure tOk zOk rfl rfl rfl ?_
    refine thenK_n ?_
    refine W.seq ?_
    refine W.region ?_
    refine S.pure tOk zOk rfl rfl rfl ?_
    refine S.call rfl rfl rfl rfl rfl (pc_ver_number _ (by first | (have := hm 0; simp at this; omega) | (have := hm 1; simp at this; omega) | (have := hm 2; simp at this; omega))) ?_
    refine S.pure tOk zOk rfl rfl rfl ?_
    refine S.pure tOk zOk rfl rfl rfl ?_
    refine S.pure tOk zOk rfl rfl rfl ?_
    refine S.pure tOk zOk rfl rfl rfl ?_
    refine S.pure tOk zOk rfl rfl rfl ?_
    refine thenK_n ?_
    refine W.seq ?_
    refine W.seq ?_
    refine W.region ?_
    refine S.pure tOk zOk rfl rfl rfl ?_
    refine S.pure tOk zOk rfl rfl rfl ?_
    refine thenK_n ?_
    refine W.cond rfl (fun c7 => ?_) (fun c7 => ?_)
    ·skip
     refine W.seq ?_
     refine W.region ?_
     refine S.pure tOk zOk rfl rfl rfl ?_
     refine S.store tOk rfl rfl rfl rfl rfl rfl rfl rfl ?_
     refine S.pure tOk zOk rfl rfl rfl ?_
     refine thenK_n ?_
     refine W.ret ?_
     refine thenK_r ?_
     refine blockK_r ?_
     refine thenK_r ?_
     refine thenK_r ?_
     refine blockK_r ?_
     refine thenK_r ?_
     exact ⟨_, rfl, rfl, LeV.of_force rfl (by rw [parse_ok c1]; clear c1; simp_all [threeB, verV, Ver.z, Ver.check])⟩
    ·skip
     refine W.skip ?_
     refine thenK_n ?_
     refine W.region ?_
     refine S.pure tOk zOk rfl rfl rfl ?_
     refine S.pure tOk zOk rfl rfl rfl ?_
     refine S.pure tOk zOk rfl (by first | rfl | exact idx_ok (by omega) (by omega)) rfl ?_
     refine S.store tOk rfl rfl rfl rfl rfl rfl rfl rfl ?_
     refine blockK_n ?_
     refine thenK_n ?_
     refine W.region ?_
     refine S.pure tOk zOk rfl rfl rfl ?_
     refine S.pure tOk zOk rfl rfl rfl ?_
     refine thenK_n ?_
     refine WR.succ ?_
     refine W.seq ?_
     refine W.region ?_
     refine S.pure tOk zOk rfl rfl rfl ?_
     refine thenK_n ?_
     refine W.seq ?_
     refine W.condF rfl rfl ?_
     refine W.exit ?_
     refine thenK_e ?_
     refine thenK_e ?_
     refine blockK_x ?_
     refine thenK_n ?_
     refine W.seq ?_
     refine W.region ?_
     refine S.pure tOk zOk rfl (by first | rfl | exact idx_ok (by omega) (by omega)) rfl ?_
     refine S.pure tOk zOk rfl rfl rfl ?_
     refine S.pure tOk zOk rfl (by first | rfl | exact idx_ok (by omega) (by omega)) rfl ?_
     refine S.pure tOk zOk rfl rfl rfl ?_
     refine S.pure tOk zOk rfl (by first | rfl | exact idx_ok (by omega) (by omega)) rfl ?_
     refine S.pure tOk zOk rfl rfl rfl ?_
     refine S.pure tOk zOk rfl rfl rfl ?_
     refine S.pure tOk zOk rfl rfl rfl ?_
     refine S.alloc tOk rfl rfl rfl rfl ?_
     refine S.store tOk rfl rfl rfl rfl rfl rfl rfl rfl ?_
     refine thenK_n ?_
     refine W.seq ?_
     refine W.seq ?_
     refine W.region ?_
     refine S.pure tOk zOk rfl rfl rfl ?_
     refine S.call rfl rfl rfl rfl rfl (pc_ver_Check ⟨(numB p).1, (numB q).1, (numB r).1, (Lib.cut s [45]).2.1⟩ (by show (Lib.cut s [45]).2.1.length < _; omega)) ?_
     refine S.pure tOk zOk rfl rfl rfl ?_
     refine thenK_n ?_
     refine W.seq ?_
     refine W.region ?_
     refine S.pure tOk zOk rfl rfl rfl ?_
     refine S.pure tOk zOk rfl rfl rfl ?_
     refine thenK_n ?_
     refine W.cond rfl (fun c9 => ?_) (fun c9 => ?_)
     ·skip
      refine W.seq ?_
      refine W.region ?_
      refine S.pure tOk zOk rfl rfl rfl ?_
      refine S.pure tOk zOk rfl rfl rfl ?_
      refine S.store tOk rfl rfl rfl rfl rfl rfl rfl rfl ?_
      refine S.pure tOk zOk rfl rfl rfl ?_
      refine thenK_n ?_
      refine W.ret ?_
      refine thenK_r ?_
      exact ⟨_, rfl, rfl, LeV.of_force rfl (by rw [parse_ok c1]; clear c1; simp_all [threeB, verV, Ver.z, Ver.check])⟩
     ·skip
      refine W.skip ?_
      refine thenK_n ?_
      refine W.seq ?_
      refine W.region ?_
      refine S.pure tOk zOk rfl rfl rfl ?_
      refine S.store tOk rfl rfl rfl rfl rfl rfl rfl rfl ?_
      refine S.pure tOk zOk rfl rfl rfl ?_
      refine thenK_n ?_
      refine W.ret ?_
      exact ⟨_, rfl, rfl, LeV.of_force rfl (by rw [parse_ok c1]; clear c1; simp_all [threeB, verV, Ver.z, Ver.check])⟩
end Go.Proofs.YtcchfmilleffjaaGreatDoor
namespace Go.Proofs.YtcchfmilleffjaaGreatDoor
open Go
end Go.Proofs.YtcchfmilleffjaaGreatDoor
namespace Go.Proofs.YtcchfmilleffjaaGreatDoor
open Go
open Go.RowKit
end Go.Proofs.YtcchfmilleffjaaGreatDoor
namespace Go.Proofs.YtcchfmilleffjaaGreatDoor
open Go
theorem index_none {c : UInt8} : ∀ {s : List UInt8}, c ∉ s → Lib.index s [c] = -1
  | [], _ => rfl
  | b :: l, h => by
    have h1 : c ≠ b := fun e => h (e ▸ List.mem_cons_self ..)
    have h2 := index_none (s := l) (fun e => h (List.mem_cons_of_mem _ e))
    have hp : List.isPrefixOf [c] (b :: l) = false := by simp [List.isPrefixOf, h1]
    unfold Lib.index
    rw [hp, h2]; rfl
theorem index_at {c : UInt8} {y : List UInt8} : ∀ {x : List UInt8}, c ∉ x → Lib.index (x ++ c :: y) [c] = x.length
  | [], _ => by
    have hp : List.isPrefixOf [c] (c :: y) = true := by simp [List.isPrefixOf]
    show Lib.index (c :: y) [c] = 0
    unfold Lib.index
    rw [hp]; rfl
  | b :: l, h => by
    have h1 : c ≠ b := fun e => h (e ▸ List.mem_cons_self ..)
    have h2 := index_at (x := l) (y := y) (fun e => h (List.mem_cons_of_mem _ e))
    have hp : List.isPrefixOf [c] (b :: (l ++ c :: y)) = false := by simp [List.isPrefixOf, h1]
    show Lib.index (b :: (l ++ c :: y)) [c] = _
    unfold Lib.index
    rw [hp, h2]
    simp only [List.length_cons, Bool.false_eq_true, if_false]
    rw [if_neg (by simp)]
    rfl
theorem countFrom_fuel {sub : List UInt8} (hs : sub ≠ []) : ∀ (f g : Nat) (s : List UInt8), s.length < f → s.length < g → Lib.countFrom sub f s = Lib.countFrom sub g s
  | 0, _, _, h, _ => absurd h (Nat.not_lt_zero _)
  | _ + 1, 0, _, _, h => absurd h (Nat.not_lt_zero _)
  | f + 1, g + 1, s, h1, h2 => by
    unfold Lib.countFrom
    split
    · rfl
    · rename_i hi
      have h0 : 0 ≤ Lib.index s sub := by
        rcases Lib.index_spec s sub with h | ⟨i, h, _⟩
        · simp [h.1] at hi
        · omega
      have hr := Lib.index_room s sub h0
      have hl : 1 ≤ sub.length := by cases sub with | nil => exact absurd rfl hs | cons a l => simp
      rw [countFrom_fuel hs f g _ (by simp; omega) (by simp; omega)]
theorem split_none {c : UInt8} {s : List UInt8} (h : c ∉ s) : Lib.split s [c] = [s] := by
  have : Lib.count s [c] = 0 := by simp [Lib.count, Lib.countFrom, index_none h]
  unfold Lib.split
  rw [this]; rfl
theorem split_cons {c : UInt8} {x y : List UInt8} (h : c ∉ x) : Lib.split (x ++ c :: y) [c] = x :: Lib.split y [c] := by
  have hi := index_at (y := y) h
  have hm : ¬ (Lib.index (x ++ c :: y) [c] == -1) = true := by rw [hi]; simp
  have e1 : ((x.length : Int)).toNat = x.length := by omega
  have hd : (x ++ c :: y).drop (x.length + [c].length) = y := by
    have e2 : x.length + [c].length = (x ++ [c]).length := by simp
    have e3 : x ++ c :: y = (x ++ [c]) ++ y := by simp
    rw [e2, e3, List.drop_left]
  have hc : Lib.count (x ++ c :: y) [c] = Lib.count y [c] + 1 := by
    unfold Lib.count
    rw [Lib.countFrom, if_neg hm, hi, e1, hd, Nat.add_comm 1]
    rw [countFrom_fuel (by simp) _ (y.length + 1) y (by simp; omega) (by omega)]
  unfold Lib.split
  rw [hc, Lib.splitK, if_neg hm, hi, e1, hd]
  simp
end Go.Proofs.YtcchfmilleffjaaGreatDoor
namespace Go.Proofs.YtcchfmilleffjaaGreatDoor
open Go
theorem cmp_refl (x : Int) : Lib.compareInt x x = 0 := by unfold Lib.compareInt; rw [if_neg (by omega), if_neg (by omega)]
theorem cmp_lt {x y : Int} (h : x < y) : Lib.compareInt x y = -1 := by unfold Lib.compareInt; rw [if_pos h]
theorem cmp_gt {x y : Int} (h : y < x) : Lib.compareInt x y = 1 := by unfold Lib.compareInt; rw [if_neg (by omega), if_pos h]
theorem bytes_refl : ∀ (l : List UInt8), Lib.compareBytes l l = 0
  | [] => rfl
  | a :: l => by
    unfold Lib.compareBytes
    rw [if_neg (by show ¬ a.toNat < a.toNat; omega), if_neg (by show ¬ a.toNat < a.toNat; omega)]
    exact bytes_refl l
theorem cwB_refl (p : List UInt8) : cwB p p = 0 := by
  unfold cwB
  cases numeralB p <;> simp [bytes_refl]
theorem rows_refl (xs : List (List UInt8)) : rowsB xs xs = 0 := by
  have : firstNe (List.zipWith cwB xs xs) = 0 := by
    unfold firstNe
    rw [List.find?_eq_none.2]
    · rfl
    · intro x hx
      have : ∀ (l : List (List UInt8)), ∀ x ∈ List.zipWith cwB l l, x = 0 := by
        intro l
        induction l with
        | nil => simp
        | cons a l ih => intro x hx; simp only [List.zipWith_cons_cons, List.mem_cons, cwB_refl] at hx; exact hx.elim id (ih x)
      simp [this xs x hx]
  rw [rowsB, this, cmp_refl]; rfl
end Go.Proofs.YtcchfmilleffjaaGreatDoor
namespace Go.Proofs.YtcchfmilleffjaaGreatDoor
open Go
open Go.RowKit
end Go.Proofs.YtcchfmilleffjaaGreatDoor
namespace Go.Proofs.YtcchfmilleffjaaGreatDoor
open Go
def firstB (a b : Int) : Int := if a != 0 then a else b
theorem first2 (a b : Int) : firstNe [a, b] = firstB a b := by
  unfold firstNe firstB
  by_cases ha : a = 0 <;> by_cases hb : b = 0 <;> simp [ha, hb, bne_iff_ne]
theorem first1 (a : Int) : firstNe [a] = a := by
  unfold firstNe
  by_cases ha : a = 0 <;> simp [ha, bne_iff_ne]
end Go.Proofs.YtcchfmilleffjaaGreatDoor
namespace Go.Proofs.YtcchfmilleffjaaGreatDoor
open Go
open Go.RowKit
end Go.Proofs.YtcchfmilleffjaaGreatDoor
namespace Go.Proofs.YtcchfmilleffjaaGreatDoor
open Go
structure Sp where
  hf : Bool
  ht : Bool
  f : Ver
  t : Ver
  deriving DecidableEq
def Sp.z : Sp := ⟨false, false, Ver.z, Ver.z⟩
def Ver.eqb (v w : Ver) : Bool := v.a == w.a && (v.b == w.b && (v.c == w.c && (v.e == w.e && true)))
def spanE (s : Sp) : Int :=
  if (!(s.f.eqb Ver.z) && !s.hf) || (!(s.t.eqb Ver.z) && !s.ht) then 2
  else if s.hf && s.f.check != 0 then s.f.check
  else if s.ht && s.t.check != 0 then s.t.check
  else if (s.hf && s.ht) && decide (orderB s.f s.t ≥ 0) then 7 else 0
section
variable {s : Sp}
theorem spE_form (h1 : ((!(s.f.eqb Ver.z) && !s.hf) || (!(s.t.eqb Ver.z) && !s.ht)) = true) : spanE s = 2 := if_pos h1
theorem spE_f (h1 : ((!(s.f.eqb Ver.z) && !s.hf) || (!(s.t.eqb Ver.z) && !s.ht)) = false) (h2 : (s.hf && s.f.check != 0) = true) : spanE s = s.f.check := by
  rw [spanE, if_neg (Bool.eq_false_iff.1 h1), if_pos h2]
theorem spE_t (h1 : ((!(s.f.eqb Ver.z) && !s.hf) || (!(s.t.eqb Ver.z) && !s.ht)) = false) (h2 : (s.hf && s.f.check != 0) = false) (h3 : (s.ht && s.t.check != 0) = true) : spanE s = s.t.check := by
  rw [spanE, if_neg (Bool.eq_false_iff.1 h1), if_neg (Bool.eq_false_iff.1 h2), if_pos h3]
theorem spE_o (h1 : ((!(s.f.eqb Ver.z) && !s.hf) || (!(s.t.eqb Ver.z) && !s.ht)) = false) (h2 : (s.hf && s.f.check != 0) = false) (h3 : (s.ht && s.t.check != 0) = false) (h4 : ((s.hf && s.ht) && decide (orderB s.f s.t ≥ 0)) = true) : spanE s = 7 := by
  rw [spanE, if_neg (Bool.eq_false_iff.1 h1), if_neg (Bool.eq_false_iff.1 h2), if_neg (Bool.eq_false_iff.1 h3), if_pos h4]
theorem spE_ok (h1 : ((!(s.f.eqb Ver.z) && !s.hf) || (!(s.t.eqb Ver.z) && !s.ht)) = false) (h2 : (s.hf && s.f.check != 0) = false) (h3 : (s.ht && s.t.check != 0) = false) (h4 : ((s.hf && s.ht) && decide (orderB s.f s.t ≥ 0)) = false) : spanE s = 0 := by
  rw [spanE, if_neg (Bool.eq_false_iff.1 h1), if_neg (Bool.eq_false_iff.1 h2), if_neg (Bool.eq_false_iff.1 h3), if_neg (Bool.eq_false_iff.1 h4)]
end
def behindE (p s : Sp) : Int := if (!p.ht || !s.hf) || decide (orderB s.f p.t ≤ 0) then 7 else 0
def spAt (ss : List Sp) (i : Nat) : Int :=
  if spanE (ss.getD i Sp.z) != 0 then spanE (ss.getD i Sp.z) else if (i : Int) == 0 then 0 else behindE (ss.getD (i - 1) Sp.z) (ss.getD i Sp.z)
def rangeE (ss : List Sp) : Int := if decide ((ss.length : Int) > 10) then 4 else firstNe ((List.range ss.length).map (spAt ss))
theorem spAt_get {ss : List Sp} {i : Nat} (hi : i < ss.length) : ((List.range ss.length).map (spAt ss)).getD i 0 = spAt ss i := by
  simp [List.getD, hi]
theorem spAt_go {ss : List Sp} {i : Nat} (hi : i < ss.length) (h : spAt ss i = 0) : (((List.range ss.length).map (spAt ss)).getD i 0 == 0) = true := by
  rw [spAt_get hi, h]; rfl
theorem spAt_hit {ss : List Sp} {i : Nat} {n : Int} (hi : i < ss.length) (ht : (((List.range ss.length).map (spAt ss)).take i).all (· == 0) = true) (h : spAt ss i = n) (hn : n ≠ 0) : firstNe ((List.range ss.length).map (spAt ss)) = n := by
  rw [firstNe_hit (by simpa using hi) ht (by rw [spAt_get hi, h]; exact hn), spAt_get hi, h]
theorem rangeE_large {ss : List Sp} (h : decide ((ss.length : Int) > 10) = true) : rangeE ss = 4 := if_pos h
theorem rangeE_list {ss : List Sp} (h : decide ((ss.length : Int) > 10) = false) : rangeE ss = firstNe ((List.range ss.length).map (spAt ss)) := if_neg (Bool.eq_false_iff.1 h)
theorem spAt_own {ss : List Sp} {i : Nat} (h : (spanE (ss.getD i Sp.z) != 0) = true) : spAt ss i = spanE (ss.getD i Sp.z) := if_pos h
theorem spAt_first {ss : List Sp} {i : Nat} (h : (spanE (ss.getD i Sp.z) != 0) = false) (h0 : ((i : Int) == 0) = true) : spAt ss i = 0 := by
  rw [spAt, if_neg (Bool.eq_false_iff.1 h), if_pos h0]
theorem spAt_bad {ss : List Sp} {i : Nat} (h : (spanE (ss.getD i Sp.z) != 0) = false) (h0 : ((i : Int) == 0) = false)
    (hb : ((!(ss.getD (i - 1) Sp.z).ht || !(ss.getD i Sp.z).hf) || decide (orderB (ss.getD i Sp.z).f (ss.getD (i - 1) Sp.z).t ≤ 0)) = true) : spAt ss i = 7 := by
  rw [spAt, if_neg (Bool.eq_false_iff.1 h), if_neg (Bool.eq_false_iff.1 h0), behindE, if_pos hb]
theorem spAt_ok {ss : List Sp} {i : Nat} (h : (spanE (ss.getD i Sp.z) != 0) = false) (h0 : ((i : Int) == 0) = false)
    (hb : ((!(ss.getD (i - 1) Sp.z).ht || !(ss.getD i Sp.z).hf) || decide (orderB (ss.getD i Sp.z).f (ss.getD (i - 1) Sp.z).t ≤ 0)) = false) : spAt ss i = 0 := by
  rw [spAt, if_neg (Bool.eq_false_iff.1 h), if_neg (Bool.eq_false_iff.1 h0), behindE, if_neg (Bool.eq_false_iff.1 hb)]
def SpLen (s : Sp) : Prop := s.f.e.length < 4294967281 ∧ s.t.e.length < 4294967281
theorem sp_at {ss : List Sp} {i : Nat} (hv : ∀ s ∈ ss, SpLen s) (hi : i < ss.length) : SpLen (ss.getD i Sp.z) := by
  rw [List.getD_eq_getElem?_getD, List.getElem?_eq_getElem hi]
  exact hv _ (List.getElem_mem hi)
structure It where
  sign : Int
  first : List UInt8
  last : List UInt8
def rowB (s : List UInt8) : Bool := !(Lib.contains s [32])
def wrongB (s : List UInt8) : Bool := (parseB s).2 == 8
def SpOk (s : Sp) : Prop := VerOk s.f ∧ VerOk s.t
theorem take_snoc2 {α β γ : Type} {f : β → γ} {p : α → β} {l : List α} {i : Nat} (d : α) (h : i < l.length) : ((l.take i).map p).map f ++ [f (p (l.getD i d))] = ((l.take (i + 1)).map p).map f := by
  rw [List.take_add_one, List.getElem?_eq_getElem h, List.map_append, List.map_append]
  simp [List.getD, List.getElem?_eq_getElem h]
end Go.Proofs.YtcchfmilleffjaaGreatDoor
namespace Go.Proofs.YtcchfmilleffjaaGreatDoor
open Go Go.RowKit
def spD (s : Sp) : List D := [.bool s.hf, .bool s.ht, .int .i64 s.f.a, .int .i64 s.f.b, .int .i64 s.f.c, .str s.f.e, .int .i64 s.t.a, .int .i64 s.t.b, .int .i64 s.t.c, .str s.t.e]
def spV (s : Sp) : V := .agg [.d (.bool s.hf), .d (.bool s.ht), .d (.int .i64 s.f.a), .d (.int .i64 s.f.b), .d (.int .i64 s.f.c), .d (.str s.f.e), .d (.int .i64 s.t.a), .d (.int .i64 s.t.b), .d (.int .i64 s.t.c), .d (.str s.t.e)]
def rgV (ss : List Sp) : V := .agg [.d (.vec 10 (ss.map spD))]
end Go.Proofs.YtcchfmilleffjaaGreatDoor
namespace Go.Proofs.YtcchfmilleffjaaGreatDoor
open Go
open Go.RowKit
theorem pc_ver_spanFault (s : Sp) (h1 : s.f.e.length < 4294967281) (h2 : s.t.e.length < 4294967281) :
  PureCall Tryz.prog J 130 [spV s] (.one (.d (.int .i64 (spanE s)))) := by
 refine PureCall.of_body tOk (fn := Tryz.f130) Tryz.func130 (by kernel_rfl) rfl (Nat.le_of_ble_eq_true rfl) (fun E => ?_)
 refine W.seq ?_
 refine W.region ?_
 refine S.box rfl rfl rfl rfl ?_
 refine S.pure tOk zOk rfl rfl rfl ?_
 refine thenK_n ?_
 refine W.seq ?_
 refine W.region ?_
 refine S.pure tOk zOk rfl rfl rfl ?_
 refine S.alloc tOk rfl rfl rfl rfl ?_
 refine S.store tOk rfl rfl rfl rfl rfl rfl rfl rfl ?_
 refine thenK_n ?_
 refine W.seq ?_
 refine W.seq ?_
 refine W.region ?_
 refine S.pure tOk zOk rfl rfl rfl ?_
 refine S.pure tOk zOk rfl rfl rfl ?_
 refine S.pure tOk zOk rfl rfl rfl ?_
 refine S.pure tOk zOk rfl rfl rfl ?_
 refine S.pure tOk zOk rfl rfl rfl ?_
 refine S.pureG tOk zOk rfl rfl tg (fun _ => rfl) rfl ?_
 refine S.pureG tOk zOk rfl rfl tg (fun _ => rfl) rfl ?_
 refine S.pureG tOk zOk rfl rfl tg (fun _ => rfl) rfl ?_
 refine S.pickAnd tOk zOk rfl rfl tg ?_
 refine S.pure tOk zOk rfl rfl rfl ?_
 refine S.pureG tOk zOk rfl rfl tg (fun _ => rfl) rfl ?_
 refine S.pureG tOk zOk rfl rfl tg (fun _ => rfl) rfl ?_
 refine S.pureG tOk zOk rfl rfl tg (fun _ => rfl) rfl ?_
 refine S.pureG tOk zOk rfl rfl tg (fun _ => rfl) rfl ?_
 refine S.pureG tOk zOk rfl rfl tg (fun _ => rfl) rfl ?_
 refine S.pureG tOk zOk rfl rfl tg (fun _ => rfl) rfl ?_
 refine S.pureG tOk zOk rfl rfl tg (fun _ => rfl) rfl ?_
 refine S.pureG tOk zOk rfl rfl tg (fun _ => rfl) rfl ?_
 refine S.pickAndG tOk zOk rfl rfl rfl tg tg ?_
 refine S.pickOr tOk zOk rfl rfl tg ?_
 refine thenK_n ?_
 refine W.cond rfl (fun c1 => ?_) (fun c1 => ?_)
 ·skip
  refine W.seq ?_
  refine W.region ?_
  refine S.pure tOk zOk rfl rfl rfl ?_
  refine thenK_n ?_
  refine W.ret ?_
  refine thenK_r ?_
  exact ⟨_, rfl, rfl, LeV.of_eq (congrArg (fun x => V.one (C.d (D.int .i64 x))) (spE_form c1).symm)⟩
 ·skip
  refine W.skip ?_
  refine thenK_n ?_
  refine W.seq ?_
  refine W.seq ?_
  refine W.region ?_
  refine S.pure tOk zOk rfl rfl rfl ?_
  refine S.pure tOk zOk rfl rfl rfl ?_
  refine S.call rfl rfl rfl rfl rfl (pc_ver_Check s.f h1) ?_
  refine S.pure tOk zOk rfl rfl rfl ?_
  refine thenK_n ?_
  refine W.seq ?_
  refine W.region ?_
  refine S.pure tOk zOk rfl rfl rfl ?_
  refine S.pure tOk zOk rfl rfl rfl ?_
  refine S.pure tOk zOk rfl rfl rfl ?_
  refine S.pureG tOk zOk rfl rfl tg (fun _ => rfl) rfl ?_
  refine S.pureG tOk zOk rfl rfl tg (fun _ => rfl) rfl ?_
  refine S.pickAnd tOk zOk rfl rfl tg ?_
  refine thenK_n ?_
  refine W.cond rfl (fun c2 => ?_) (fun c2 => ?_)
  ·skip
   refine W.seq ?_
   refine W.region ?_
   refine S.pure tOk zOk rfl rfl rfl ?_
   refine S.pure tOk zOk rfl rfl rfl ?_
   refine thenK_n ?_
   refine W.ret ?_
   refine thenK_r ?_
   exact ⟨_, rfl, rfl, LeV.of_eq (congrArg (fun x => V.one (C.d (D.int .i64 x))) (spE_f c1 c2).symm)⟩
  ·skip
   refine W.skip ?_
   refine thenK_n ?_
   refine W.seq ?_
   refine W.seq ?_
   refine W.region ?_
   refine S.pure tOk zOk rfl rfl rfl ?_
   refine S.pure tOk zOk rfl rfl rfl ?_
   refine S.call rfl rfl rfl rfl rfl (pc_ver_Check s.t h2) ?_
   refine S.pure tOk zOk rfl rfl rfl ?_
   refine thenK_n ?_
   refine W.seq ?_
   refine W.region ?_
   refine S.pure tOk zOk rfl rfl rfl ?_
   refine S.pure tOk zOk rfl rfl rfl ?_
   refine S.pure tOk zOk rfl rfl rfl ?_
   refine S.pureG tOk zOk rfl rfl tg (fun _ => rfl) rfl ?_
   refine S.pureG tOk zOk rfl rfl tg (fun _ => rfl) rfl ?_
   refine S.pickAnd tOk zOk rfl rfl tg ?_
   refine thenK_n ?_
   refine W.cond rfl (fun c3 => ?_) (fun c3 => ?_)
   ·skip
    refine W.seq ?_
    refine W.region ?_
    refine S.pure tOk zOk rfl rfl rfl ?_
    refine S.pure tOk zOk rfl rfl rfl ?_
    refine thenK_n ?_
    refine W.ret ?_
    refine thenK_r ?_
    exact ⟨_, rfl, rfl, LeV.of_eq (congrArg (fun x => V.one (C.d (D.int .i64 x))) (spE_t c1 c2 c3).symm)⟩
   ·skip
    refine W.skip ?_
    refine thenK_n ?_
    refine W.seq ?_
    refine W.seq ?_
    refine W.region ?_
    refine S.pure tOk zOk rfl rfl rfl ?_
    refine S.pure tOk zOk rfl rfl rfl ?_
    refine S.pure tOk zOk rfl rfl rfl ?_
    refine S.pureG tOk zOk rfl rfl tg (fun _ => rfl) rfl ?_
    refine S.pureG tOk zOk rfl rfl tg (fun _ => rfl) rfl ?_
    refine S.pickAnd tOk zOk rfl rfl tg ?_
    refine S.pure tOk zOk rfl rfl rfl ?_
    refine S.pureG tOk zOk rfl rfl tg (fun _ => rfl) rfl ?_
    refine S.pureG tOk zOk rfl rfl tg (fun _ => rfl) rfl ?_
    refine S.pureG tOk zOk rfl rfl tg (fun _ => rfl) rfl ?_
    refine S.pureG tOk zOk rfl rfl tg (fun _ => rfl) rfl ?_
    refine S.callG rfl rfl rfl rfl tg rfl rfl (fun _ => pc_ver_Order s.f s.t h1 h2) ?_
    refine S.pureG tOk zOk rfl rfl tg (fun _ => rfl) rfl ?_
    refine S.pickAnd tOk zOk rfl rfl tg ?_
    refine thenK_n ?_
    refine W.cond rfl (fun c4 => ?_) (fun c4 => ?_)
    ·skip
     refine W.seq ?_
     refine W.region ?_
     refine S.pure tOk zOk rfl rfl rfl ?_
     refine thenK_n ?_
     refine W.ret ?_
     refine thenK_r ?_
     exact ⟨_, rfl, rfl, LeV.of_eq (congrArg (fun x => V.one (C.d (D.int .i64 x))) (spE_o c1 c2 c3 c4).symm)⟩
    ·skip
     refine W.skip ?_
     refine thenK_n ?_
     refine W.seq ?_
     refine W.region ?_
     refine S.pure tOk zOk rfl rfl rfl ?_
     refine thenK_n ?_
     refine W.ret ?_
     exact ⟨_, rfl, rfl, LeV.of_eq (congrArg (fun x => V.one (C.d (D.int .i64 x))) (spE_ok c1 c2 c3 c4).symm)⟩
theorem pc_ver_CheckRange (ss : List Sp) (hl : ss.length ≤ 1000000000) (hv : ∀ s ∈ ss, SpLen s) :
  PureCall Tryz.prog J 82 [rgV ss] (.one (.d (.int .i64 (rangeE ss)))) := by
 refine PureCall.of_body tOk (fn := Tryz.f82) Tryz.func82 (by kernel_rfl) rfl (Nat.le_of_ble_eq_true rfl) (fun E => ?_)
 refine W.seq ?_
 refine W.region ?_
 refine S.box rfl rfl rfl rfl ?_
 refine S.pure tOk zOk rfl rfl rfl ?_
 refine thenK_n ?_
 refine W.seq ?_
 refine W.seq ?_
 refine W.region ?_
 refine S.pure tOk zOk rfl rfl rfl ?_
 refine S.pure tOk zOk rfl rfl rfl ?_
 refine S.pure tOk zOk rfl rfl rfl ?_
 refine S.pure tOk zOk rfl rfl rfl ?_
 refine thenK_n ?_
 refine W.cond rfl (fun c1 => ?_) (fun c1 => ?_)
 ·skip
  refine W.seq ?_
  refine W.region ?_
  refine S.pure tOk zOk rfl rfl rfl ?_
  refine thenK_n ?_
  refine W.ret ?_
  refine thenK_r ?_
  exact ⟨_, rfl, rfl, LeV.of_eq (congrArg (fun x => V.one (C.d (D.int .i64 x))) (rangeE_large (by simpa using c1)).symm)⟩
 ·skip
  have hlen := rangeE_list (ss := ss) (by simpa using c1)
  refine W.skip ?_
  refine thenK_n ?_
  refine W.seq ?_
  refine W.seq ?_
  refine W.region ?_
  refine S.pure tOk zOk rfl rfl rfl ?_
  refine S.pure tOk zOk rfl rfl rfl ?_
  refine S.pure tOk zOk rfl rfl rfl ?_
  refine S.pure tOk zOk rfl rfl rfl ?_
  refine thenK_n ?_
  refine W.block ?_
  refine W.loop (fun k st => ∃ i : Nat, i ≤ ss.length ∧ (((List.range ss.length).map (spAt ss)).take i).all (· == 0) = true ∧ k = ss.length - i ∧ ∃ t b2 r2 m2, st = ⟨t, [[.d (.vec 10 (ss.map spD))]] ++ b2, [] ++ r2, [] ++ m2⟩ ∧ holdsL t [(1, .one (.ptr 0 0)), (12, .one (.d (.vec 10 (ss.map spD)))), (13, .one (.d (.int .i64 ((ss.map spD).length : Int)))), (14, .one (.d (.int .i64 (i : Int))))]) (ss.length) ⟨0, Nat.zero_le _, by simp, rfl, _, _, _, _, rfl, rfl, rfl, rfl, rfl, trivial⟩ ?_
  rintro k0 _ ⟨i, f0_0, f0_1, rfl, t0, bb0, rr0, mm0, rfl, hh0⟩
  refine W.keepR _ _ _ _ _ _ _ hh0 rfl ?_
  refine W.seq ?_
  refine W.region ?_
  refine S.pure tOk zOk rfl rfl rfl ?_
  refine thenK_n ?_
  refine W.seq ?_
  refine W.cond rfl (fun c2 => ?_) (fun c2 => ?_)
  ·skip
   have hi := row_lt c2
   have hs := sp_at hv hi
   refine W.skip ?_
   refine thenK_n ?_
   refine W.seq ?_
   refine W.block ?_
   refine W.seq ?_
   refine W.region ?_
   refine S.pure tOk zOk rfl rfl rfl ?_
   refine S.pureE tOk zOk rfl (row_ok hi) (row_at Sp.z hi) rfl ?_
   refine S.pure tOk zOk rfl rfl rfl ?_
   refine S.alloc tOk rfl rfl rfl rfl ?_
   refine S.pure tOk zOk rfl rfl rfl ?_
   refine S.store tOk rfl rfl rfl rfl rfl rfl rfl rfl ?_
   refine thenK_n ?_
   refine W.seq ?_
   refine W.seq ?_
   refine W.region ?_
   refine S.pure tOk zOk rfl rfl rfl ?_
   refine S.call rfl rfl rfl rfl rfl (pc_ver_spanFault (ss.getD i Sp.z) hs.1 hs.2) ?_
   refine S.pure tOk zOk rfl rfl rfl ?_
   refine thenK_n ?_
   refine W.seq ?_
   refine W.region ?_
   refine S.pure tOk zOk rfl rfl rfl ?_
   refine S.pure tOk zOk rfl rfl rfl ?_
   refine thenK_n ?_
   refine W.cond rfl (fun c3 => ?_) (fun c3 => ?_)
   ·skip
    refine W.seq ?_
    refine W.region ?_
    refine S.pure tOk zOk rfl rfl rfl ?_
    refine S.pure tOk zOk rfl rfl rfl ?_
    refine thenK_n ?_
    refine W.ret ?_
    refine thenK_r ?_
    refine blockK_r ?_
    refine thenK_r ?_
    refine thenK_r ?_
    refine blockK_r ?_
    refine thenK_r ?_
    exact ⟨_, rfl, rfl, LeV.of_eq (congrArg (fun x => V.one (C.d (D.int .i64 x))) (hlen.trans (spAt_hit hi f0_1 (spAt_own c3) (by simpa using c3))).symm)⟩
   ·skip
    refine W.skip ?_
    refine thenK_n ?_
    refine W.seq ?_
    refine W.seq ?_
    refine W.region ?_
    refine S.pure tOk zOk rfl rfl rfl ?_
    refine S.pure tOk zOk rfl rfl rfl ?_
    refine thenK_n ?_
    refine W.cond rfl (fun c4 => ?_) (fun c4 => ?_)
    ·skip
     refine W.exit ?_
     refine thenK_e ?_
     refine blockK_x ?_
     refine thenK_n ?_
     refine W.region ?_
     refine S.pure tOk zOk rfl rfl rfl ?_
     refine S.pure tOk zOk rfl rfl rfl ?_
     refine loop_n (ss.length - (i + 1)) (by omega) ⟨i + 1, hi, all_take_succ (d := 0) (by simpa using hi) f0_1 (spAt_go hi (spAt_first c3 c4)), rfl, _, _, _, _, rfl, rfl, rfl, rfl, inc_i64 (by omega), trivial⟩
    ·skip
     have hi1 : i - 1 < ss.length := by omega
     have hs1 := sp_at hv hi1
     refine W.skip ?_
     refine thenK_n ?_
     refine W.seq ?_
     refine W.region ?_
     refine S.pure tOk zOk rfl rfl rfl ?_
     refine S.pure tOk zOk rfl rfl rfl ?_
     refine S.pure tOk zOk rfl rfl rfl ?_
     refine S.pureE tOk zOk rfl rfl (dec_i64 c4 (by omega)) rfl ?_
     refine S.pureE tOk zOk rfl (row_ok hi1) (row_at Sp.z hi1) rfl ?_
     refine S.pure tOk zOk rfl rfl rfl ?_
     refine S.alloc tOk rfl rfl rfl rfl ?_
     refine S.store tOk rfl rfl rfl rfl rfl rfl rfl rfl ?_
     refine thenK_n ?_
     refine W.seq ?_
     refine W.region ?_
     refine S.pure tOk zOk rfl rfl rfl ?_
     refine S.pure tOk zOk rfl rfl rfl ?_
     refine S.pure tOk zOk rfl rfl rfl ?_
     refine S.pure tOk zOk rfl rfl rfl ?_
     refine S.pureG tOk zOk rfl rfl tg (fun _ => rfl) rfl ?_
     refine S.pureG tOk zOk rfl rfl tg (fun _ => rfl) rfl ?_
     refine S.pureG tOk zOk rfl rfl tg (fun _ => rfl) rfl ?_
     refine S.pickOr tOk zOk rfl rfl tg ?_
     refine S.pure tOk zOk rfl rfl rfl ?_
     refine S.pureG tOk zOk rfl rfl tg (fun _ => rfl) rfl ?_
     refine S.pureG tOk zOk rfl rfl tg (fun _ => rfl) rfl ?_
     refine S.pureG tOk zOk rfl rfl tg (fun _ => rfl) rfl ?_
     refine S.pureG tOk zOk rfl rfl tg (fun _ => rfl) rfl ?_
     refine S.callG rfl rfl rfl rfl tg rfl rfl (fun _ => pc_ver_Order (ss.getD i Sp.z).f (ss.getD (i - 1) Sp.z).t hs.1 hs1.2) ?_
     refine S.pureG tOk zOk rfl rfl tg (fun _ => rfl) rfl ?_
     refine S.pickOr tOk zOk rfl rfl tg ?_
     refine thenK_n ?_
     refine W.cond rfl (fun c5 => ?_) (fun c5 => ?_)
     ·skip
      refine W.seq ?_
      refine W.region ?_
      refine S.pure tOk zOk rfl rfl rfl ?_
      refine thenK_n ?_
      refine W.ret ?_
      refine blockK_r ?_
      refine thenK_r ?_
      refine thenK_r ?_
      refine blockK_r ?_
      refine thenK_r ?_
      exact ⟨_, rfl, rfl, LeV.of_eq (congrArg (fun x => V.one (C.d (D.int .i64 x))) (hlen.trans (spAt_hit hi f0_1 (spAt_bad c3 c4 c5) (by decide))).symm)⟩
     ·skip
      refine W.skip ?_
      refine blockK_n ?_
      refine thenK_n ?_
      refine W.region ?_
      refine S.pure tOk zOk rfl rfl rfl ?_
      refine S.pure tOk zOk rfl rfl rfl ?_
      refine loop_n (ss.length - (i + 1)) (by omega) ⟨i + 1, hi, all_take_succ (d := 0) (by simpa using hi) f0_1 (spAt_go hi (spAt_ok c3 c4 c5)), rfl, _, _, _, _, rfl, rfl, rfl, rfl, inc_i64 (by omega), trivial⟩
  ·skip
   have hi := row_ge c2
   refine W.exit ?_
   refine thenK_e ?_
   refine thenK_e ?_
   refine blockK_x ?_
   refine thenK_n ?_
   refine W.seq ?_
   refine W.region ?_
   refine S.pure tOk zOk rfl rfl rfl ?_
   refine thenK_n ?_
   refine W.ret ?_
   exact ⟨_, rfl, rfl, LeV.of_eq (congrArg (fun x => V.one (C.d (D.int .i64 x))) (hlen.trans (firstNe_none (by simpa using hi) f0_1)).symm)⟩
theorem pc_ver_isRow (s : List UInt8) (hs : s.length < 4294967281) :
  PureCall Tryz.prog J 282 [.one (.d (.str s))] (.one (.d (.bool (rowB s)))) := by
 refine PureCall.of_body tOk (fn := Tryz.f282) Tryz.func282 (by kernel_rfl) rfl (Nat.le_of_ble_eq_true rfl) (fun E => ?_)
 refine W.seq ?_
 refine W.region ?_
 refine S.pure tOk zOk rfl rfl rfl ?_
 refine thenK_n ?_
 refine W.seq ?_
 refine W.region ?_
 refine S.pure tOk zOk rfl rfl rfl ?_
 refine S.call rfl rfl rfl rfl rfl (pc_Contains _ _ (by omega)) ?_
 refine S.pure tOk zOk rfl rfl rfl ?_
 refine S.pure tOk zOk rfl rfl rfl ?_
 refine thenK_n ?_
 refine W.ret ?_
 exact ⟨_, rfl, rfl, LeV.refl _⟩
theorem pc_ver_wrong (s : List UInt8) (hs : s.length < 4294967281) :
  PureCall Tryz.prog J 265 [.one (.d (.str s))] (.one (.d (.bool (wrongB s)))) := by
 refine PureCall.of_body tOk (fn := Tryz.f265) Tryz.func265 (by kernel_rfl) rfl (Nat.le_of_ble_eq_true rfl) (fun E => ?_)
 refine W.seq ?_
 refine W.region ?_
 refine S.pure tOk zOk rfl rfl rfl ?_
 refine thenK_n ?_
 refine W.seq ?_
 refine W.region ?_
 refine S.pure tOk zOk rfl rfl rfl ?_
 refine S.call rfl rfl rfl rfl rfl (pc_ver_Parse _ (by omega)) ?_
 refine S.pure tOk zOk rfl rfl rfl ?_
 refine S.pure tOk zOk rfl rfl rfl ?_
 refine S.pure tOk zOk rfl rfl rfl ?_
 refine S.alloc tOk rfl rfl rfl rfl ?_
 refine S.store tOk rfl rfl rfl rfl rfl rfl rfl rfl ?_
 refine S.pure tOk zOk rfl rfl rfl ?_
 refine thenK_n ?_
 refine W.seq ?_
 refine W.region ?_
 refine S.pure tOk zOk rfl rfl rfl ?_
 refine S.pure tOk zOk rfl rfl rfl ?_
 refine S.pure tOk zOk rfl rfl rfl ?_
 refine thenK_n ?_
 refine W.ret ?_
 exact ⟨_, rfl, rfl, LeV.refl _⟩
end Go.Proofs.YtcchfmilleffjaaGreatDoor
namespace Go.Proofs.YtcchfmilleffjaaGreatDoor
open Go
open Go.RowKit
end Go.Proofs.YtcchfmilleffjaaGreatDoor
namespace Go.Proofs.YtcchfmilleffjaaGreatDoor
open Go
theorem cmpInt_neg (x y : Int) : Lib.compareInt y x = -Lib.compareInt x y := by
  unfold Lib.compareInt
  by_cases h1 : x < y
  · rw [if_pos h1, if_neg (by omega), if_pos h1]; rfl
  · by_cases h2 : y < x
    · rw [if_pos h2, if_neg h1, if_pos h2]
    · rw [if_neg h2, if_neg h1, if_neg h1, if_neg h2]; rfl
end Go.Proofs.YtcchfmilleffjaaGreatDoor
namespace Go.Proofs.YtcchfmilleffjaaGreatDoor
open Go
open Go.RowKit
end Go.Proofs.YtcchfmilleffjaaGreatDoor
namespace Go.Proofs.YtcchfmilleffjaaGreatDoor
open Go
end Go.Proofs.YtcchfmilleffjaaGreatDoor
namespace Go.Proofs.YtcchfmilleffjaaGreatDoor
open Go
open Go.RowKit
end Go.Proofs.YtcchfmilleffjaaGreatDoor
namespace Go.Proofs.YtcchfmilleffjaaGreatDoor
open Go
def itemB (s : List UInt8) : It × Bool :=
  if s == [42] then (⟨42, [], []⟩, true)
  else if Lib.hasPrefix s [62, 61] then
    (if (Lib.cut (Lib.trimPrefix s [62, 61]) [32]).2.2 then
      (⟨98, (Lib.cut (Lib.trimPrefix s [62, 61]) [32]).1, Lib.trimPrefix (Lib.cut (Lib.trimPrefix s [62, 61]) [32]).2.1 [60]⟩,
        (Lib.hasPrefix (Lib.cut (Lib.trimPrefix s [62, 61]) [32]).2.1 [60] && rowB (Lib.cut (Lib.trimPrefix s [62, 61]) [32]).1) && rowB (Lib.trimPrefix (Lib.cut (Lib.trimPrefix s [62, 61]) [32]).2.1 [60]))
     else (⟨62, Lib.trimPrefix s [62, 61], []⟩, rowB (Lib.trimPrefix s [62, 61])))
  else if !(s == []) && decide (Lib.indexByte [60, 61, 94, 126] (bI (s.getD 0 0)).toNat.toUInt8 ≥ 0) then (⟨bI (s.getD 0 0), s.drop 1, []⟩, rowB (s.drop 1))
  else (⟨94, s, []⟩, rowB s)
def behindB (v : Ver) (g : Int) : Ver × Int :=
  if g == 61 && !(v.e == []) then (⟨v.a, v.b, v.c, v.e ++ [46, 48]⟩, checkB v.a v.b v.c (v.e ++ [46, 48]))
  else if g == 61 then (⟨(nextB v 2).1.a, (nextB v 2).1.b, (nextB v 2).1.c, [48]⟩, (nextB v 2).2)
  else if g == 94 && !(v.a == 0) then nextB v 0 else nextB v 1
def spanB (it : It) : Sp × Int :=
  if it.sign == 42 then (Sp.z, 0)
  else if (parseB it.first).2 != 0 then (Sp.z, (parseB it.first).2)
  else if it.sign == 62 then (⟨true, false, (parseB it.first).1, Ver.z⟩, 0)
  else if it.sign == 60 then (⟨false, true, Ver.z, (parseB it.first).1⟩, 0)
  else if it.sign == 98 then (⟨true, true, (parseB it.first).1, (parseB it.last).1⟩, (parseB it.last).2)
  else (⟨true, true, (parseB it.first).1, (behindB (parseB it.first).1 it.sign).1⟩, (behindB (parseB it.first).1 it.sign).2)
def badB (t : List UInt8) : Bool := (!(itemB t).2 || (!((itemB t).1.sign == 42) && wrongB (itemB t).1.first)) || ((itemB t).1.sign == 98 && wrongB (itemB t).1.last)
abbrev partsR (s : List UInt8) : List (List UInt8) := Lib.split s [44, 32]
def rangeB (s : List UInt8) : List Sp × Int :=
  if decide ((s.length : Int) > 1000) then ([], 4) else if s == [110, 111, 110, 101] then ([], 0)
  else if (partsR s).any badB then ([], 8)
  else if firstNe ((partsR s).map fun t => (spanB (itemB t).1).2) != 0 then ([], firstNe ((partsR s).map fun t => (spanB (itemB t).1).2))
  else if rangeE ((partsR s).map fun t => (spanB (itemB t).1).1) != 0 then ([], rangeE ((partsR s).map fun t => (spanB (itemB t).1).1))
  else ((partsR s).map fun t => (spanB (itemB t).1).1, 0)
theorem trim_le (s p : List UInt8) : (Lib.trimPrefix s p).length ≤ s.length := by
  unfold Lib.trimPrefix
  split <;> simp
theorem cut3_le (s p : List UInt8) : (Lib.trimPrefix (Lib.cut s p).2.1 [60]).length ≤ s.length := Nat.le_trans (trim_le _ _) (cut_le s p).2
theorem checkB_ver (v : Ver) : checkB v.a v.b v.c v.e = v.check := rfl
theorem item_le (s : List UInt8) : (itemB s).1.first.length ≤ s.length ∧ (itemB s).1.last.length ≤ s.length := by
  unfold itemB
  have h1 := trim_le s [62, 61]
  have h2 := cut_le (Lib.trimPrefix s [62, 61]) [32]
  have h3 := cut3_le (Lib.trimPrefix s [62, 61]) [32]
  split
  · simp
  · split
    · split
      · exact ⟨by simp only; omega, by simp only; omega⟩
      · exact ⟨h1, by simp⟩
    · split
      · simp
      · simp
theorem parse_e (s : List UInt8) : (parseB s).1.e.length ≤ s.length := by
  have hc := cut_le s [45]
  unfold parseB parseW
  split
  · simp [Ver.z]
  · split
    · unfold threeB
      split
      · simp [Ver.z]
      · split
        · simp [Ver.z]
        · split
          · simp [Ver.z]
          · split
            · simp [Ver.z]
            · exact hc.2
    · simp [Ver.z]
theorem next_e (v : Ver) (p : Int) : (nextB v p).1.e = [] := by
  have h : ∀ x y z, (nextOk x y z).1.e = [] := fun x y z => by unfold nextOk; split <;> rfl
  unfold nextB
  split
  · rfl
  · split
    · exact h _ _ _
    · split
      · exact h _ _ _
      · split
        · exact h _ _ _
        · split
          · rfl
          · exact h _ _ _
theorem behind_e (v : Ver) (g : Int) : (behindB v g).1.e.length ≤ v.e.length + 2 := by
  unfold behindB
  split
  · simp
  · split
    · simp
    · split
      · rw [next_e]; simp
      · rw [next_e]; simp
theorem span_e (t : List UInt8) : (spanB (itemB t).1).1.f.e.length ≤ t.length + 2 ∧ (spanB (itemB t).1).1.t.e.length ≤ t.length + 2 := by
  have h := item_le t
  have h1 := parse_e (itemB t).1.first
  have h2 := parse_e (itemB t).1.last
  have h3 := behind_e (parseB (itemB t).1.first).1 (itemB t).1.sign
  unfold spanB
  split
  · simp [Sp.z, Ver.z]
  · split
    · simp [Sp.z, Ver.z]
    · split
      · exact ⟨by simp only; omega, by simp [Ver.z]⟩
      · split
        · exact ⟨by simp [Ver.z], by simp only; omega⟩
        · split
          · exact ⟨by simp only; omega, by simp only; omega⟩
          · exact ⟨by simp only; omega, by simp only; omega⟩
def spRes (t : List UInt8) : Sp := (spanB (itemB t).1).1
theorem any_take {α : Type} {xs : List α} {p : α → Bool} {i : Nat} {d : α} (hi : i < xs.length) (h : (xs.take i).any p = false) (hp : p (xs.getD i d) = false) : (xs.take (i + 1)).any p = false := by
  rw [List.take_add_one, List.any_append, h]
  simp only [List.getD_eq_getElem?_getD, List.getElem?_eq_getElem hi, Option.getD_some] at hp
  simp [List.getElem?_eq_getElem hi, hp]
theorem any_hit {α : Type} {xs : List α} {p : α → Bool} {i : Nat} {d : α} (hi : i < xs.length) (hp : p (xs.getD i d) = true) : xs.any p = true := by
  simp only [List.getD_eq_getElem?_getD, List.getElem?_eq_getElem hi, Option.getD_some] at hp
  exact List.any_eq_true.2 ⟨_, List.getElem_mem hi, hp⟩
theorem any_end {α : Type} {xs : List α} {p : α → Bool} {i : Nat} (hi : xs.length ≤ i) (h : (xs.take i).any p = false) : xs.any p = false := by rwa [List.take_of_length_le hi] at h
section
variable {s : List UInt8}
theorem rB_large (h : decide ((s.length : Int) > 1000) = true) : rangeB s = ([], 4) := if_pos h
theorem rB_none (h : decide ((s.length : Int) > 1000) = false) (h2 : (s == [110, 111, 110, 101]) = true) : rangeB s = ([], 0) := by
  rw [rangeB, if_neg (Bool.eq_false_iff.1 h), if_pos h2]
theorem rB_bad (h : decide ((s.length : Int) > 1000) = false) (h2 : (s == [110, 111, 110, 101]) = false) (h3 : (partsR s).any badB = true) : rangeB s = ([], 8) := by
  rw [rangeB, if_neg (Bool.eq_false_iff.1 h), if_neg (Bool.eq_false_iff.1 h2), if_pos h3]
theorem rB_err {n : Int} (h : decide ((s.length : Int) > 1000) = false) (h2 : (s == [110, 111, 110, 101]) = false) (h3 : (partsR s).any badB = false) (h4 : firstNe ((partsR s).map fun t => (spanB (itemB t).1).2) = n) (hn : n ≠ 0) : rangeB s = ([], n) := by
  rw [rangeB, if_neg (Bool.eq_false_iff.1 h), if_neg (Bool.eq_false_iff.1 h2), if_neg (Bool.eq_false_iff.1 h3), h4, if_pos (by simpa using hn)]
theorem rB_range (h : decide ((s.length : Int) > 1000) = false) (h2 : (s == [110, 111, 110, 101]) = false) (h3 : (partsR s).any badB = false) (h4 : firstNe ((partsR s).map fun t => (spanB (itemB t).1).2) = 0)
    (h5 : (rangeE ((partsR s).map spRes) != 0) = true) : rangeB s = ([], rangeE ((partsR s).map spRes)) := by
  rw [rangeB, if_neg (Bool.eq_false_iff.1 h), if_neg (Bool.eq_false_iff.1 h2), if_neg (Bool.eq_false_iff.1 h3), h4, if_neg (by simp)]
  exact if_pos h5
theorem rB_ok (h : decide ((s.length : Int) > 1000) = false) (h2 : (s == [110, 111, 110, 101]) = false) (h3 : (partsR s).any badB = false) (h4 : firstNe ((partsR s).map fun t => (spanB (itemB t).1).2) = 0)
    (h5 : (rangeE ((partsR s).map spRes) != 0) = false) : rangeB s = ((partsR s).map spRes, 0) := by
  rw [rangeB, if_neg (Bool.eq_false_iff.1 h), if_neg (Bool.eq_false_iff.1 h2), if_neg (Bool.eq_false_iff.1 h3), h4, if_neg (by simp)]
  exact if_neg (Bool.eq_false_iff.1 h5)
end
theorem code_at {ts : List (List UInt8)} {i : Nat} {f : List UInt8 → Int} (hi : i < ts.length) : (ts.map f).getD i 0 = f (ts.getD i []) := by
  simp [List.getD_eq_getElem?_getD, hi]
theorem code_go {ts : List (List UInt8)} {i : Nat} {f : List UInt8 → Int} (hi : i < ts.length) (h : (f (ts.getD i []) != 0) = false) : ((ts.map f).getD i 0 == 0) = true := by
  rw [code_at hi]; simpa using h
theorem code_hit {ts : List (List UInt8)} {i : Nat} {f : List UInt8 → Int} (hi : i < ts.length) (ht : ((ts.map f).take i).all (· == 0) = true) (h : (f (ts.getD i []) != 0) = true) : firstNe (ts.map f) = f (ts.getD i []) := by
  rw [firstNe_hit (by simpa using hi) ht (by rw [code_at hi]; simpa using h), code_at hi]
theorem code_end {ts : List (List UInt8)} {i : Nat} {f : List UInt8 → Int} (hi : ts.length ≤ i) (ht : ((ts.map f).take i).all (· == 0) = true) : firstNe (ts.map f) = 0 := firstNe_none (by simpa using hi) ht
theorem split_pos (s sep : List UInt8) : 0 < (Lib.split s sep).length := by
  unfold Lib.split
  cases Lib.count s sep with
  | zero => simp [Lib.splitK]
  | succ k => unfold Lib.splitK; split <;> simp
end Go.Proofs.YtcchfmilleffjaaGreatDoor
namespace Go.Proofs.YtcchfmilleffjaaGreatDoor
open Go Go.RowKit
variable {J : Inv} {k0 : Lens} {E : Env J k0} {P : Program} {n : Nat} {t : Nat → V} {b : List (List C)} {r : List (Option RowO)} {m : List (List (DV × DV))}
theorem W.newRowB {c : Code} {KK : Ex → St → Prop} (l j sz : Nat) (e : TypeId) {cs : List C} {b' : List (List C)} (hb : b[l]? = some cs) (hk : cs[j]? = some (.d .nilsl)) (hb' : forceL (b.set l (cs.set j (.row r.length 0 0 0))) = some b')
    (h : W E P n c KK ⟨t, b', r ++ [some ⟨false, 0, sz, e, []⟩], m⟩) : W E P n c KK ⟨t, b, r, m⟩ := by
  obtain rfl := forceL_eq hb'
  have hlive : ∀ x, (⟨t, b.set l (cs.set j (.row r.length 0 0 0)), r ++ [some ⟨false, 0, sz, e, []⟩], m⟩ : St).live x → (⟨t, b, r, m⟩ : St).live x := fun x hx => by
    cases x with
    | b q => have : q < (b.set l (cs.set j (.row r.length 0 0 0))).length := hx; show q < b.length; simpa using this
    | m q => exact hx
    | r q =>
      obtain ⟨o, ho, hal⟩ := hx
      have ho : (r ++ [some ⟨false, 0, sz, e, []⟩])[q]? = some (some o) := ho
      by_cases hl : q < r.length
      · rw [List.getElem?_append_left hl] at ho; exact ⟨o, ho, hal⟩
      · rw [List.getElem?_append_right (by omega)] at ho
        have : q - r.length = 0 := by have := (List.getElem?_eq_some_iff.1 ho).1; simp at this; omega
        rw [this] at ho
        simp at ho; rw [← ho] at hal; cases hal
  refine h.weaken fun g a w rel => ?_
  have ext : Ext g (⟨t, b, r, m⟩ : St).sh w g (⟨t, b.set l (cs.set j (.row r.length 0 0 0)), r ++ [some ⟨false, 0, sz, e, []⟩], m⟩ : St).sh w := by
    refine ⟨fun _ h => h, fun _ _ => rfl, by simp [St.sh], Nat.le_refl _, by simp [St.sh], fun _ _ => rfl, fun _ _ => rfl, fun q al ver sz' len hq hh => ⟨al, ver, sz', len, ?_, Nat.le_refl _, fun _ => ⟨rfl, rfl, Nat.le_refl _, rfl, rfl, rfl⟩⟩⟩
    have hq' : q < r.length := by simpa [St.sh] using hq
    simpa [St.sh, List.getElem?_append_left hq', List.getElem?_append_left (show q < (r.map (·.map RowO.form)).length by simpa using hq')] using hh
  refine ⟨g, rel.below, rel.ext.trans ext, rel.imlt, rel.imold, fun x hx => rel.own x (hlive x hx), ⟨fun x hx => rel.heap.lt x (hlive x hx), fun x hx => rel.heap.new x (hlive x hx), fun x y hx hy => rel.heap.inj x y (hlive x hx) (hlive y hy), fun q ds hq => ?_, fun q o hq => ?_, fun q es hq => ?_⟩, rel.size, rel.defers, fun i hi => (rel.tmps i hi).mono ext⟩
  · have hq : (b.set l (cs.set j (.row r.length 0 0 0)))[q]? = some ds := hq
    by_cases hql : l = q
    · subst hql
      have hlt := (List.getElem?_eq_some_iff.1 hb).1
      have hds : cs.set j (.row r.length 0 0 0) = ds := by simpa [List.getElem?_set, hlt] using hq
      obtain ⟨vs, ty, h1, h2, h3⟩ := rel.heap.box l cs hb
      refine ⟨vs, ty, h1, by rw [← hds]; simpa using h2, fun k c v hc hv => ?_⟩
      rw [← hds, List.getElem?_set] at hc
      split at hc
      · rename_i hjk
        subst hjk
        split at hc
        · simp only [Option.some.injEq] at hc
          subst hc
          have h4 := h3 j _ v hk hv
          cases h4 with | d _ _ h4 =>
          cases h4
          refine .row _ _ _ _ _ rfl (by simp [St.sh]) (fun al ver' sz' len hh => ?_)
          have : (some (some (al, ver', sz', len)) : Option (Option _)) = some (some (false, 0, sz, 0)) := by rw [← hh]; simp [St.sh, RowO.form]
          simp only [Option.some.injEq, Prod.mk.injEq] at this
          obtain ⟨rfl, rfl, rfl, rfl⟩ := this
          exact ⟨Nat.le_refl _, fun _ => ⟨Nat.le_refl _, by simp⟩⟩
        · cases hc
      · exact (h3 k c v hc hv).mono ext
    · obtain ⟨vs, ty, h1, h2, h3⟩ := rel.heap.box q ds (by simpa [List.getElem?_set, hql] using hq)
      exact ⟨vs, ty, h1, h2, fun k c v hc hv => (h3 k c v hc hv).mono ext⟩
  · have hq : (r ++ [some ⟨false, 0, sz, e, []⟩])[q]? = some (some o) := hq
    by_cases hl : q < r.length
    · rw [List.getElem?_append_left hl] at hq; exact rel.heap.row q o hq
    · rw [List.getElem?_append_right (by omega)] at hq
      have : q - r.length = 0 := by have := (List.getElem?_eq_some_iff.1 hq).1; simp at this; omega
      rw [this] at hq
      simp at hq; rw [← hq]; simp
  · obtain ⟨arr, clock, h1, h2, h3⟩ := rel.heap.map q es hq
    exact ⟨arr, clock, h1, h2, fun i x e hx he => ⟨(h3 i x e hx he).1.mono ext, (h3 i x e hx he).2.mono ext⟩⟩
theorem row_RD {s : St} {g : Gh} {a : Act} {w : World} (rel : Rel E n g s a w) {ri : Nat} {q : RowO} (ho : s.r[ri]? = some (some q)) {v : Value} (hv : RV g s.sh w (.one (.row ri q.ver 0 q.xs.length)) v) :
    RD (fun x => g.im x ∨ (q.al = true ∧ x = g.at_ (.r ri))) w (.vec q.sz q.xs) v := by
  obtain ⟨flat, hown, hnil, hblk, hcells, hrows⟩ := row_form rel ho hv
  rcases hown.2 with ⟨hv2, h0⟩ | ⟨bb, cap, cur, hv2, hb2, hc2, hn2, hm2, hs2, ht2⟩
  · rw [hv2, List.length_eq_zero_iff.1 h0]; exact .empty _ _ _
  · have hal : q.al = true := by
      cases hh : q.al with
      | true => rfl
      | false => have := hnil.2 hh; rw [this] at hv2; cases hv2
    have hbb : bb = g.at_ (.r ri) := by have := hblk hal; rw [hv2] at this; exact Option.some.inj this
    by_cases hne : q.xs = []
    · rw [hv2, hne]; exact .empty _ _ _
    · rw [hv2]
      have hat : ∀ (i j : Nat) (x : List D) (d : D), q.xs[i]? = some x → x[j]? = some d → ∃ v, w.cell? ⟨bb, 0 + i * q.sz + j, none⟩ = some v ∧ RD (fun x => g.im x ∨ (q.al = true ∧ x = g.at_ (.r ri))) w d v := fun i j x d p1 p2 => by
        have hj' : j < q.sz := by
          have h3 := (List.getElem?_eq_some_iff.1 p2).1
          rw [hrows x (List.mem_of_getElem? p1)] at h3; exact h3
        have hi := (List.getElem?_eq_some_iff.1 p1).1
        have hk2 : i * q.sz + j < q.xs.length * q.sz := by
          have := Nat.mul_le_mul_right q.sz (show i + 1 ≤ q.xs.length from hi)
          rw [Nat.add_mul, Nat.one_mul] at this; omega
        have hf : flat[i * q.sz + j]? = some (flat[i * q.sz + j]'(by rw [hown.1]; exact hk2)) := List.getElem?_eq_getElem _
        refine ⟨_, ?_, (hcells i j x d _ p1 p2 hf).mono (fun _ h => .inl h) (fun _ _ => rfl)⟩
        have hf2 : (cur.toList.take (q.xs.length * q.sz))[i * q.sz + j]? = some (flat[i * q.sz + j]'(by rw [hown.1]; exact hk2)) := by rw [ht2]; exact hf
        rw [List.getElem?_take, if_pos hk2] at hf2
        simp only [Nat.zero_add, World.cell?, hc2, Option.isSome_none, Bool.false_eq_true, if_false]
        simpa using hf2
      exact RD.vec q.sz q.xs bb 0 cap (fun i j => (w.cell? ⟨bb, 0 + i * q.sz + j, none⟩).getD undef) hne hn2 (.inr ⟨hal, hbb⟩) hrows
        (fun i j x d p1 p2 => by obtain ⟨v, h3, _⟩ := hat i j x d p1 p2; rw [h3]; rfl)
        (fun i j x d p1 p2 => by obtain ⟨v, h3, h4⟩ := hat i j x d p1 p2; simp only [h3, Option.getD_some]; exact h4)
theorem W.freezeB {c : Code} {KK : Ex → St → Prop} {ri : Nat} {q : RowO} (l j : Nat) {cs : List C} {b' : List (List C)} (hq : r[ri]? = some (some q)) (hb : b[l]? = some cs) (hk : cs[j]? = some (.row ri q.ver 0 q.xs.length)) (hb' : forceL (b.set l (cs.set j (.d (.vec q.sz q.xs)))) = some b')
    (h : W E P n c KK ⟨t, b', r.set ri none, m⟩) : W E P n c KK ⟨t, b, r, m⟩ := by
  obtain rfl := forceL_eq hb'
  have hr : ri < r.length := (List.getElem?_eq_some_iff.1 hq).1
  have hlive : ∀ x, (⟨t, b.set l (cs.set j (.d (.vec q.sz q.xs))), r.set ri none, m⟩ : St).live x → (⟨t, b, r, m⟩ : St).live x ∧ x ≠ .r ri := fun x hx => by
    cases x with
    | b l' => exact ⟨by have : l' < (b.set l (cs.set j (.d (.vec q.sz q.xs)))).length := hx; show l' < b.length; simpa using this, by simp⟩
    | m l => exact ⟨hx, by simp⟩
    | r l =>
      obtain ⟨o, ho, hal⟩ := hx
      have ho : (r.set ri none)[l]? = some (some o) := ho
      by_cases e : ri = l
      · subst e; simp [List.getElem?_set, hr] at ho
      · exact ⟨⟨o, by simpa [List.getElem?_set, e] using ho, hal⟩, fun h => e (by injection h with h; exact h.symm)⟩
  refine h.weaken fun g a w rel => ?_
  have ho : (⟨t, b, r, m⟩ : St).r[ri]? = some (some q) := hq
  have hrl : q.al = true → (⟨t, b, r, m⟩ : St).live (.r ri) := fun h => ⟨q, hq, h⟩
  have ext : Ext g (⟨t, b, r, m⟩ : St).sh w ⟨fun x => g.im x ∨ (q.al = true ∧ x = g.at_ (.r ri)), g.at_, g.off, g.cap⟩ (⟨t, b.set l (cs.set j (.d (.vec q.sz q.xs))), r.set ri none, m⟩ : St).sh w := by
    refine ⟨fun _ h => .inl h, fun _ _ => rfl, by simp [St.sh], Nat.le_refl _, by simp [St.sh], fun _ _ => rfl, fun _ _ => rfl, fun k al ver sz' len hk' hh => ?_⟩
    by_cases e : ri = k
    · subst e; simp [St.sh, List.getElem?_set, hr] at hh
    · exact ⟨al, ver, sz', len, by simpa [St.sh, List.getElem?_set, e] using hh, Nat.le_refl _, fun _ => ⟨rfl, rfl, Nat.le_refl _, rfl, rfl, rfl⟩⟩
  refine ⟨⟨fun x => g.im x ∨ (q.al = true ∧ x = g.at_ (.r ri)), g.at_, g.off, g.cap⟩, rel.below, rel.ext.trans ext, fun x hx => ?_, fun x hx => ?_, fun x hx => rel.own x (hlive x hx).1, ⟨fun x hx => rel.heap.lt x (hlive x hx).1, fun x hx => ?_, fun x y hx hy => rel.heap.inj x y (hlive x hx).1 (hlive y hy).1, fun k ds hk' => ?_, fun k o hk' => ?_, fun k es hk' => ?_⟩, rel.size, rel.defers, fun j' hj => ?_⟩
  · rcases hx with h | ⟨h1, h2⟩
    · exact rel.imlt x h
    · rw [h2]; exact rel.heap.lt _ (hrl h1)
  · rcases hx with h | ⟨h1, h2⟩
    · exact rel.imold x h
    · rw [h2]; exact .inr (rel.own _ (hrl h1))
  · rintro (h | ⟨h1, h2⟩)
    · exact rel.heap.new x (hlive x hx).1 h
    · exact (hlive x hx).2 (rel.heap.inj x _ (hlive x hx).1 (hrl h1) h2)
  · have hk2 : (b.set l (cs.set j (.d (.vec q.sz q.xs))))[k]? = some ds := hk'
    by_cases hql : l = k
    · subst hql
      have hlt := (List.getElem?_eq_some_iff.1 hb).1
      have hds : cs.set j (.d (.vec q.sz q.xs)) = ds := by simpa [List.getElem?_set, hlt] using hk2
      obtain ⟨vs, ty, h1, h2, h3⟩ := rel.heap.box l cs hb
      refine ⟨vs, ty, h1, by rw [← hds]; simpa using h2, fun i c v hc hv => ?_⟩
      rw [← hds, List.getElem?_set] at hc
      split at hc
      · rename_i hjk
        subst hjk
        split at hc
        · simp only [Option.some.injEq] at hc
          subst hc
          exact .d _ _ (row_RD rel ho (.one _ _ (h3 j _ v hk hv)))
        · cases hc
      · exact (h3 i c v hc hv).mono ext
    · obtain ⟨vs, ty, h1, h2, h3⟩ := rel.heap.box k ds (by simpa [List.getElem?_set, hql] using hk2)
      exact ⟨vs, ty, h1, h2, fun i c v hc hv => (h3 i c v hc hv).mono ext⟩
  · have hk' : (r.set ri none)[k]? = some (some o) := hk'
    by_cases e : ri = k
    · subst e; simp [List.getElem?_set, hr] at hk'
    · have h1 := rel.heap.row k o (by simpa [List.getElem?_set, e] using hk')
      by_cases hal : o.al = true
      · rw [if_pos hal] at h1 ⊢
        obtain ⟨vs, t', q1, q2, q3, q4, q5, q6⟩ := h1
        exact ⟨vs, t', q1, q2, q3, q4, q5, fun i j x d v p1 p2 p3 => (q6 i j x d v p1 p2 p3).mono ext.im ext.same⟩
      · rw [if_neg hal] at h1 ⊢; exact h1
  · obtain ⟨arr, clock, h1, h2, h3⟩ := rel.heap.map k es hk'
    exact ⟨arr, clock, h1, h2, fun i x e hx he => ⟨(h3 i x e hx he).1.mono ext, (h3 i x e hx he).2.mono ext⟩⟩
  · exact (rel.tmps j' hj).mono ext
theorem LeV.aggNil (sz : Nat) : LeV (.agg [.d .nilsl]) (.agg [.d (.vec sz [])]) := fun im w v h => by
  cases h with | agg _ vs hl hx =>
  refine .agg _ _ hl (fun i c v hc hv => ?_)
  match i with
  | 0 =>
    simp at hc; subst hc
    have h1 := hx 0 _ v rfl hv
    cases h1 with | d _ _ h1 =>
    cases h1
    exact .d _ _ (.empty _ _ _)
  | i + 1 => simp at hc
end Go.Proofs.YtcchfmilleffjaaGreatDoor
namespace Go.Proofs.YtcchfmilleffjaaGreatDoor
open Go
open Go.RowKit
def itV (it : It) : V := .agg [.d (.int .u8 it.sign), .d (.str it.first), .d (.str it.last)]
def itD (t : List UInt8) : List D := [.int .u8 (itemB t).1.sign, .str (itemB t).1.first, .str (itemB t).1.last]
theorem sl_tail (s : List UInt8) : V.one (.d (.str ((s.take ((s.length : Int)).toNat).drop (1 : Int).toNat))) = V.one (.d (.str (s.drop 1))) := by simp
theorem le_rgNil {n : Int} {x : List Sp × Int} (h : x = ([], n)) : LeV (.tup [.agg [.d .nilsl], .one (.d (.int .i64 n))]) (.tup [rgV x.1, .one (.d (.int .i64 x.2))]) := by
  subst h; exact LeV.tup2 (LeV.aggNil 10) (LeV.refl _)
theorem le_rg {ss : List Sp} {n : Int} {x : List Sp × Int} (h : x = (ss, n)) : LeV (.tup [.agg [.d (.vec 10 (ss.map spD))], .one (.d (.int .i64 n))]) (.tup [rgV x.1, .one (.d (.int .i64 x.2))]) := by
  subst h; exact LeV.refl _
theorem len_pos {s : List UInt8} {b : Bool} (h : (!(s == []) && b) = true) : (1 : Int) ≤ (s.length : Int) := by
  cases s with
  | nil => simp at h
  | cons a l => simp only [List.length_cons]; omega
theorem pc_ver_itemOf (s : List UInt8) (hs : s.length < 4294967281) :
  PureCall Tryz.prog J 264 [.one (.d (.str s))] (.tup [itV (itemB s).1, .one (.d (.bool (itemB s).2))]) := by
 have h1 := trim_le s [62, 61]
 have h2 := cut_le (Lib.trimPrefix s [62, 61]) [32]
 have h3 := cut3_le (Lib.trimPrefix s [62, 61]) [32]
 refine PureCall.of_body tOk (fn := Tryz.f264) Tryz.func264 (by kernel_rfl) rfl (Nat.le_of_ble_eq_true rfl) (fun E => ?_)
 refine W.seq ?_
 refine W.region ?_
 refine S.alloc tOk rfl rfl rfl rfl ?_
 refine S.pure tOk zOk rfl rfl rfl ?_
 refine thenK_n ?_
 refine W.seq ?_
 refine W.seq ?_
 refine W.region ?_
 refine S.pure tOk zOk rfl rfl rfl ?_
 refine S.pure tOk zOk rfl rfl rfl ?_
 refine thenK_n ?_
 refine W.cond rfl (fun c1 => ?_) (fun c1 => ?_)
 ·skip
  refine W.seq ?_
  refine W.region ?_
  refine S.pure tOk zOk rfl rfl rfl ?_
  refine S.store tOk rfl rfl rfl rfl rfl rfl rfl rfl ?_
  refine S.pure tOk zOk rfl rfl rfl ?_
  refine thenK_n ?_
  refine W.ret ?_
  refine thenK_r ?_
  exact ⟨_, rfl, rfl, LeV.of_force rfl (congrArg (fun x : It × Bool => V.tup [itV x.1, .one (.d (.bool x.2))]) ((if_pos c1) : itemB s = _)).symm⟩
 ·skip
  refine W.skip ?_
  refine thenK_n ?_
  refine W.seq ?_
  refine W.region ?_
  refine S.pure tOk zOk rfl rfl rfl ?_
  refine S.pure tOk zOk rfl rfl rfl ?_
  refine S.alloc tOk rfl rfl rfl rfl ?_
  refine S.store tOk rfl rfl rfl rfl rfl rfl rfl rfl ?_
  refine thenK_n ?_
  refine W.seq ?_
  refine W.seq ?_
  refine W.region ?_
  refine S.pure tOk zOk rfl rfl rfl ?_
  refine S.call rfl rfl rfl rfl rfl (pc_CutPrefix s [62, 61]) ?_
  refine S.pure tOk zOk rfl rfl rfl ?_
  refine S.pure tOk zOk rfl rfl rfl ?_
  refine S.pure tOk zOk rfl rfl rfl ?_
  refine S.pure tOk zOk rfl rfl rfl ?_
  refine S.pure tOk zOk rfl rfl rfl ?_
  refine thenK_n ?_
  refine W.seq ?_
  refine W.region ?_
  refine S.pure tOk zOk rfl rfl rfl ?_
  refine thenK_n ?_
  refine W.cond rfl (fun c2 => ?_) (fun c2 => ?_)
  ·skip
   refine W.seq ?_
   refine W.region ?_
   refine S.pure tOk zOk rfl rfl rfl ?_
   refine S.pure tOk zOk rfl rfl rfl ?_
   refine S.store tOk rfl rfl rfl rfl rfl rfl rfl rfl ?_
   refine thenK_n ?_
   refine W.seq ?_
   refine W.region ?_
   refine S.pure tOk zOk rfl rfl rfl ?_
   refine S.call rfl rfl rfl rfl rfl (pc_Cut (Lib.trimPrefix s [62, 61]) [32] (by omega)) ?_
   refine S.pure tOk zOk rfl rfl rfl ?_
   refine S.pure tOk zOk rfl rfl rfl ?_
   refine S.pure tOk zOk rfl rfl rfl ?_
   refine S.pure tOk zOk rfl rfl rfl ?_
   refine S.pure tOk zOk rfl rfl rfl ?_
   refine S.pure tOk zOk rfl rfl rfl ?_
   refine S.pure tOk zOk rfl rfl rfl ?_
   refine thenK_n ?_
   refine W.seq ?_
   refine W.region ?_
   refine S.pure tOk zOk rfl rfl rfl ?_
   refine thenK_n ?_
   refine W.cond rfl (fun c3 => ?_) (fun c3 => ?_)
   ·skip
    refine W.seq ?_
    refine W.region ?_
    refine S.pure tOk zOk rfl rfl rfl ?_
    refine S.call rfl rfl rfl rfl rfl (pc_CutPrefix (Lib.cut (Lib.trimPrefix s [62, 61]) [32]).2.1 [60]) ?_
    refine S.pure tOk zOk rfl rfl rfl ?_
    refine S.pure tOk zOk rfl rfl rfl ?_
    refine S.pure tOk zOk rfl rfl rfl ?_
    refine S.pure tOk zOk rfl rfl rfl ?_
    refine S.pure tOk zOk rfl rfl rfl ?_
    refine thenK_n ?_
    refine W.seq ?_
    refine W.region ?_
    refine S.pure tOk zOk rfl rfl rfl ?_
    refine S.pure tOk zOk rfl rfl rfl ?_
    refine S.pure tOk zOk rfl rfl rfl ?_
    refine S.pure tOk zOk rfl rfl rfl ?_
    refine S.pure tOk zOk rfl rfl rfl ?_
    refine S.pureG tOk zOk rfl rfl tg (fun _ => rfl) rfl ?_
    refine S.callG rfl rfl rfl rfl tg rfl rfl (fun _ => pc_ver_isRow _ (by first | omega | (simp; omega))) ?_
    refine S.pickAnd tOk zOk rfl rfl tg ?_
    refine S.pure tOk zOk rfl rfl rfl ?_
    refine S.pureG tOk zOk rfl rfl tg (fun _ => rfl) rfl ?_
    refine S.callG rfl rfl rfl rfl tg rfl rfl (fun _ => pc_ver_isRow _ (by first | omega | (simp; omega))) ?_
    refine S.pickAnd tOk zOk rfl rfl tg ?_
    refine S.store tOk rfl rfl rfl rfl rfl rfl rfl rfl ?_
    refine S.pure tOk zOk rfl rfl rfl ?_
    refine thenK_n ?_
    refine W.ret ?_
    refine thenK_r ?_
    exact ⟨_, rfl, rfl, LeV.of_force rfl (congrArg (fun x : It × Bool => V.tup [itV x.1, .one (.d (.bool x.2))]) (((if_neg (Bool.eq_false_iff.1 c1)).trans ((if_pos c2).trans (if_pos c3))) : itemB s = _)).symm⟩
   ·skip
    refine W.skip ?_
    refine thenK_n ?_
    refine W.seq ?_
    refine W.regionD mixed (by kernel_rfl) ?_
    refine D.pure tOk zOk rfl rfl rfl rfl ?_
    refine D.pure tOk zOk rfl rfl rfl rfl ?_
    refine D.pure tOk zOk rfl rfl rfl rfl ?_
    refine D.call rfl rfl rfl rfl rfl (pc_ver_isRow _ (by first | omega | (simp; omega))) ?_
    refine D.store tOk rfl rfl rfl rfl rfl rfl rfl rfl ?_
    refine D.pure tOk zOk rfl rfl rfl rfl ?_
    refine thenK_n ?_
    refine W.ret ?_
    exact ⟨_, rfl, rfl, LeV.of_force rfl (congrArg (fun x : It × Bool => V.tup [itV x.1, .one (.d (.bool x.2))]) (((if_neg (Bool.eq_false_iff.1 c1)).trans ((if_pos c2).trans (if_neg (Bool.eq_false_iff.1 c3)))) : itemB s = _)).symm⟩
  ·skip
   refine W.seq ?_
   refine W.region ?_
   refine S.pure tOk zOk rfl rfl rfl ?_
   refine S.pure tOk zOk rfl rfl rfl ?_
   refine S.pure tOk zOk rfl rfl rfl ?_
   refine S.pureG tOk zOk rfl rfl tg (fun _ => rfl) rfl ?_
   refine S.pureG tOk zOk rfl rfl tg (fun h => idx_ok (Int.le_refl _) (by have := len_pos (b := true) (by simpa using h); omega)) rfl ?_
   refine S.callG rfl rfl rfl rfl tg rfl rfl (fun _ => pc_IndexByte _ _) ?_
   refine S.pureG tOk zOk rfl rfl tg (fun _ => rfl) rfl ?_
   refine S.pickAnd tOk zOk rfl rfl tg ?_
   refine thenK_n ?_
   refine W.cond rfl (fun c4 => ?_) (fun c4 => ?_)
   ·skip
    refine W.regionD mixed (by kernel_rfl) ?_
    refine D.pure tOk zOk rfl rfl rfl rfl ?_
    refine D.pure tOk zOk rfl rfl (idx_ok (Int.le_refl _) (by have := len_pos c4; omega)) rfl ?_
    refine D.pure tOk zOk rfl rfl rfl rfl ?_
    refine D.pureE tOk zOk rfl rfl (sl_ok (l := 1) (h := (s.length : Int)) (n := (s.length : Int)) (by decide) (len_pos c4) (Int.le_refl _)) (sl_tail s) rfl ?_
    refine D.pure tOk zOk rfl rfl rfl rfl ?_
    refine D.store tOk rfl rfl rfl rfl rfl rfl rfl rfl ?_
    refine thenK_n ?_
    refine W.seq ?_
    refine W.regionD mixed (by kernel_rfl) ?_
    refine D.pure tOk zOk rfl rfl rfl rfl ?_
    refine D.pure tOk zOk rfl rfl rfl rfl ?_
    refine D.pure tOk zOk rfl rfl rfl rfl ?_
    refine D.call rfl rfl rfl rfl rfl (pc_ver_isRow _ (by first | omega | (simp; omega))) ?_
    refine D.store tOk rfl rfl rfl rfl rfl rfl rfl rfl ?_
    refine D.pure tOk zOk rfl rfl rfl rfl ?_
    refine thenK_n ?_
    refine W.ret ?_
    exact ⟨_, rfl, rfl, LeV.of_force rfl (congrArg (fun x : It × Bool => V.tup [itV x.1, .one (.d (.bool x.2))]) (((if_neg (Bool.eq_false_iff.1 c1)).trans ((if_neg (Bool.eq_false_iff.1 c2)).trans (if_pos c4))) : itemB s = _)).symm⟩
   ·skip
    refine W.skip ?_
    refine thenK_n ?_
    refine W.seq ?_
    refine W.regionD mixed (by kernel_rfl) ?_
    refine D.pure tOk zOk rfl rfl rfl rfl ?_
    refine D.pure tOk zOk rfl rfl rfl rfl ?_
    refine D.pure tOk zOk rfl rfl rfl rfl ?_
    refine D.call rfl rfl rfl rfl rfl (pc_ver_isRow _ (by first | omega | (simp; omega))) ?_
    refine D.store tOk rfl rfl rfl rfl rfl rfl rfl rfl ?_
    refine D.pure tOk zOk rfl rfl rfl rfl ?_
    refine thenK_n ?_
    refine W.ret ?_
    exact ⟨_, rfl, rfl, LeV.of_force rfl (congrArg (fun x : It × Bool => V.tup [itV x.1, .one (.d (.bool x.2))]) (((if_neg (Bool.eq_false_iff.1 c1)).trans ((if_neg (Bool.eq_false_iff.1 c2)).trans (if_neg (Bool.eq_false_iff.1 c4)))) : itemB s = _)).symm⟩
theorem pc_ver_behind (v : Ver) (he : v.e.length < 4294967000) (g : Int) :
  PureCall Tryz.prog J 283 [verV v, .one (.d (.int .u8 g))] (.tup [verV (behindB v g).1, .one (.d (.int .i64 (behindB v g).2))]) := by
 refine PureCall.of_body tOk (fn := Tryz.f283) Tryz.func283 (by kernel_rfl) rfl (Nat.le_of_ble_eq_true rfl) (fun E => ?_)
 refine W.seq ?_
 refine W.region ?_
 refine S.box rfl rfl rfl rfl ?_
 refine S.alloc tOk rfl rfl rfl rfl ?_
 refine S.pure tOk zOk rfl rfl rfl ?_
 refine thenK_n ?_
 refine W.seq ?_
 refine W.block ?_
 refine W.seq ?_
 refine W.region ?_
 refine S.pure tOk zOk rfl rfl rfl ?_
 refine S.pure tOk zOk rfl rfl rfl ?_
 refine S.pure tOk zOk rfl rfl rfl ?_
 refine S.pureG tOk zOk rfl rfl tg (fun _ => rfl) rfl ?_
 refine S.pureG tOk zOk rfl rfl tg (fun _ => rfl) rfl ?_
 refine S.pureG tOk zOk rfl rfl tg (fun _ => rfl) rfl ?_
 refine S.pickAnd tOk zOk rfl rfl tg ?_
 refine S.pure tOk zOk rfl rfl rfl ?_
 refine thenK_n ?_
 refine W.cond rfl (fun c1 => ?_) (fun c1 => ?_)
 ·skip
  refine W.seq ?_
  refine W.region ?_
  refine S.pure tOk zOk rfl rfl rfl ?_
  refine S.pure tOk zOk rfl rfl rfl ?_
  refine S.pure tOk zOk rfl (cat_ok (by simp [-List.getD_eq_getElem?_getD]; omega)) rfl ?_
  refine S.pure tOk zOk rfl rfl rfl ?_
  refine S.store tOk rfl rfl rfl rfl rfl rfl rfl rfl ?_
  refine thenK_n ?_
  refine W.seq ?_
  refine W.regionD mixed (by kernel_rfl) ?_
  refine D.pure tOk zOk rfl rfl rfl rfl ?_
  refine D.pure tOk zOk rfl rfl rfl rfl ?_
  refine D.call rfl rfl rfl rfl rfl (pc_ver_Check ⟨v.a, v.b, v.c, v.e ++ [46, 48]⟩ (by simp; omega)) ?_
  refine D.store tOk rfl rfl rfl rfl rfl rfl rfl rfl ?_
  refine D.pure tOk zOk rfl rfl rfl rfl ?_
  refine thenK_n ?_
  refine W.ret ?_
  refine blockK_r ?_
  refine thenK_r ?_
  exact ⟨_, rfl, rfl, LeV.of_force rfl (congrArg (fun x : Ver × Int => V.tup [verV x.1, .one (.d (.int .i64 x.2))]) ((if_pos c1) : behindB v g = _)).symm⟩
 ·skip
  refine W.seq ?_
  refine W.region ?_
  refine S.pure tOk zOk rfl rfl rfl ?_
  refine S.pure tOk zOk rfl rfl rfl ?_
  refine S.pure tOk zOk rfl rfl rfl ?_
  refine thenK_n ?_
  refine W.cond rfl (fun c2 => ?_) (fun c2 => ?_)
  ·skip
   refine W.seq ?_
   refine W.region ?_
   refine S.pure tOk zOk rfl rfl rfl ?_
   refine S.call rfl rfl rfl rfl rfl (pc_ver_Next v (by omega) 2) ?_
   refine S.pure tOk zOk rfl rfl rfl ?_
   refine S.pure tOk zOk rfl rfl rfl ?_
   refine S.pure tOk zOk rfl rfl rfl ?_
   refine S.alloc tOk rfl rfl rfl rfl ?_
   refine S.store tOk rfl rfl rfl rfl rfl rfl rfl rfl ?_
   refine S.pure tOk zOk rfl rfl rfl ?_
   refine thenK_n ?_
   refine W.seq ?_
   refine W.region ?_
   refine S.pure tOk zOk rfl rfl rfl ?_
   refine S.store tOk rfl rfl rfl rfl rfl rfl rfl rfl ?_
   refine thenK_n ?_
   refine W.seq ?_
   refine W.region ?_
   refine S.pure tOk zOk rfl rfl rfl ?_
   refine S.pure tOk zOk rfl rfl rfl ?_
   refine S.store tOk rfl rfl rfl rfl rfl rfl rfl rfl ?_
   refine S.pure tOk zOk rfl rfl rfl ?_
   refine thenK_n ?_
   refine W.ret ?_
   refine blockK_r ?_
   refine thenK_r ?_
   exact ⟨_, rfl, rfl, LeV.of_force rfl (congrArg (fun x : Ver × Int => V.tup [verV x.1, .one (.d (.int .i64 x.2))]) (((if_neg (Bool.eq_false_iff.1 c1)).trans (if_pos c2)) : behindB v g = _)).symm⟩
  ·skip
   refine W.seq ?_
   refine W.region ?_
   refine S.pure tOk zOk rfl rfl rfl ?_
   refine S.pure tOk zOk rfl rfl rfl ?_
   refine S.pure tOk zOk rfl rfl rfl ?_
   refine S.pureG tOk zOk rfl rfl tg (fun _ => rfl) rfl ?_
   refine S.pureG tOk zOk rfl rfl tg (fun _ => rfl) rfl ?_
   refine S.pureG tOk zOk rfl rfl tg (fun _ => rfl) rfl ?_
   refine S.pickAnd tOk zOk rfl rfl tg ?_
   refine S.pure tOk zOk rfl rfl rfl ?_
   refine thenK_n ?_
   refine W.cond rfl (fun c3 => ?_) (fun c3 => ?_)
   ·skip
    refine W.seq ?_
    refine W.region ?_
    refine S.pure tOk zOk rfl rfl rfl ?_
    refine S.call rfl rfl rfl rfl rfl (pc_ver_Next v (by omega) 0) ?_
    refine S.pure tOk zOk rfl rfl rfl ?_
    refine S.pure tOk zOk rfl rfl rfl ?_
    refine S.store tOk rfl rfl rfl rfl rfl rfl rfl rfl ?_
    refine S.pure tOk zOk rfl rfl rfl ?_
    refine thenK_n ?_
    refine W.ret ?_
    refine blockK_r ?_
    refine thenK_r ?_
    exact ⟨_, rfl, rfl, LeV.of_force rfl (congrArg (fun x : Ver × Int => V.tup [verV x.1, .one (.d (.int .i64 x.2))]) (((if_neg (Bool.eq_false_iff.1 c1)).trans ((if_neg (Bool.eq_false_iff.1 c2)).trans (if_pos c3))) : behindB v g = _)).symm⟩
   ·skip
    refine W.skip ?_
    refine blockK_n ?_
    refine thenK_n ?_
    refine W.seq ?_
    refine W.region ?_
    refine S.pure tOk zOk rfl rfl rfl ?_
    refine S.call rfl rfl rfl rfl rfl (pc_ver_Next v (by omega) 1) ?_
    refine S.pure tOk zOk rfl rfl rfl ?_
    refine S.pure tOk zOk rfl rfl rfl ?_
    refine S.store tOk rfl rfl rfl rfl rfl rfl rfl rfl ?_
    refine S.pure tOk zOk rfl rfl rfl ?_
    refine thenK_n ?_
    refine W.ret ?_
    exact ⟨_, rfl, rfl, LeV.of_force rfl (congrArg (fun x : Ver × Int => V.tup [verV x.1, .one (.d (.int .i64 x.2))]) (((if_neg (Bool.eq_false_iff.1 c1)).trans ((if_neg (Bool.eq_false_iff.1 c2)).trans (if_neg (Bool.eq_false_iff.1 c3)))) : behindB v g = _)).symm⟩
theorem pc_ver_spanOf (it : It) (h1 : it.first.length < 4294967000) (h2 : it.last.length < 4294967000) :
  PureCall Tryz.prog J 266 [itV it] (.tup [spV (spanB it).1, .one (.d (.int .i64 (spanB it).2))]) := by
 have h3 := parse_e it.first
 refine PureCall.of_body tOk (fn := Tryz.f266) Tryz.func266 (by kernel_rfl) rfl (Nat.le_of_ble_eq_true rfl) (fun E => ?_)
 refine W.seq ?_
 refine W.region ?_
 refine S.box rfl rfl rfl rfl ?_
 refine S.alloc tOk rfl rfl rfl rfl ?_
 refine S.pure tOk zOk rfl rfl rfl ?_
 refine thenK_n ?_
 refine W.seq ?_
 refine W.seq ?_
 refine W.region ?_
 refine S.pure tOk zOk rfl rfl rfl ?_
 refine S.pure tOk zOk rfl rfl rfl ?_
 refine S.pure tOk zOk rfl rfl rfl ?_
 refine thenK_n ?_
 refine W.cond rfl (fun c1 => ?_) (fun c1 => ?_)
 ·skip
  refine W.seq ?_
  refine W.region ?_
  refine S.pure tOk zOk rfl rfl rfl ?_
  refine S.store tOk rfl rfl rfl rfl rfl rfl rfl rfl ?_
  refine S.pure tOk zOk rfl rfl rfl ?_
  refine thenK_n ?_
  refine W.ret ?_
  refine thenK_r ?_
  exact ⟨_, rfl, rfl, LeV.of_force rfl (congrArg (fun x : Sp × Int => V.tup [spV x.1, .one (.d (.int .i64 x.2))]) ((if_pos c1) : spanB it = _)).symm⟩
 ·skip
  refine W.skip ?_
  refine thenK_n ?_
  refine W.seq ?_
  refine W.region ?_
  refine S.pure tOk zOk rfl rfl rfl ?_
  refine S.pure tOk zOk rfl rfl rfl ?_
  refine S.call rfl rfl rfl rfl rfl (pc_ver_Parse it.first (by omega)) ?_
  refine S.pure tOk zOk rfl rfl rfl ?_
  refine S.pure tOk zOk rfl rfl rfl ?_
  refine S.pure tOk zOk rfl rfl rfl ?_
  refine S.alloc tOk rfl rfl rfl rfl ?_
  refine S.store tOk rfl rfl rfl rfl rfl rfl rfl rfl ?_
  refine S.pure tOk zOk rfl rfl rfl ?_
  refine thenK_n ?_
  refine W.seq ?_
  refine W.seq ?_
  refine W.region ?_
  refine S.pure tOk zOk rfl rfl rfl ?_
  refine S.pure tOk zOk rfl rfl rfl ?_
  refine thenK_n ?_
  refine W.cond rfl (fun c2 => ?_) (fun c2 => ?_)
  ·skip
   refine W.seq ?_
   refine W.region ?_
   refine S.pure tOk zOk rfl rfl rfl ?_
   refine S.pure tOk zOk rfl rfl rfl ?_
   refine S.store tOk rfl rfl rfl rfl rfl rfl rfl rfl ?_
   refine S.pure tOk zOk rfl rfl rfl ?_
   refine thenK_n ?_
   refine W.ret ?_
   refine thenK_r ?_
   exact ⟨_, rfl, rfl, LeV.of_force rfl (congrArg (fun x : Sp × Int => V.tup [spV x.1, .one (.d (.int .i64 x.2))]) (((if_neg (Bool.eq_false_iff.1 c1)).trans (if_pos c2)) : spanB it = _)).symm⟩
  ·skip
   refine W.skip ?_
   refine thenK_n ?_
   refine W.seq ?_
   refine W.seq ?_
   refine W.region ?_
   refine S.pure tOk zOk rfl rfl rfl ?_
   refine S.pure tOk zOk rfl rfl rfl ?_
   refine thenK_n ?_
   refine W.block ?_
   refine W.seq ?_
   refine W.region ?_
   refine S.pure tOk zOk rfl rfl rfl ?_
   refine S.pure tOk zOk rfl rfl rfl ?_
   refine thenK_n ?_
   refine W.cond rfl (fun c3 => ?_) (fun c3 => ?_)
   ·skip
    refine W.seq ?_
    refine W.region ?_
    refine S.pure tOk zOk rfl rfl rfl ?_
    refine S.pure tOk zOk rfl rfl rfl ?_
    refine S.store tOk rfl rfl rfl rfl rfl rfl rfl rfl ?_
    refine S.pure tOk zOk rfl rfl rfl ?_
    refine thenK_n ?_
    refine W.ret ?_
    refine blockK_r ?_
    refine thenK_r ?_
    exact ⟨_, rfl, rfl, LeV.of_force rfl (congrArg (fun x : Sp × Int => V.tup [spV x.1, .one (.d (.int .i64 x.2))]) (((if_neg (Bool.eq_false_iff.1 c1)).trans ((if_neg (Bool.eq_false_iff.1 c2)).trans (if_pos c3))) : spanB it = _)).symm⟩
   ·skip
    refine W.seq ?_
    refine W.region ?_
    refine S.pure tOk zOk rfl rfl rfl ?_
    refine S.pure tOk zOk rfl rfl rfl ?_
    refine thenK_n ?_
    refine W.cond rfl (fun c4 => ?_) (fun c4 => ?_)
    ·skip
     refine W.seq ?_
     refine W.region ?_
     refine S.pure tOk zOk rfl rfl rfl ?_
     refine S.pure tOk zOk rfl rfl rfl ?_
     refine S.store tOk rfl rfl rfl rfl rfl rfl rfl rfl ?_
     refine S.pure tOk zOk rfl rfl rfl ?_
     refine thenK_n ?_
     refine W.ret ?_
     refine blockK_r ?_
     refine thenK_r ?_
     exact ⟨_, rfl, rfl, LeV.of_force rfl (congrArg (fun x : Sp × Int => V.tup [spV x.1, .one (.d (.int .i64 x.2))]) (((if_neg (Bool.eq_false_iff.1 c1)).trans ((if_neg (Bool.eq_false_iff.1 c2)).trans ((if_neg (Bool.eq_false_iff.1 c3)).trans (if_pos c4)))) : spanB it = _)).symm⟩
    ·skip
     refine W.seq ?_
     refine W.region ?_
     refine S.pure tOk zOk rfl rfl rfl ?_
     refine S.pure tOk zOk rfl rfl rfl ?_
     refine thenK_n ?_
     refine W.cond rfl (fun c5 => ?_) (fun c5 => ?_)
     ·skip
      refine W.seq ?_
      refine W.region ?_
      refine S.pure tOk zOk rfl rfl rfl ?_
      refine S.pure tOk zOk rfl rfl rfl ?_
      refine S.call rfl rfl rfl rfl rfl (pc_ver_Parse it.last (by omega)) ?_
      refine S.pure tOk zOk rfl rfl rfl ?_
      refine S.pure tOk zOk rfl rfl rfl ?_
      refine S.pure tOk zOk rfl rfl rfl ?_
      refine S.alloc tOk rfl rfl rfl rfl ?_
      refine S.store tOk rfl rfl rfl rfl rfl rfl rfl rfl ?_
      refine S.pure tOk zOk rfl rfl rfl ?_
      refine thenK_n ?_
      refine W.seq ?_
      refine W.region ?_
      refine S.pure tOk zOk rfl rfl rfl ?_
      refine S.pure tOk zOk rfl rfl rfl ?_
      refine S.pure tOk zOk rfl rfl rfl ?_
      refine S.pure tOk zOk rfl rfl rfl ?_
      refine S.store tOk rfl rfl rfl rfl rfl rfl rfl rfl ?_
      refine S.pure tOk zOk rfl rfl rfl ?_
      refine thenK_n ?_
      refine W.ret ?_
      refine blockK_r ?_
      refine thenK_r ?_
      exact ⟨_, rfl, rfl, LeV.of_force rfl (congrArg (fun x : Sp × Int => V.tup [spV x.1, .one (.d (.int .i64 x.2))]) (((if_neg (Bool.eq_false_iff.1 c1)).trans ((if_neg (Bool.eq_false_iff.1 c2)).trans ((if_neg (Bool.eq_false_iff.1 c3)).trans ((if_neg (Bool.eq_false_iff.1 c4)).trans (if_pos c5))))) : spanB it = _)).symm⟩
     ·skip
      refine W.skip ?_
      refine blockK_n ?_
      refine thenK_n ?_
      refine W.seq ?_
      refine W.region ?_
      refine S.pure tOk zOk rfl rfl rfl ?_
      refine S.pure tOk zOk rfl rfl rfl ?_
      refine S.pure tOk zOk rfl rfl rfl ?_
      refine S.call rfl rfl rfl rfl rfl (pc_ver_behind (parseB it.first).1 (by omega) it.sign) ?_
      refine S.pure tOk zOk rfl rfl rfl ?_
      refine S.pure tOk zOk rfl rfl rfl ?_
      refine S.pure tOk zOk rfl rfl rfl ?_
      refine S.alloc tOk rfl rfl rfl rfl ?_
      refine S.store tOk rfl rfl rfl rfl rfl rfl rfl rfl ?_
      refine S.pure tOk zOk rfl rfl rfl ?_
      refine thenK_n ?_
      refine W.seq ?_
      refine W.region ?_
      refine S.pure tOk zOk rfl rfl rfl ?_
      refine S.pure tOk zOk rfl rfl rfl ?_
      refine S.pure tOk zOk rfl rfl rfl ?_
      refine S.pure tOk zOk rfl rfl rfl ?_
      refine S.store tOk rfl rfl rfl rfl rfl rfl rfl rfl ?_
      refine S.pure tOk zOk rfl rfl rfl ?_
      refine thenK_n ?_
      refine W.ret ?_
      exact ⟨_, rfl, rfl, LeV.of_force rfl (congrArg (fun x : Sp × Int => V.tup [spV x.1, .one (.d (.int .i64 x.2))]) (((if_neg (Bool.eq_false_iff.1 c1)).trans ((if_neg (Bool.eq_false_iff.1 c2)).trans ((if_neg (Bool.eq_false_iff.1 c3)).trans ((if_neg (Bool.eq_false_iff.1 c4)).trans (if_neg (Bool.eq_false_iff.1 c5)))))) : spanB it = _)).symm⟩
theorem pc_ver_ParseRange (s : List UInt8) (hs : s.length < 4294967000) :
  PureCall Tryz.prog J 224 [.one (.d (.str s))] (.tup [rgV (rangeB s).1, .one (.d (.int .i64 (rangeB s).2))]) := by
 have hmany := split_le s [44, 32]
 have hm := fun i => @split_at s [44, 32] i
 refine PureCall.of_body tOk (fn := Tryz.f224) Tryz.func224 (by kernel_rfl) rfl (Nat.le_of_ble_eq_true rfl) (fun E => ?_)
 refine W.seq ?_
 refine W.region ?_
 refine S.alloc tOk rfl rfl rfl rfl ?_
 refine S.pure tOk zOk rfl rfl rfl ?_
 refine thenK_n ?_
 refine W.seq ?_
 refine W.seq ?_
 refine W.region ?_
 refine S.pure tOk zOk rfl rfl rfl ?_
 refine S.pure tOk zOk rfl rfl rfl ?_
 refine S.pure tOk zOk rfl rfl rfl ?_
 refine thenK_n ?_
 refine W.cond rfl (fun c1 => ?_) (fun c1 => ?_)
 ·skip
  refine W.seq ?_
  refine W.region ?_
  refine S.pure tOk zOk rfl rfl rfl ?_
  refine S.store tOk rfl rfl rfl rfl rfl rfl rfl rfl ?_
  refine S.pure tOk zOk rfl rfl rfl ?_
  refine thenK_n ?_
  refine W.ret ?_
  refine thenK_r ?_
  exact ⟨_, rfl, rfl, le_rgNil (rB_large c1)⟩
 ·skip
  refine W.skip ?_
  refine thenK_n ?_
  refine W.seq ?_
  refine W.seq ?_
  refine W.region ?_
  refine S.pure tOk zOk rfl rfl rfl ?_
  refine S.pure tOk zOk rfl rfl rfl ?_
  refine thenK_n ?_
  refine W.cond rfl (fun c2 => ?_) (fun c2 => ?_)
  ·skip
   refine W.seq ?_
   refine W.region ?_
   refine S.pure tOk zOk rfl rfl rfl ?_
   refine S.store tOk rfl rfl rfl rfl rfl rfl rfl rfl ?_
   refine S.pure tOk zOk rfl rfl rfl ?_
   refine thenK_n ?_
   refine W.ret ?_
   refine thenK_r ?_
   exact ⟨_, rfl, rfl, le_rgNil (rB_none c1 c2)⟩
  ·skip
   refine W.skip ?_
   refine thenK_n ?_
   refine W.seq ?_
   refine W.region ?_
   refine S.pure tOk zOk rfl rfl rfl ?_
   refine thenK_n ?_
   refine W.seq ?_
   refine W.seq ?_
   refine W.newRow 4 3 301 rfl ?_
   refine W.region ?_
   refine S.pure tOk zOk rfl rfl rfl ?_
   refine S.call rfl rfl rfl rfl rfl (pc_Split s [44, 32] (by omega) (by decide)) ?_
   refine S.pure tOk zOk rfl rfl rfl ?_
   refine S.pure tOk zOk rfl rfl rfl ?_
   refine thenK_n ?_
   refine W.block ?_
   refine W.loop (fun k st => ∃ i : Nat, ∃ v : Nat, ∃ al : Bool, i ≤ (Lib.split s [44, 32]).length ∧ ((Lib.split s [44, 32]).take i).any badB = false ∧ k = (Lib.split s [44, 32]).length - i ∧ ∃ t b2 r2 m2, st = ⟨t, [[.d .nilsl]] ++ b2, [some ⟨al, v, 3, 301, (((Lib.split s [44, 32]).take i).map itD)⟩] ++ r2, [] ++ m2⟩ ∧ holdsL t [(2, .one (.ptr 0 0)), (4, .one (.row 0 v 0 (((Lib.split s [44, 32]).take i).map itD).length)), (23, .one (.d (.vec 1 ((Lib.split s [44, 32]).map fun x => [.str x])))), (24, .one (.d (.int .i64 (((Lib.split s [44, 32]).map fun x => ([.str x] : List D)).length : Int)))), (25, .one (.d (.int .i64 (i : Int))))]) ((Lib.split s [44, 32]).length) ⟨0, 0, false, Nat.zero_le _, by simp, rfl, _, _, _, _, rfl, rfl, rfl, rfl, rfl, rfl, trivial⟩ ?_
   rintro k0 _ ⟨i, v, al, f0_0, f0_1, rfl, t0, bb0, rr0, mm0, rfl, hh0⟩
   refine W.keepR _ _ _ _ _ _ _ hh0 rfl ?_
   refine W.seq ?_
   refine W.region ?_
   refine S.pure tOk zOk rfl rfl rfl ?_
   refine thenK_n ?_
   refine W.seq ?_
   refine W.cond rfl (fun c3 => ?_) (fun c3 => ?_)
   ·skip
    have hi := row_lt c3
    refine W.skip ?_
    refine thenK_n ?_
    refine W.seq ?_
    refine W.block ?_
    refine W.seq ?_
    refine W.region ?_
    refine S.pureE tOk zOk rfl (row_ok hi) (row_at [] hi) rfl ?_
    refine S.pure tOk zOk rfl rfl rfl ?_
    refine S.pure tOk zOk rfl rfl rfl ?_
    refine thenK_n ?_
    refine W.seq ?_
    refine W.region ?_
    refine S.pure tOk zOk rfl rfl rfl ?_
    refine S.call rfl rfl rfl rfl rfl (pc_ver_itemOf ((Lib.split s [44, 32]).getD i []) (by have := hm i; omega)) ?_
    refine S.pure tOk zOk rfl rfl rfl ?_
    refine S.pure tOk zOk rfl rfl rfl ?_
    refine S.pure tOk zOk rfl rfl rfl ?_
    refine S.alloc tOk rfl rfl rfl rfl ?_
    refine S.store tOk rfl rfl rfl rfl rfl rfl rfl rfl ?_
    refine S.pure tOk zOk rfl rfl rfl ?_
    refine thenK_n ?_
    refine W.seq ?_
    refine W.seq ?_
    refine W.region ?_
    refine S.pure tOk zOk rfl rfl rfl ?_
    refine S.pure tOk zOk rfl rfl rfl ?_
    refine S.pure tOk zOk rfl rfl rfl ?_
    refine S.pureG tOk zOk rfl rfl tg (fun _ => rfl) rfl ?_
    refine S.pureG tOk zOk rfl rfl tg (fun _ => rfl) rfl ?_
    refine S.pureG tOk zOk rfl rfl tg (fun _ => rfl) rfl ?_
    refine S.pureG tOk zOk rfl rfl tg (fun _ => rfl) rfl ?_
    refine S.pureG tOk zOk rfl rfl tg (fun _ => rfl) rfl ?_
    refine S.pureG tOk zOk rfl rfl tg (fun _ => rfl) rfl ?_
    refine S.callG rfl rfl rfl rfl tg rfl rfl (fun _ => pc_ver_wrong (itemB ((Lib.split s [44, 32]).getD i [])).1.first (by have := hm i; have := item_le ((Lib.split s [44, 32]).getD i []); omega)) ?_
    refine S.pickAndG tOk zOk rfl rfl rfl tg tg ?_
    refine S.pickOr tOk zOk rfl rfl tg ?_
    refine S.pure tOk zOk rfl rfl rfl ?_
    refine S.pureG tOk zOk rfl rfl tg (fun _ => rfl) rfl ?_
    refine S.pureG tOk zOk rfl rfl tg (fun _ => rfl) rfl ?_
    refine S.pureG tOk zOk rfl rfl tg (fun _ => rfl) rfl ?_
    refine S.pureG tOk zOk rfl rfl tg (fun _ => rfl) rfl ?_
    refine S.pureG tOk zOk rfl rfl tg (fun _ => rfl) rfl ?_
    refine S.pureG tOk zOk rfl rfl tg (fun _ => rfl) rfl ?_
    refine S.callG rfl rfl rfl rfl tg rfl rfl (fun _ => pc_ver_wrong (itemB ((Lib.split s [44, 32]).getD i [])).1.last (by have := hm i; have := item_le ((Lib.split s [44, 32]).getD i []); omega)) ?_
    refine S.pickAndG tOk zOk rfl rfl rfl tg tg ?_
    refine S.pickOr tOk zOk rfl rfl tg ?_
    refine thenK_n ?_
    refine W.cond rfl (fun c4 => ?_) (fun c4 => ?_)
    ·skip
     refine W.seq ?_
     refine W.region ?_
     refine S.pure tOk zOk rfl rfl rfl ?_
     refine S.store tOk rfl rfl rfl rfl rfl rfl rfl rfl ?_
     refine S.pure tOk zOk rfl rfl rfl ?_
     refine thenK_n ?_
     refine W.ret ?_
     refine thenK_r ?_
     refine blockK_r ?_
     refine thenK_r ?_
     refine thenK_r ?_
     refine blockK_r ?_
     refine thenK_r ?_
     exact ⟨_, rfl, rfl, le_rgNil (rB_bad c1 c2 (any_hit (d := []) hi c4))⟩
    ·skip
     refine W.skip ?_
     refine thenK_n ?_
     refine W.region ?_
     refine S.pure tOk zOk rfl rfl rfl ?_
     refine S.pure tOk zOk rfl rfl rfl ?_
     refine S.slice tOk rfl rfl ?_
     refine S.append tOk rfl rfl rfl rfl rfl rfl rfl rfl rfl rfl rfl rfl (by show _ + 1 ≤ _; simp; omega) rfl (take_snoc [] hi) rfl ?_
     refine S.pure tOk zOk rfl rfl rfl ?_
     refine blockK_n ?_
     refine thenK_n ?_
     refine W.region ?_
     refine S.pure tOk zOk rfl rfl rfl ?_
     refine S.pure tOk zOk rfl rfl rfl ?_
     refine loop_n ((Lib.split s [44, 32]).length - (i + 1)) (by omega) ⟨i + 1, _, _, hi, any_take (d := []) hi f0_1 c4, rfl, _, _, _, _, rfl, rfl, rfl, rfl, rfl, inc_i64 (by omega), trivial⟩
   ·skip
    have hi := row_ge c3
    refine W.exit ?_
    refine thenK_e ?_
    refine thenK_e ?_
    refine blockK_x ?_
    refine thenK_n ?_
    refine W.seq ?_
    refine W.freeze (q := ⟨_, _, _, _, _⟩) [4] rfl (by intro k hk; simp at hk; subst hk; rfl) ?_
    have hall := any_end hi f0_1
    have hts : (Lib.split s [44, 32]).take i = (Lib.split s [44, 32]) := List.take_of_length_le hi
    rw [hts]
    refine W.region ?_
    refine S.pure tOk zOk rfl rfl rfl ?_
    refine S.alloc tOk rfl rfl rfl rfl ?_
    refine S.store tOk rfl rfl rfl rfl rfl rfl rfl rfl ?_
    refine thenK_n ?_
    refine W.seq ?_
    refine W.seq ?_
    refine W.newRowB 1 0 10 178 rfl rfl rfl ?_
    refine W.region ?_
    refine S.pure tOk zOk rfl rfl rfl ?_
    refine S.pure tOk zOk rfl rfl rfl ?_
    refine S.pure tOk zOk rfl rfl rfl ?_
    refine thenK_n ?_
    refine W.block ?_
    refine W.loop (fun k st => ∃ i : Nat, ∃ v : Nat, ∃ al : Bool, i ≤ (Lib.split s [44, 32]).length ∧ (((Lib.split s [44, 32]).map fun t => (spanB (itemB t).1).2).take i).all (· == 0) = true ∧ k = (Lib.split s [44, 32]).length - i ∧ ∃ t b2 r2 m2, st = ⟨t, [[.d .nilsl], [.row 1 v 0 ((((Lib.split s [44, 32]).take i).map spRes).map spD).length]] ++ b2, [none, some ⟨al, v, 10, 178, ((((Lib.split s [44, 32]).take i).map spRes).map spD)⟩] ++ r2, [] ++ m2⟩ ∧ holdsL t [(2, .one (.ptr 0 0)), (9, .one (.ptr 1 0)), (63, .one (.d (.vec 3 ((Lib.split s [44, 32]).map itD)))), (64, .one (.d (.int .i64 (((Lib.split s [44, 32]).map itD).length : Int)))), (65, .one (.d (.int .i64 (i : Int))))]) ((Lib.split s [44, 32]).length) ⟨0, 0, false, Nat.zero_le _, by simp, rfl, _, _, _, _, rfl, rfl, rfl, rfl, rfl, rfl, trivial⟩ ?_
    rintro k2 _ ⟨i, v, al, f2_0, f2_1, rfl, t2, bb2, rr2, mm2, rfl, hh2⟩
    refine W.keepR _ _ _ _ _ _ _ hh2 rfl ?_
    refine W.seq ?_
    refine W.region ?_
    refine S.pure tOk zOk rfl rfl rfl ?_
    refine thenK_n ?_
    refine W.seq ?_
    refine W.cond rfl (fun c5 => ?_) (fun c5 => ?_)
    ·skip
     have hi := row_lt c5
     refine W.skip ?_
     refine thenK_n ?_
     refine W.seq ?_
     refine W.block ?_
     refine W.seq ?_
     refine W.region ?_
     refine S.pureE tOk zOk rfl (row_ok hi) (row_at [] hi) rfl ?_
     refine S.pure tOk zOk rfl rfl rfl ?_
     refine S.alloc tOk rfl rfl rfl rfl ?_
     refine S.store tOk rfl rfl rfl rfl rfl rfl rfl rfl ?_
     refine thenK_n ?_
     refine W.seq ?_
     refine W.region ?_
     refine S.pure tOk zOk rfl rfl rfl ?_
     refine S.call rfl rfl rfl rfl rfl (pc_ver_spanOf (itemB ((Lib.split s [44, 32]).getD i [])).1 (by have := hm i; have := item_le ((Lib.split s [44, 32]).getD i []); omega) (by have := hm i; have := item_le ((Lib.split s [44, 32]).getD i []); omega)) ?_
     refine S.pure tOk zOk rfl rfl rfl ?_
     refine S.pure tOk zOk rfl rfl rfl ?_
     refine S.pure tOk zOk rfl rfl rfl ?_
     refine S.alloc tOk rfl rfl rfl rfl ?_
     refine S.store tOk rfl rfl rfl rfl rfl rfl rfl rfl ?_
     refine S.pure tOk zOk rfl rfl rfl ?_
     refine thenK_n ?_
     refine W.seq ?_
     refine W.seq ?_
     refine W.region ?_
     refine S.pure tOk zOk rfl rfl rfl ?_
     refine S.pure tOk zOk rfl rfl rfl ?_
     refine thenK_n ?_
     refine W.cond rfl (fun c6 => ?_) (fun c6 => ?_)
     ·skip
      refine W.seq ?_
      refine W.region ?_
      refine S.pure tOk zOk rfl rfl rfl ?_
      refine S.pure tOk zOk rfl rfl rfl ?_
      refine S.store tOk rfl rfl rfl rfl rfl rfl rfl rfl ?_
      refine S.pure tOk zOk rfl rfl rfl ?_
      refine thenK_n ?_
      refine W.ret ?_
      refine thenK_r ?_
      refine blockK_r ?_
      refine thenK_r ?_
      refine thenK_r ?_
      refine blockK_r ?_
      refine thenK_r ?_
      exact ⟨_, rfl, rfl, le_rgNil (rB_err c1 c2 hall (code_hit hi f2_1 c6) (by simpa using c6))⟩
     ·skip
      refine W.skip ?_
      refine thenK_n ?_
      refine W.region ?_
      refine S.pure tOk zOk rfl rfl rfl ?_
      refine S.pure tOk zOk rfl rfl rfl ?_
      refine S.pure tOk zOk rfl rfl rfl ?_
      refine S.slice tOk rfl rfl ?_
      refine S.append tOk rfl rfl rfl rfl rfl rfl rfl rfl rfl rfl rfl rfl (by show _ + 1 ≤ _; simp; omega) rfl (take_snoc2 [] hi) rfl ?_
      refine S.pure tOk zOk rfl rfl rfl ?_
      refine S.store tOk rfl rfl rfl rfl rfl rfl rfl rfl ?_
      refine blockK_n ?_
      refine thenK_n ?_
      refine W.region ?_
      refine S.pure tOk zOk rfl rfl rfl ?_
      refine S.pure tOk zOk rfl rfl rfl ?_
      refine loop_n ((Lib.split s [44, 32]).length - (i + 1)) (by omega) ⟨i + 1, _, _, hi, all_take_succ (d := 0) (by simpa using hi) f2_1 (code_go hi c6), rfl, _, _, _, _, rfl, rfl, rfl, rfl, rfl, inc_i64 (by omega), trivial⟩
    ·skip
     have hi := row_ge c5
     refine W.exit ?_
     refine thenK_e ?_
     refine thenK_e ?_
     refine blockK_x ?_
     refine thenK_n ?_
     refine W.seq ?_
     refine W.seq ?_
     refine W.freezeB (ri := 1) (q := ⟨_, _, _, _, _⟩) 1 0 rfl rfl rfl rfl ?_
     have hcode := code_end hi f2_1
     have hts2 : (Lib.split s [44, 32]).take i = (Lib.split s [44, 32]) := List.take_of_length_le hi
     rw [hts2]
     have hsp : ∀ u ∈ (Lib.split s [44, 32]).map spRes, SpLen u := fun u hu => by
      obtain ⟨x, hx, rfl⟩ := List.mem_map.1 hu
      have h1 := span_e x
      have h2 : x.length ≤ s.length := split_mem hx
      unfold spRes SpLen; omega
     refine W.region ?_
     refine S.pure tOk zOk rfl rfl rfl ?_
     refine S.call rfl rfl rfl rfl rfl (pc_ver_CheckRange ((Lib.split s [44, 32]).map spRes) (by have := c1; simp at this ⊢; omega) hsp) ?_
     refine S.pure tOk zOk rfl rfl rfl ?_
     refine thenK_n ?_
     refine W.seq ?_
     refine W.region ?_
     refine S.pure tOk zOk rfl rfl rfl ?_
     refine S.pure tOk zOk rfl rfl rfl ?_
     refine thenK_n ?_
     refine W.cond rfl (fun c7 => ?_) (fun c7 => ?_)
     ·skip
      refine W.seq ?_
      refine W.region ?_
      refine S.pure tOk zOk rfl rfl rfl ?_
      refine S.pure tOk zOk rfl rfl rfl ?_
      refine S.store tOk rfl rfl rfl rfl rfl rfl rfl rfl ?_
      refine S.pure tOk zOk rfl rfl rfl ?_
      refine thenK_n ?_
      refine W.ret ?_
      refine thenK_r ?_
      exact ⟨_, rfl, rfl, le_rgNil (rB_range c1 c2 hall hcode c7)⟩
     ·skip
      refine W.skip ?_
      refine thenK_n ?_
      refine W.seq ?_
      refine W.region ?_
      refine S.pure tOk zOk rfl rfl rfl ?_
      refine S.store tOk rfl rfl rfl rfl rfl rfl rfl rfl ?_
      refine S.pure tOk zOk rfl rfl rfl ?_
      refine thenK_n ?_
      refine W.ret ?_
      exact ⟨_, rfl, rfl, le_rg (rB_ok c1 c2 hall hcode c7)⟩
end Go.Proofs.YtcchfmilleffjaaGreatDoor
namespace Go.Proofs.YtcchfmilleffjaaGreatDoor
open Go
open Go.RowKit
attribute [local irreducible] parseB nextB Lib.split Lib.trimPrefix Lib.hasPrefix
end Go.Proofs.YtcchfmilleffjaaGreatDoor
