/- MergesMatch: where what it reads is of bulk at most 1048576, it returns true, and what it was given reads as it did. -/
import Derived.Test.YtpelfildfidnbaaGreatDoorRows
import Derived.Lib.LaidTab
import Derived.Carry
import Derived.ChangeSame
import Derived.OpenVars
import Derived.OpenShut
import Derived.WalkKit
import Derived.ProofKit
import Derived.Deep.DeepHandedRow
import Derived.Test.YtpelfildfidnbaaGreatDoorCards
import Derived.Test.YtpelfildfidnbaaGreatDoorTie
import Derived.Lib.LaidU8
import Derived.Shelf.Vars
import Derived.Deep.DeepLaidRun
import Derived.Test.YtpelfildfidnbaaGreatDoorMCMergesMatch3
set_option linter.unusedVariables false
set_option linter.unusedSimpArgs false
set_option maxRecDepth 100000
set_option maxHeartbeats 4000000
namespace Go.Proofs.YtpelfildfidnbaaGreatDoor
section
open Go Go.RowKit Go.ChangeShapes
def RDs (w : World) (cs : List Value) (ds : List D) : Prop :=
 cs.length = ds.length ∧ ∀ (i : Nat) (c : Value) (d : D), cs[i]? = some c → ds[i]? = some d → RD (fun b => b < w.heap.size) w d c
theorem RDs.one {w : World} {c : Value} {d : D} (h : RD (fun b => b < w.heap.size) w d c) : RDs w [c] [d] :=
 ⟨rfl, fun i a b h1 h2 => by
  match i with
  | 0 => simp at h1 h2; subst h1; subst h2; exact h
  | i + 1 => simp at h1⟩
theorem RDs.append {w : World} {a b : List Value} {x y : List D} (h1 : RDs w a x) (h2 : RDs w b y) : RDs w (a ++ b) (x ++ y) := by
  refine ⟨by simp [h1.1, h2.1], fun i c d hc hd => ?_⟩
  by_cases hi : i < a.length
  · rw [List.getElem?_append_left hi] at hc
    rw [List.getElem?_append_left (by rw [← h1.1]; exact hi)] at hd
    exact h1.2 i c d hc hd
  · rw [List.getElem?_append_right (by omega)] at hc
    rw [List.getElem?_append_right (by rw [← h1.1]; omega)] at hd
    rw [← h1.1] at hd
    exact h2.2 _ c d hc hd
structure Dec (P : Program) (t : TypeId) (α : Type) where
 ds : α → List D
 wf : Nat → α → Prop
 up : ∀ (m n : Nat) (x : α), m ≤ n → wf m x → wf n x
 lim : Nat → Bool
 wt : α → Nat
 ok : ∀ {H : Type} {enc : TypeId × Value → H} {w : World} {fuel : Nat} {cs : List Value} {d : DataW H} {ps : List MemPlace}, lim fuel = true → DataW.trod enc P w 0 (fun _ => true) true fuel t cs = some (d, ps) →
  ∃ x : α, RDs w cs (ds x) ∧ wf (Rows.uptoBulk d) x ∧ wt x ≤ Rows.uptoBulk d
theorem trod_int {H : Type} {enc : TypeId × Value → H} {P : Program} {w : World} {fuel : Nat} {t : TypeId} {cs : List Value} {x : DataW H × List MemPlace} {k : IntKind} (ht : P.underlying t = some (.int k)) (h : DataW.trod enc P w 0 (fun _ => true) true fuel t cs = some x) :
    ∃ n, cs = [.int k n] ∧ (Lit.int k n).wf = true := by
  cases fuel with
  | zero => simp [DataW.trod] at h
  | succ fuel =>
    unfold DataW.trod at h
    rw [ht] at h
    split at h <;> first
      | (rename_i k1 k2 n he1 he2
         simp only [Option.some.injEq, TypeDesc.int.injEq] at he1
         subst he1
         split at h
         · rename_i hk; exact ⟨n, by rw [hk.1], hk.2⟩
         · cases h)
      | (simp_all; done)
theorem trod_bool' {H : Type} {enc : TypeId × Value → H} {P : Program} {w : World} {fuel : Nat} {t : TypeId} {cs : List Value} {x : DataW H × List MemPlace} (ht : P.underlying t = some .bool) (h : DataW.trod enc P w 0 (fun _ => true) true fuel t cs = some x) :
  ∃ b, cs = [.bool b] := by
 cases fuel with
 | zero => simp [DataW.trod] at h
 | succ fuel =>
  unfold DataW.trod at h
  rw [ht] at h
  split at h <;> first
   | exact ⟨_, rfl⟩
   | (simp_all; done)
theorem trod_str {H : Type} {enc : TypeId × Value → H} {P : Program} {w : World} {fuel : Nat} {t : TypeId} {cs : List Value} {x : DataW H × List MemPlace} (ht : P.underlying t = some .string) (h : DataW.trod enc P w 0 (fun _ => true) true fuel t cs = some x) :
    ∃ s : ByteArray, cs = [.string s] ∧ x.1 = .lit (.string s.data.toList) := by
  cases fuel with
  | zero => simp [DataW.trod] at h
  | succ fuel =>
    unfold DataW.trod at h
    rw [ht] at h
    split at h <;> first
      | (split at h
         · cases h; exact ⟨_, rfl, rfl⟩
         · cases h)
      | (simp_all; done)
def Dec.int {P : Program} {t : TypeId} (k : IntKind) (ht : P.underlying t = some (.int k)) : Dec P t Int where
 ds n := [.int k n]
 wf _ n := (Lit.int k n).wf = true
 up _ _ _ _ h := h
 lim _ := true
 wt _ := 0
 ok _ h := by
  obtain ⟨n, rfl, hw⟩ := trod_int ht h
  exact ⟨n, .one (.int _ _), hw, Nat.zero_le _⟩
def Dec.bool {P : Program} {t : TypeId} (ht : P.underlying t = some .bool) : Dec P t Bool where
 ds n := [.bool n]
 wf _ n := True
 up _ _ _ _ h := h
 lim _ := true
 wt _ := 0
 ok _ h := by
  obtain ⟨n, rfl⟩ := trod_bool' ht h
  exact ⟨n, .one (.bool _), trivial, Nat.zero_le _⟩
def Dec.str {P : Program} {t : TypeId} (ht : P.underlying t = some .string) : Dec P t (List UInt8) where
 ds s := [.str s]
 wf N s := s.length < N
 up _ _ _ h1 h := Nat.lt_of_lt_of_le h h1
 lim _ := true
 wt _ := 0
 ok _ h := by
  obtain ⟨s, rfl, hx⟩ := trod_str ht h
  refine ⟨s.data.toList, .one (.str s.data.toList), ?_, Nat.zero_le _⟩
  simp only at hx
  rw [hx]
  simp [Rows.uptoBulk]
theorem mapM_len {α β : Type} {f : α → Option β} : ∀ {l : List α} {r : List β}, l.mapM f = some r → r.length = l.length
  | [], r, h => by simp at h; subst h; rfl
  | a :: l, r, h => by
    simp only [List.mapM_cons, Option.bind_eq_bind, Option.bind_eq_some_iff, Option.pure_def, Option.some.injEq] at h
    obtain ⟨b, hb, r', hr', rfl⟩ := h
    simp [mapM_len hr']
structure DecF (P : Program) (fs : List Field) (off tot : Nat) (α : Type) where
 ds : α → List D
 wf : Nat → α → Prop
 up : ∀ (m n : Nat) (x : α), m ≤ n → wf m x → wf n x
 lim : Nat → Bool
 wt : α → Nat
 ok : ∀ {H : Type} {enc : TypeId × Value → H} {w : World} {fuel : Nat} {cs : List Value} {xs : List (DataW H × List MemPlace)}, lim fuel = true → cs.length = tot →
  fs.mapM (fun f => DataW.trod enc P w 0 (fun _ => true) true fuel f.type ((cs.drop f.offset).take (P.cellsOf f.type))) = some xs →
  ∃ x : α, RDs w (cs.drop off) (ds x) ∧ wf (Rows.uptoBulkAll (xs.map (·.1))) x ∧ wt x ≤ Rows.uptoBulkAll (xs.map (·.1))
def DecF.nil {P : Program} (tot : Nat) : DecF P [] tot tot Unit where
 ds _ := []
 wf _ _ := True
 up _ _ _ _ h := h
 lim _ := true
 wt _ := 0
 ok _ hl h := ⟨(), ⟨by simp [hl], fun i c d h1 h2 => by simp at h2⟩, trivial, Nat.zero_le _⟩
def DecF.cons {P : Program} {f : Field} {fs : List Field} {off tot n : Nat} {α β : Type} (de : Dec P f.type α) (ho : f.offset = off) (hn : P.cellsOf f.type = n) (r : DecF P fs (off + n) tot β) : DecF P (f :: fs) off tot (α × β) where
 ds x := de.ds x.1 ++ r.ds x.2
 wf N x := de.wf N x.1 ∧ r.wf N x.2
 up m n x h hx := ⟨de.up m n x.1 h hx.1, r.up m n x.2 h hx.2⟩
 lim f := de.lim f && r.lim f
 wt x := de.wt x.1 + r.wt x.2
 ok {H enc w fuel cs xs} hq hl h := by
  have hq := Bool.and_eq_true_iff.1 hq
  simp only [List.mapM_cons, Option.bind_eq_bind, Option.bind_eq_some_iff, Option.pure_def, Option.some.injEq] at h
  obtain ⟨b, hb, r', hr', rfl⟩ := h
  obtain ⟨x, h1, h2, h5⟩ := de.ok (d := b.1) (ps := b.2) hq.1 hb
  obtain ⟨y, h3, h4, h6⟩ := r.ok hq.2 hl hr'
  refine ⟨(x, y), ?_, ⟨de.up _ _ _ ?_ h2, r.up _ _ _ ?_ h4⟩, ?_⟩
  ·skip
   have e : cs.drop off = (cs.drop f.offset).take (P.cellsOf f.type) ++ cs.drop (off + n) := by
    rw [ho, hn, ← List.drop_drop, List.take_append_drop]
   rw [e]; exact h1.append h3
  ·skip
   simp only [List.map_cons, Rows.uptoBulkAll]; omega
  ·skip
   simp only [List.map_cons, Rows.uptoBulkAll]; omega
  ·skip
   simp only [List.map_cons, Rows.uptoBulkAll]; omega
def Dec.struct {P : Program} {t : TypeId} {fs : Array Field} {tot : Nat} {α : Type} (ht : P.underlying t = some (.struct fs)) (hc : P.cellsOf t = tot) (r : DecF P fs.toList 0 tot α) : Dec P t α where
  ds := r.ds
  wf := r.wf
  up := r.up
  lim f := r.lim (f - 1)
  wt x := r.wt x + 1
  ok {H enc w fuel cs d ps} hq h := by
    cases fuel with
    | zero => simp [DataW.trod] at h
    | succ fuel =>
      unfold DataW.trod at h
      rw [ht] at h
      split at h <;> first
        | (rename_i he1
           simp only [Option.some.injEq, TypeDesc.struct.injEq] at he1
           subst he1
           split at h
           · rename_i hl
             simp only [Option.map_eq_some_iff] at h
             obtain ⟨xs, hx, he⟩ := h
             obtain ⟨x, h1, h2, h3⟩ := r.ok hq (hl.trans hc) hx
             cases he
             exact ⟨x, h1, r.up _ _ _ (by simp only [Rows.uptoBulk]; omega) h2, by simp only [Rows.uptoBulk]; omega⟩
           · cases h)
        | (simp_all; done)
def Dec.iso {P : Program} {t : TypeId} {α β : Type} (d : Dec P t α) (f : α → β) (ds : β → List D) (wf : Nat → β → Prop) (up : ∀ (m n : Nat) (x : β), m ≤ n → wf m x → wf n x) (hd : ∀ a, d.ds a = ds (f a)) (hw : ∀ N a, d.wf N a → d.wt a ≤ N → wf N (f a)) (wt : β → Nat := fun _ => 0) (hwt : ∀ a, wt (f a) ≤ d.wt a := by intro _; exact Nat.zero_le _) : Dec P t β where
  ds := ds
  wf := wf
  up := up
  lim := d.lim
  wt := wt
  ok hq h := by
    obtain ⟨x, h1, h2, h3⟩ := d.ok hq h
    exact ⟨f x, hd x ▸ h1, hw _ _ h2 h3, Nat.le_trans (hwt x) h3⟩
theorem choose_list {α : Type} {Q : Nat → α → Prop} : ∀ (n : Nat), (∀ i, i < n → ∃ x, Q i x) → ∃ xs : List α, xs.length = n ∧ ∀ i x, xs[i]? = some x → Q i x
  | 0, _ => ⟨[], rfl, fun i x h => by simp at h⟩
  | n + 1, h => by
    obtain ⟨xs, h1, h2⟩ := choose_list n (fun i hi => h i (by omega))
    obtain ⟨x, hx⟩ := h n (by omega)
    refine ⟨xs ++ [x], by simp [h1], fun i y hy => ?_⟩
    by_cases hi : i < xs.length
    · rw [List.getElem?_append_left hi] at hy; exact h2 i y hy
    · rw [List.getElem?_append_right (by omega)] at hy
      have e : i = n := by
        apply Decidable.byContradiction; intro hne
        rw [List.getElem?_eq_none (by simp; omega)] at hy; cases hy
      subst e
      rw [h1] at hy
      simp at hy; subst hy; exact hx
theorem cells_at {w : World} {a : Addr} {n : Nat} {cs : List Value} (h : w.cells? 0 a n = some cs) : cs.length = n ∧ ∀ j, j < n → w.cell? (a.add j) = cs[j]? := by
 unfold World.cells? at h
 rw [if_pos (Nat.zero_le _)] at h
 have hl := mapM_len h
 simp at hl
 refine ⟨hl, fun j hj => ?_⟩
 obtain ⟨b, h1, h2⟩ := Lib.mapM_at h j j (by simp [hj])
 rw [h1, h2]
theorem spot_none {w : World} {a : Addr} {v : Value} (h : w.cell? a = some v) : a.spot = none := by
 unfold World.cell? at h
 split at h
 ·skip
  split at h
  ·skip
   cases h
  ·skip
   rename_i hs; simpa using hs
 ·skip
  cases h
theorem bulk_mem {H : Type} {x : DataW H} : ∀ {l : List (DataW H)}, x ∈ l → Rows.uptoBulk x ≤ Rows.uptoBulkAll l
  | [], h => by cases h
  | a :: l, h => by
    simp only [Rows.uptoBulkAll]
    rcases List.mem_cons.1 h with rfl | h
    · omega
    · have := bulk_mem h; omega
theorem bulk_pos {H : Type} (d : DataW H) : 1 ≤ Rows.uptoBulk d := by
 cases d with
 | lit l => cases l <;> simp [Rows.uptoBulk]
 | _ => simp [Rows.uptoBulk]
theorem bulk_len {H : Type} : ∀ (l : List (DataW H)), l.length ≤ Rows.uptoBulkAll l
  | [] => by simp
  | a :: l => by
    have h1 := bulk_pos a
    have h2 := bulk_len l
    simp only [Rows.uptoBulkAll, List.length_cons]; omega
theorem bulk_sum {H : Type} {α : Type} {f : α → Nat} : ∀ {xs : List α} {l : List (DataW H)}, xs.length = l.length → (∀ (i : Nat) (x : α) (d : DataW H), xs[i]? = some x → l[i]? = some d → f x ≤ Rows.uptoBulk d) → (xs.map f).sum ≤ Rows.uptoBulkAll l
  | [], l, _, _ => Nat.zero_le _
  | x :: xs, [], h, _ => by simp at h
  | x :: xs, d :: l, h, hx => by
    have h1 := hx 0 x d rfl rfl
    have h2 := bulk_sum (f := f) (xs := xs) (l := l) (by simpa using h) (fun i y e h3 h4 => hx (i + 1) y e h3 h4)
    simp only [List.map_cons, List.sum_cons, Rows.uptoBulkAll]; omega
def Dec.slice {P : Program} {t e : TypeId} {sz : Nat} {α : Type} (ht : P.underlying t = some (.slice e)) (hc : P.cellsOf e = sz) (h0 : 0 < sz) (de : Dec P e α) : Dec P t (List α) where
  ds xs := [.vec sz (xs.map de.ds)]
  wf N xs := xs.length < N ∧ ∀ x ∈ xs, de.wf N x
  up m n xs h hx := ⟨by omega, fun x hm => de.up m n x h (hx.2 x hm)⟩
  lim f := de.lim (f - 1)
  wt xs := (xs.map de.wt).sum
  ok {H enc w fuel cs d ps} hq h := by
    rcases DataW.trod_slice ht h with h1 | ⟨a, len, cap, elems, rest, n, hfu, rfl, hx, hb, hl, hm, hlen, hel, hsp, hns⟩
    · obtain ⟨rfl, h2⟩ := h1
      cases h2
      exact ⟨[], .one (.empty _ _ _), ⟨by simp [Rows.uptoBulk], by simp⟩, Nat.zero_le _⟩
    · have key : ∀ i, i < len → ∃ x, ∃ cs' : List Value, ∃ y, elems[i]? = some y ∧ w.cells? 0 (a.add (i * sz)) sz = some cs' ∧ RDs w cs' (de.ds x) ∧ de.wf (Rows.uptoBulk y.1) x ∧ de.wt x ≤ Rows.uptoBulk y.1 := fun i hi => by
        have h1 := hel i hi
        have h2 : elems[i]? = some (elems[i]'(by omega)) := List.getElem?_eq_getElem _
        rw [h2, hc, Option.bind_eq_some_iff] at h1
        obtain ⟨cs', h3, h4⟩ := h1
        obtain ⟨x, h5, h6, h7⟩ := de.ok (d := (elems[i]'(by omega)).1) (ps := (elems[i]'(by omega)).2) (by have := hq; rw [hfu] at this; exact this) h4
        exact ⟨x, cs', _, h2, h3, h5, h6, h7⟩
      obtain ⟨xs, hxl, hxs⟩ := choose_list len key
      cases hx
      refine ⟨xs, .one ?_, ⟨?_, fun x hx => ?_⟩, ?_⟩
      · by_cases hne : xs = []
        · subst hne
          simp at hxl
          rw [← hxl]
          exact .empty _ _ _
        · have hpos : 0 < len := by
            cases xs with
            | nil => exact absurd rfl hne
            | cons x l => rw [← hxl]; simp
          have hs : a.spot = none := by
            obtain ⟨x, cs', y, _, h3, _⟩ := key 0 hpos
            obtain ⟨h4, h5⟩ := cells_at h3
            have h6 := h5 0 h0
            have h7 : cs'[0]? = some (cs'[0]'(by omega)) := List.getElem?_eq_getElem _
            rw [h7] at h6
            simp only [Addr.add, Nat.zero_mul, if_true] at h6
            exact spot_none h6
          have hadd : ∀ i j, (a.add (i * sz)).add j = ⟨a.block, a.off + i * sz + j, none⟩ := fun i j => by
            cases a with
            | mk b o s =>
              simp only at hs; subst hs
              unfold Addr.add
              by_cases h1 : i * sz = 0 <;> by_cases h2 : j = 0 <;> simp [h1, h2]
          have hat : ∀ (i j : Nat) (x : List D) (d : D), (xs.map de.ds)[i]? = some x → x[j]? = some d → ∃ v, w.cell? ⟨a.block, a.off + i * sz + j, none⟩ = some v ∧ RD (fun b => b < w.heap.size) w d v := fun i j x d h1 h2 => by
            simp only [List.getElem?_map, Option.map_eq_some_iff] at h1
            obtain ⟨x', h1, rfl⟩ := h1
            obtain ⟨cs', y, _, h3, h4, _⟩ := hxs i x' h1
            obtain ⟨h5, h6⟩ := cells_at h3
            have hj : j < sz := by
              have := (List.getElem?_eq_some_iff.1 h2).1
              rw [← h4.1, h5] at this; exact this
            have h7 : cs'[j]? = some (cs'[j]'(by omega)) := List.getElem?_eq_getElem _
            have h8 := h6 j hj
            rw [hadd, h7] at h8
            exact ⟨_, h8, h4.2 j _ d h7 h2⟩
          have hal : a = ⟨a.block, a.off, none⟩ := by cases a; simp only at hs; subst hs; rfl
          have hlen' : len = (xs.map de.ds).length := by simp [hxl]
          rw [hal, hlen']
          refine RD.vec sz (xs.map de.ds) a.block a.off cap (fun i j => (w.cell? ⟨a.block, a.off + i * sz + j, none⟩).getD undef) (by simpa using hne) (by rw [← hlen']; exact hl) ?_ ?_ ?_ ?_
          · obtain ⟨x, cs', y, _, h3, _⟩ := key 0 hpos
            obtain ⟨h4, h5⟩ := cells_at h3
            have h6 := h5 0 h0
            have h7 : cs'[0]? = some (cs'[0]'(by omega)) := List.getElem?_eq_getElem _
            rw [h7, hadd] at h6
            apply Decidable.byContradiction; intro hn
            unfold World.cell? at h6
            rw [Array.getElem?_eq_none (by simp only at hn ⊢; omega)] at h6
            cases h6
          · intro x hx
            simp only [List.mem_map] at hx
            obtain ⟨x', hx', rfl⟩ := hx
            obtain ⟨i, hi⟩ := List.getElem?_of_mem hx'
            obtain ⟨cs', y, _, h3, h4, _⟩ := hxs i x' hi
            rw [← h4.1]; exact (cells_at h3).1
          · intro i j x d h1 h2
            obtain ⟨v, h3, _⟩ := hat i j x d h1 h2
            rw [h3]; rfl
          · intro i j x d h1 h2
            obtain ⟨v, h3, h4⟩ := hat i j x d h1 h2
            simp only [h3, Option.getD_some]; exact h4
      · have h1 := bulk_len (elems.map (·.1))
        simp only [Rows.uptoBulk, List.length_map] at h1 ⊢; omega
      · obtain ⟨i, hi⟩ := List.getElem?_of_mem hx
        obtain ⟨cs', y, h2, _, _, h4, _⟩ := hxs i x hi
        refine de.up _ _ _ ?_ h4
        have := bulk_mem (x := y.1) (l := elems.map (·.1)) (List.mem_map.2 ⟨y, List.mem_of_getElem? h2, rfl⟩)
        simp only [Rows.uptoBulk]; omega
      · have := bulk_sum (f := de.wt) (xs := xs) (l := elems.map (·.1)) (by simp; omega) (fun i x d h1 h2 => by
          obtain ⟨cs', y, h3, _, _, _, h4⟩ := hxs i x h1
          rw [List.getElem?_map, h3] at h2
          cases h2; exact h4)
        simp only [Rows.uptoBulk]; omega
end
section
open Go Go.RowKit Go.ChangeShapes Go.WideShapes Go.ChangeAt
theorem Below.trodAll {H : Type} {enc : TypeId × Value → H} {P : Program} (hl : laidOutB P = true) {W W' : World} (hb : Below W.heap.size W W') : ∀ {ts : List TypeId} {vs : List Value} {ds : List (DataW H)} {ps : List MemPlace},
    ts.all (fun t => P.readableRec t && decide (t < P.types.size)) = true → DataW.TrodAll enc P W 0 (fun _ => true) true ts vs ds ps → (∀ x ∈ ps, x.block < W.heap.size) → DataW.TrodAll enc P W' 0 (fun b => decide (b < W.heap.size)) true ts vs ds ps
  | [], [], [], _, _, h, _ => h
  | [], [], _ :: _, _, _, h, _ => h.elim
  | [], _ :: _, _, _, _, h, _ => h.elim
  | _ :: _, [], _, _, _, h, _ => h.elim
  | _ :: _, _ :: _, [], _, _, h, _ => h.elim
  | t :: ts, v :: vs, d :: ds, ps, ha, h, hp => by
    simp only [List.all_cons, Bool.and_eq_true, decide_eq_true_eq] at ha
    obtain ⟨p, q, h1, h2, rfl⟩ := h
    exact ⟨p, q, Below.trod hl ha.1.1 ha.1.2 h1 hb (fun x hx => hp x (List.mem_append.2 (.inl hx))), Below.trodAll hl hb (by simpa using ha.2) h2 (fun x hx => hp x (List.mem_append.2 (.inr hx))), rfl⟩
theorem law_post {P : Program} {J : Inv} {f : FuncId} {fn : Func} {s : ChangeSpec} {tb : TypeId} (hl : laidOutB P = true) (hts : fn.params.toList.all (fun t => P.readableRec t && decide (t < P.types.size)) = true)
  (hv : s.vars = []) (hres : fn.resultTypes = #[tb]) (htb : P.underlying tb = some .bool) {H : Type} {enc : TypeId × Value → H} {W : World} {args : Array Value} {ds gs : List (DataW H)} {before : List MemPlace}
  (hW : DataW.Whole enc P fn.params.toList s.vars false W args.toList ds gs before) (hs : (s.fn H (ds ++ gs)).results = [.lit (.bool true)] ∧ (s.fn H (ds ++ gs)).args = ds ∧ (s.fn H (ds ++ gs)).vars = [])
  {us : List V} (pc : PureCall P J f us (.one (.d (.bool true)))) (hJ : J.I W) (hn : args.size = us.length) (hx : ∀ (i : Nat) (u : V) (v : Value), us[i]? = some u → args[i]? = some v → RV (noGh fun b => b < W.heap.size) noSh W u v) :
  Calls P f args W fun e W' => ∃ v, e = .returned v ∧ s.post enc P fn false true false false W args v W' := by
 have h := pc.calls (fun b => b < W.heap.size) W args.toList hJ (fun b hb => hb) (by simpa using hn) (fun i u v h1 h2 => hx i u v h1 (by simpa using h2))
 have h' : Calls P f args W _ := h
 refine h'.mono fun e W' ⟨v, im', he, hB, _, _, _, hr⟩ => ⟨v, he, ?_⟩
 obtain rfl : v = .bool true := by
  cases hr with | one _ _ h => cases h with | d _ _ h => cases h with | bool => rfl
 have hlt : ∀ x ∈ before, x.block < W.heap.size := fun x hx => by simpa using hW.lt x hx
 have hW' := hW
 obtain ⟨p, q, hA, hV, rfl, _, _⟩ := hW
 rw [hv] at hV
 have hgs : gs = [] ∧ q = [] := by
  cases gs with
  | nil => exact ⟨rfl, hV⟩
  | cons g gs => exact hV.elim
 obtain ⟨rfl, rfl⟩ := hgs
 refine ⟨ds, [], p ++ [], [], p, [], hW', ?_, ?_, ?_, hB.frame _, fun h => by cases h⟩
 ·skip
  rw [hs.1, hres]
  exact trodAll_cons_mk (shut_bool htb true) trodAll_mk0
 ·skip
  rw [hs.2.1]
  exact Below.trodAll hl hB hts hA (fun x hx => hlt x (by simp [hx]))
 ·skip
  rw [hs.2.2, hv]; rfl
theorem arg_agg {P : Program} {t : TypeId} {α : Type} (de : Dec P t α) {W : World} {r : Reach} {base : Nat} {v : Value} (ht : (match P.underlying t with | some (.struct _) | some (.array _ _) => true | _ => false) = true) (hv : Value.okWide P W r base t v)
    {H : Type} {enc : TypeId × Value → H} {d : DataW H} {ps : List MemPlace} (h : DataW.Trod enc P W 0 (fun _ => true) true t v d ps) (hlim : ∀ f, de.lim f = true := by intro _; rfl) : ∃ x : α, RV (noGh fun b => b < W.heap.size) noSh W (.agg ((de.ds x).map .d)) v ∧ de.wf (Rows.uptoBulk d) x := by
  obtain ⟨fuel, h⟩ := h
  obtain ⟨x, h1, h2, _⟩ := de.ok (hlim _) h
  refine ⟨x, ?_, h2⟩
  have hc : ∃ cs, v = .agg cs := by
    unfold Value.okWide at hv
    split at hv
    · exact ⟨_, hv.choose_spec.1⟩
    · exact ⟨_, hv.choose_spec.1⟩
    · rename_i h3 h4
      split at ht
      · rename_i fs h5; exact absurd h5 (h3 _)
      · rename_i n e h5; exact absurd h5 (h4 _ _)
      · cases ht
  obtain ⟨cs, rfl⟩ := hc
  have h3 : RDs W cs.toList (de.ds x) := h1
  have := RV.agg (g := noGh fun b => b < W.heap.size) (h := noSh) (w := W) ((de.ds x).map .d) cs.toList (by simp [h3.1]) (fun i c v hc hv => by
    simp only [List.getElem?_map, Option.map_eq_some_iff] at hc
    obtain ⟨d, hd, rfl⟩ := hc
    exact .d _ _ (h3.2 i v d hv hd))
  simpa using this
theorem arg_one {P : Program} {t : TypeId} {α : Type} (de : Dec P t α) {W : World} {r : Reach} {base : Nat} {v : Value} (ht : (match P.underlying t with | some .bool | some (.int _) | some .string | some (.slice _) | some (.pointer _) | some (.map _ _) => true | _ => false) = true) (hv : Value.okWide P W r base t v)
    {H : Type} {enc : TypeId × Value → H} {d : DataW H} {ps : List MemPlace} (h : DataW.Trod enc P W 0 (fun _ => true) true t v d ps) (hlim : ∀ f, de.lim f = true := by intro _; rfl) : ∃ x : α, (∀ e, de.ds x = [e] → RV (noGh fun b => b < W.heap.size) noSh W (.one (.d e)) v) ∧ de.wf (Rows.uptoBulk d) x := by
  obtain ⟨fuel, h⟩ := h
  obtain ⟨x, h1, h2, _⟩ := de.ok (hlim _) h
  refine ⟨x, fun e he => ?_, h2⟩
  have hc : v.cells.toList = [v] := by
    cases v with
    | agg cs =>
      exfalso
      unfold Value.okWide Cell.okWide Cell.ok at hv
      split at ht <;> simp_all
    | _ => rfl
  rw [hc, he] at h1
  exact .one _ _ (.d _ _ (h1.2 0 v e rfl rfl))
end
section
open Go Go.RowKit Go.ChangeShapes Go.WideShapes Go.ChangeAt
theorem trod_iface {H : Type} {enc : TypeId × Value → H} {P : Program} {w : World} {fuel : Nat} {t : TypeId} {cs : List Value} {nm : String} {x : DataW H} {p : List MemPlace} {ms : Array (String × TypeId)} (ht : P.underlying t = some (.interface ms))
  (h : DataW.trod enc P w 0 (fun _ => true) false fuel t cs = some (.iface nm x, p)) : ∃ u v, cs = [.iface u v] := by
 cases fuel with
 | zero => simp [DataW.trod] at h
 | succ fuel =>
  unfold DataW.trod at h
  rw [ht] at h
  split at h <;> first
   | exact ⟨_, _, rfl⟩
   | (simp_all; done)
theorem err_of {P : Program} {W : World} {n : String} {nm : String} {d : DataW Unit} {g : Nat} {t : TypeId} {ms : Array (String × TypeId)} (hg : P.globalNamed n = some g) (hty : (P.globals[g]?).map (·.type) = some t) (ht : P.underlying t = some (.interface ms))
  (h : Lib.VarReads P W n (.iface nm d)) : ∃ t p, W.var? P n = some #[.iface t p] := by
 obtain ⟨g', t', cs, fuel, p, hg', ht', hvar, hd⟩ := h
 obtain rfl := Option.some.inj (hg.symm.trans hg')
 obtain rfl := Option.some.inj (hty.symm.trans ht')
 obtain ⟨u, v, hc⟩ := trod_iface ht hd
 exact ⟨u, v, by rw [hvar]; congr 1; exact Array.ext' (by simpa using hc)⟩
theorem pow_of {W : World} (h : Lib.VarReads Tryz.prog W "internal/strconv.uint64pow10" Rows.laid_internal_strconv_uint64pow10) : Lib.TabIs Tryz.prog W "internal/strconv.uint64pow10" .u64 Lib.pow10Tab := by
 obtain ⟨g', t', cs, fuel, p, hg', ht', hvar, hd⟩ := h
 obtain rfl := Option.some.inj ((show Tryz.prog.globalNamed "internal/strconv.uint64pow10" = some 5 by kernel_rfl).symm.trans hg')
 obtain rfl := Option.some.inj ((show (Tryz.prog.globals[5]?).map (·.type) = some 367 by kernel_rfl).symm.trans ht')
 unfold Lib.TabIs
 rw [hvar, ← Lib.cells_of_tab (k := .u64) (zs := Lib.pow10Tab) Tryz.underlying367 Tryz.underlying280 (by kernel_rfl) (by kernel_rfl) hd]
theorem db_of {W : World} (h : Lib.VarReads Tryz.prog W "math/bits.deBruijn64tab" Rows.laid_math_bits_deBruijn64tab) : Lib.TabIs Tryz.prog W "math/bits.deBruijn64tab" .u8 (List.map (fun n : Nat => (n : Int)) Lib.deBruijn64tab) := by
 obtain ⟨g', t', cs, fuel, p, hg', ht', hvar, hd⟩ := h
 obtain rfl := Option.some.inj ((show Tryz.prog.globalNamed "math/bits.deBruijn64tab" = some 7 by kernel_rfl).symm.trans hg')
 obtain rfl := Option.some.inj ((show (Tryz.prog.globals[7]?).map (·.type) = some 373 by kernel_rfl).symm.trans ht')
 unfold Lib.TabIs
 rw [hvar, ← Lib.cells_of_tab (k := .u8) (zs := List.map (fun n : Nat => (n : Int)) Lib.deBruijn64tab) Tryz.underlying373 Tryz.underlying5 (by kernel_rfl) (by kernel_rfl) hd]
theorem base_of {W : World} {l : List (String × DataW Unit)} (hl : laidMet Tryz.prog l W) (h1 : ("internal/strconv.uint64pow10", Rows.laid_internal_strconv_uint64pow10) ∈ l) (h2 : ("strconv.ErrSyntax", Rows.laid_strconv_ErrSyntax) ∈ l)
  (h3 : ("strconv.ErrRange", Rows.laid_strconv_ErrRange) ∈ l) (h4 : ("math/bits.deBruijn64tab", Rows.laid_math_bits_deBruijn64tab) ∈ l) (hS : W.ShapedOpen Tryz.prog) : J.I W where
 max := cell_of_shapedOpen_int (t := 3) (zero := #[.int .i64 0]) hS (of_decide_eq_true (by kernel_rfl)) (by kernel_rfl) rfl (by kernel_rfl) (by kernel_rfl) Tryz.underlying3
 pow := pow_of (Lib.laidMet.reads hl h1)
 esyn := err_of (g := 1) (by kernel_rfl) (by kernel_rfl) Tryz.underlying128 (Lib.laidMet.reads hl h2)
 eran := err_of (g := 2) (by kernel_rfl) (by kernel_rfl) Tryz.underlying128 (Lib.laidMet.reads hl h3)
 db := db_of (Lib.laidMet.reads hl h4)
mutual
def dcells : DataW Unit → List Value
  | .lit (.int k n) => [.int k n]
  | .agg ds => dcellsL ds
  | _ => []
def dcellsL : List (DataW Unit) → List Value
  | [] => []
  | d :: ds => dcells d ++ dcellsL ds
end
def putCs (cs : List Value) : Obj → Obj
 | .cells _ t fr => .cells cs.toArray t fr
 | o => o
def errText : DataW Unit → ByteArray
 | .iface _ (.ptr (.agg [.lit (.string s)])) => ⟨s.toArray⟩
 | _ => ByteArray.empty
def errCell (b : Nat) : List Value := [.iface 310 (.pointer (some ⟨b, 0, none⟩))]
noncomputable def laidWorld (os : Os) : World :=
 { World.holding Tryz.prog os ⟨#[], #[], []⟩ with heap :=
  let h := (World.holding Tryz.prog os ⟨#[], #[], []⟩).heap
  let h := h.modify 5 (putCs (dcells Rows.laid_internal_strconv_uint64pow10))
  let h := h.modify 3 (putCs (dcells Rows.laid_unicode_utf8_first))
  let h := h.modify 4 (putCs (dcells Rows.laid_unicode_utf8_acceptRanges))
  let h := h.modify 6 (putCs (dcells Rows.laid_math_bits_deBruijn32tab))
  let h := h.modify 7 (putCs (dcells Rows.laid_math_bits_deBruijn64tab))
  let n := h.size
  let h := h.modify 1 (putCs (errCell n))
  let h := h.modify 2 (putCs (errCell (n + 1)))
  (h.push (.cells #[.string (errText Rows.laid_strconv_ErrSyntax)] 312 (0, 0))).push (.cells #[.string (errText Rows.laid_strconv_ErrRange)] 312 (0, 0)) }
end
section
open Go Go.RowKit
noncomputable def decVer : Dec Tryz.prog 64 Ver :=
  Dec.iso (Dec.struct Tryz.underlying64 (tot := 4) (by kernel_rfl)
    (DecF.cons (Dec.int .i64 Tryz.underlying3) rfl (n := 1) (by kernel_rfl) (DecF.cons (Dec.int .i64 Tryz.underlying3) rfl (n := 1) (by kernel_rfl) (DecF.cons (Dec.int .i64 Tryz.underlying3) rfl (n := 1) (by kernel_rfl) (DecF.cons (Dec.str Tryz.underlying9) rfl (n := 1) (by kernel_rfl) (DecF.nil 4))))))
    (fun x => (⟨x.1, x.2.1, x.2.2.1, x.2.2.2.1⟩ : Ver)) verD (fun N v => VerOk v ∧ v.e.length < N) (fun m n v h hv => ⟨hv.1, Nat.lt_of_lt_of_le hv.2 h⟩) (fun _ => rfl)
    (fun N x hx _ => by
      obtain ⟨h1, h2, h3, h4, _⟩ := hx
      have b1 := bounds_i64 h1
      have b2 := bounds_i64 h2
      have b3 := bounds_i64 h3
      exact ⟨⟨b1.1, b1.2, b2.1, b2.2, b3.1, b3.2⟩, h4⟩)
end
section
open Go Go.RowKit
noncomputable def decSp : Dec Tryz.prog 178 Sp :=
  Dec.iso (Dec.struct Tryz.underlying178 (tot := 10) (by kernel_rfl)
    (DecF.cons (Dec.bool Tryz.underlying4) rfl (n := 1) (by kernel_rfl) (DecF.cons (Dec.bool Tryz.underlying4) rfl (n := 1) (by kernel_rfl) (DecF.cons decVer rfl (n := 4) (by kernel_rfl) (DecF.cons decVer rfl (n := 4) (by kernel_rfl) (DecF.nil 10))))))
    (fun x => (⟨x.1, x.2.1, x.2.2.1, x.2.2.2.1⟩ : Sp)) spD (fun N s => SpOk s ∧ s.f.e.length < N ∧ s.t.e.length < N) (fun m n s h hs => ⟨hs.1, Nat.lt_of_lt_of_le hs.2.1 h, Nat.lt_of_lt_of_le hs.2.2 h⟩) (fun _ => rfl)
    (fun N x hx _ => ⟨⟨hx.2.2.1.1, hx.2.2.2.1.1⟩, hx.2.2.1.2, hx.2.2.2.1.2⟩)
noncomputable def decRg : Dec Tryz.prog 67 (List Sp) :=
  Dec.iso (Dec.struct Tryz.underlying67 (tot := 1) (by kernel_rfl) (DecF.cons (Dec.slice Tryz.underlying65 (sz := 10) (by kernel_rfl) (by decide) decSp) rfl (n := 1) (by kernel_rfl) (DecF.nil 1)))
    (fun x => x.1) (fun ss => [.vec 10 (ss.map spD)]) (fun N ss => ss.length < N ∧ ∀ s ∈ ss, SpOk s ∧ s.f.e.length < N ∧ s.t.e.length < N)
    (fun m n ss h hs => ⟨Nat.lt_of_lt_of_le hs.1 h, fun s hm => ⟨(hs.2 s hm).1, Nat.lt_of_lt_of_le (hs.2 s hm).2.1 h, Nat.lt_of_lt_of_le (hs.2 s hm).2.2 h⟩⟩) (fun _ => rfl) (fun N x hx _ => hx.1)
end
section
open Go Go.RowKit
inductive CtIn (N : Nat) : CT → Prop where
 | mk (k : Int) (n v : List UInt8) (l : List CT) (h1 : n.length < N) (h2 : v.length < N) (h3 : ∀ a ∈ l, CtIn N a) (h4 : l.length < N) (h5 : -9223372036854775808 ≤ k ∧ k ≤ 9223372036854775807) : CtIn N (.mk k n v l)
theorem CtIn.up {m n : Nat} (h : m ≤ n) : ∀ {c : CT}, CtIn m c → CtIn n c := fun hc => by
 induction hc with
 | mk k nn v l h1 h2 h3 h4 h5 ih => exact .mk k nn v l (by omega) (by omega) ih (by omega) h5
theorem CtIn.big {N : Nat} (hN : N ≤ 4294967000) : ∀ {c : CT}, CtIn N c → CtBig c := fun hc => by
 induction hc with
 | mk k nn v l h1 h2 h3 h4 h5 ih => exact .mk k nn v l (by omega) (by omega) ih (by omega)
def CtWf (N : Nat) (c : CT) : Prop := CtIn N c ∧ c.w ≤ N
theorem CtWf.up {m n : Nat} {c : CT} (h : m ≤ n) (hc : CtWf m c) : CtWf n c := ⟨CtIn.up h hc.1, Nat.le_trans hc.2 h⟩
theorem ws_sum : ∀ (l : List CT), CT.ws l = (l.map CT.w).sum
  | [] => rfl
  | c :: l => by
    show c.w + CT.ws l = _
    rw [ws_sum l]; rfl
theorem condOk : ∀ (n : Nat) {H : Type} {enc : TypeId × Value → H} {w : World} {fuel : Nat} {cs : List Value} {d : DataW H} {ps : List MemPlace}, fuel ≤ n → DataW.trod enc Tryz.prog w 0 (fun _ => true) true fuel 70 cs = some (d, ps) →
    ∃ x : CT, RDs w cs (CT.d x) ∧ CtWf (Rows.uptoBulk d) x ∧ x.w ≤ Rows.uptoBulk d
  | 0, H, enc, w, fuel, cs, d, ps, hf, h => by
    obtain rfl : fuel = 0 := by omega
    simp [DataW.trod] at h
  | n + 1, H, enc, w, fuel, cs, d, ps, hf, h => by
    let e : Dec Tryz.prog 70 CT := { ds := CT.d, wf := CtWf, up := fun _ _ _ h hx => CtWf.up h hx, lim := fun f => decide (f ≤ n), wt := CT.w, ok := fun hl h => condOk n (of_decide_eq_true hl) h }
    let D0 := Dec.iso (Dec.struct Tryz.underlying70 (tot := 4) (by kernel_rfl)
      (DecF.cons (Dec.int .i64 Tryz.underlying3) rfl (n := 1) (by kernel_rfl) (DecF.cons (Dec.str Tryz.underlying9) rfl (n := 1) (by kernel_rfl) (DecF.cons (Dec.str Tryz.underlying9) rfl (n := 1) (by kernel_rfl)
        (DecF.cons (Dec.slice Tryz.underlying68 (sz := 4) (by kernel_rfl) (by decide) e) rfl (n := 1) (by kernel_rfl) (DecF.nil 4))))))
      (fun x => CT.mk x.1 x.2.1 x.2.2.1 x.2.2.2.1) CT.d CtWf (fun _ _ _ h hx => CtWf.up h hx) (fun x => by rw [ct_d]; show _ = [_, _, _, D.vec 4 (CT.ds x.2.2.2.1)]; rw [ds_map]; rfl)
      (fun N x hx hw => by
        obtain ⟨h1, h2, h3, h4, _⟩ := hx
        refine ⟨.mk _ _ _ _ h2 h3 (fun a ha => (h4.2 a ha).1) h4.1 (bounds_i64 h1), ?_⟩
        show CT.ws x.2.2.2.1 + 1 ≤ N
        have hw : (0 + (0 + (0 + ((x.2.2.2.1.map CT.w).sum + 0)))) + 1 ≤ N := hw
        rw [ws_sum]; omega) CT.w (fun x => by
        show CT.ws x.2.2.2.1 + 1 ≤ (0 + (0 + (0 + ((x.2.2.2.1.map CT.w).sum + 0)))) + 1
        rw [ws_sum]; omega)
    refine D0.ok ?_ h
    show (true && (true && (true && (decide (fuel - 1 - 1 ≤ n) && true)))) = true
    simp; omega
noncomputable def decCT : Dec Tryz.prog 70 CT where
 ds := CT.d
 wf := CtWf
 up _ _ _ h hx := CtWf.up h hx
 lim _ := true
 wt := CT.w
 ok _ h := condOk _ (Nat.le_refl _) h
end
section
open Go Go.RowKit
structure OfrWf (N : Nat) (o : Ofr) : Prop where
 n : o.n.length < N
 v : VerOk o.v ∧ o.v.e.length < N
 sm : o.sm.length < N
 f : o.f.length < N ∧ ∀ s ∈ o.f, SpOk s ∧ s.f.e.length < N ∧ s.t.e.length < N
 w : CtWf N o.w
theorem OfrWf.up {m n : Nat} (h : m ≤ n) {o : Ofr} (ho : OfrWf m o) : OfrWf n o :=
 ⟨Nat.lt_of_lt_of_le ho.n h, ⟨ho.v.1, Nat.lt_of_lt_of_le ho.v.2 h⟩, Nat.lt_of_lt_of_le ho.sm h, ⟨Nat.lt_of_lt_of_le ho.f.1 h, fun s hs => ⟨(ho.f.2 s hs).1, Nat.lt_of_lt_of_le (ho.f.2 s hs).2.1 h, Nat.lt_of_lt_of_le (ho.f.2 s hs).2.2 h⟩⟩, CtWf.up h ho.w⟩
theorem OfrWf.ok {N : Nat} (hN : N ≤ 1048576) {o : Ofr} (h : OfrWf N o) : OfrOk o where
 n := by have := h.n; omega
 v := h.v.1
 e := by have := h.v.2; omega
 sm := by have := h.sm; omega
 fl := by have := h.f.1; omega
 fs s hs := by have := h.f.2 s hs; unfold SpLen; omega
 w := CtIn.big (by omega) h.w.1
 ww := by have := h.w.2; omega
theorem rg_ds (x : List Sp) : decRg.ds x = [D.vec 10 (x.map spD)] := rfl
noncomputable def decOfr : Dec Tryz.prog 72 Ofr :=
  Dec.iso (Dec.struct Tryz.underlying72 (tot := 18) (by kernel_rfl)
    (DecF.cons (Dec.str Tryz.underlying9) rfl (n := 1) (by kernel_rfl) (DecF.cons decVer rfl (n := 4) (by kernel_rfl) (DecF.cons (Dec.str Tryz.underlying9) rfl (n := 1) (by kernel_rfl) (DecF.cons decRg rfl (n := 1) (by kernel_rfl)
      (DecF.cons (Dec.bool Tryz.underlying4) rfl (n := 1) (by kernel_rfl) (DecF.cons decCT rfl (n := 4) (by kernel_rfl) (DecF.cons (Dec.int .i64 Tryz.underlying3) rfl (n := 1) (by kernel_rfl) (DecF.cons (Dec.int .i64 Tryz.underlying3) rfl (n := 1) (by kernel_rfl)
        (DecF.cons (Dec.int .i64 Tryz.underlying3) rfl (n := 1) (by kernel_rfl) (DecF.cons (Dec.bool Tryz.underlying4) rfl (n := 1) (by kernel_rfl) (DecF.cons (Dec.bool Tryz.underlying4) rfl (n := 1) (by kernel_rfl) (DecF.cons (Dec.bool Tryz.underlying4) rfl (n := 1) (by kernel_rfl) (DecF.nil 18))))))))))))))
    (fun x => (⟨x.1, x.2.1, x.2.2.1, x.2.2.2.1, x.2.2.2.2.1, x.2.2.2.2.2.1, x.2.2.2.2.2.2.1, x.2.2.2.2.2.2.2.1, x.2.2.2.2.2.2.2.2.1, x.2.2.2.2.2.2.2.2.2.1, x.2.2.2.2.2.2.2.2.2.2.1, x.2.2.2.2.2.2.2.2.2.2.2.1⟩ : Ofr)) ofrD OfrWf
    (fun _ _ _ h hx => OfrWf.up h hx) (fun x => by
      show _ ++ (_ ++ (_ ++ (_ ++ (_ ++ (CT.d x.2.2.2.2.2.1 ++ _))))) = _
      rw [ct_d]; rfl)
    (fun N x hx _ => ⟨hx.1, hx.2.1, hx.2.2.1, hx.2.2.2.1, hx.2.2.2.2.2.1⟩)
end
section
open Go Go.RowKit
structure FedWf (N : Nat) (f : Fed) : Prop where
 c : f.ch.length < N
 o : f.of.length < N ∧ ∀ o ∈ f.of, OfrWf N o
theorem FedWf.up {m n : Nat} (h : m ≤ n) {f : Fed} (hf : FedWf m f) : FedWf n f := ⟨Nat.lt_of_lt_of_le hf.c h, Nat.lt_of_lt_of_le hf.o.1 h, fun o ho => (hf.o.2 o ho).up h⟩
theorem FedWf.a {N : Nat} (hN : N ≤ 1048576) {f : Fed} (h : FedWf N f) : FedA f := ⟨by have := h.c; omega, by have := h.o.1; omega, fun o ho => (h.o.2 o ho).ok hN⟩
noncomputable def decFed : Dec Tryz.prog 56 Fed :=
  Dec.iso (Dec.struct Tryz.underlying56 (tot := 4) (by kernel_rfl)
    (DecF.cons (Dec.str Tryz.underlying9) rfl (n := 1) (by kernel_rfl) (DecF.cons (Dec.int .i64 Tryz.underlying3) rfl (n := 1) (by kernel_rfl) (DecF.cons (Dec.int .i64 Tryz.underlying3) rfl (n := 1) (by kernel_rfl)
      (DecF.cons (Dec.slice Tryz.underlying54 (sz := 18) (by kernel_rfl) (by decide) decOfr) rfl (n := 1) (by kernel_rfl) (DecF.nil 4))))))
    (fun x => (⟨x.1, x.2.1, x.2.2.1, x.2.2.2.1⟩ : Fed)) fedD FedWf (fun _ _ _ h hx => FedWf.up h hx) (fun _ => rfl) (fun N x hx _ => ⟨hx.1, hx.2.2.2.1⟩)
end
end Go.Proofs.YtpelfildfidnbaaGreatDoor
namespace Go.Proofs.YtpelfildfidnbaaGreatDoor.fnMergesMatch
open Go Go.RowKit Go.ChangeShapes Go.WideShapes Go.ChangeAt
theorem contract (H : Type) (enc : TypeId × Value → H) (W : World) (base : Nat) (args : Array Value) (ds gs : List (DataW H)) (before : List MemPlace)
  (hval : ∀ (j : Nat) t v, Tryz.f4.params[j]? = some t → args[j]? = some v → Value.okWide Tryz.prog W .any base t v)
  (hW : DataW.Whole enc Tryz.prog Tryz.f4.params.toList Rows.mergesMatchSpec.vars false W args.toList ds gs before) (hc : Rows.uptoSmall H (ds ++ gs) = true)
  (hL : laidMetH Tryz.prog Rows.mergesMatchUptoRow.laid W) (hS : W.ShapedOpen Tryz.prog) :
  Calls Tryz.prog 4 args W fun e W' => ∃ v, e = .returned v ∧ Rows.mergesMatchSpec.post enc Tryz.prog Tryz.f4 false true false false W args v W' := by
 have hW' := hW
 obtain ⟨p, q, hA0, hV, rfl, hfz, hnd⟩ := hW
 have hA : DataW.TrodAll enc Tryz.prog W 0 (fun _ => true) true Tryz.f4.params.toList args.toList ds p := hA0
 rw [Tryz.params4] at hA hval
 obtain ⟨v0, vs0, d0, ds0, p0, q0, hargs, rfl, rfl, h0, r0⟩ := trodAll_cons hA
 obtain ⟨rfl, rfl, rfl⟩ := trodAll_nil r0
 obtain rfl : args = #[v0] := Array.ext' (by simpa using hargs)
 obtain ⟨rfl, rfl⟩ := trodVars_none hV
 obtain ⟨l, e0, w0⟩ := arg_one (Dec.slice Tryz.underlying53 (sz := 4) (by kernel_rfl) (by decide) decFed) (by kernel_rfl) (hval 0 53 v0 rfl rfl) h0
 have hbulk : Rows.uptoBulkAll ([d0] ++ []) ≤ 1048576 := of_decide_eq_true hc
 simp only [List.append_nil, Rows.uptoBulkAll] at hbulk
 have h0 : l.length < Rows.uptoBulk d0 ∧ ∀ f ∈ l, FedWf (Rows.uptoBulk d0) f := w0
 have pc := pc_MergesMatch l (by omega) (fun f hf => (h0.2 f hf).a (by omega))
 refine law_post (by kernel_rfl) (by kernel_rfl) rfl rfl Tryz.underlying4 hW' ⟨rfl, rfl, rfl⟩ pc (base_of (l := Rows.mergesMatchUptoRow.laid) hL (.tail _ (.tail _ (.head _))) (.tail _ (.tail _ (.tail _ (.tail _ (.tail _ (.head _)))))) (.tail _ (.tail _ (.tail _ (.tail _ (.head _))))) (.tail _ (.head _)) hS) rfl (fun i u v hu hv => ?_)
 match i with
 | 0 => simp at hu hv; subst hu; subst hv; exact e0 _ rfl
 | i + 1 => simp at hu
end Go.Proofs.YtpelfildfidnbaaGreatDoor.fnMergesMatch
namespace Go.Proofs.YtpelfildfidnbaaGreatDoor.fnMergesMatch
open Go Go.RowKit Go.ChangeShapes Go.WideShapes Go.ChangeAt
def zargs : Array Value := #[.slice none 0 0]
set_option maxRecDepth 100000 in
theorem laid_met (os : Os) : laidMet Tryz.prog Rows.mergesMatchUptoRow.laid ((laidWorld os).forCall (fun _ _ => 0) ⟨#[], zargs, []⟩).memory :=
 laidMet_of_run' 8 (by kernel_rfl) (by kernel_rfl)
set_option maxRecDepth 100000 in
theorem reads (os : Os) {H : Type} (enc : TypeId × Value → H) : ∃ ds places, DataW.whole enc Tryz.prog ((laidWorld os).forCall (fun _ _ => 0) ⟨#[], zargs, []⟩).memory Tryz.f4.params.toList Rows.mergesMatchSpec.vars false zargs.toList 8 = some (ds, [], places) ∧ Rows.uptoSmall H (ds ++ []) = true :=
 ⟨[.nil], [], by kernel_rfl, by kernel_rfl⟩
theorem own : ownKnob Tryz.prog.godebug = none := by kernel_rfl
set_option maxRecDepth 100000 in
theorem liftedUpto (os : Os) (started : os.Started) (H : Type) (enc : TypeId × Value → H) (F : Stop.Interp) :
    ReturnsInHanded {} Tryz.checked os 4 .any ((Rows.OpenSpec.upto Rows.mergesMatchSpec).preRow enc Tryz.prog Tryz.f4 Rows.mergesMatchUptoRow.domain false Rows.mergesMatchUptoRow.laid) (((Rows.OpenSpec.upto Rows.mergesMatchSpec).at F).post enc Tryz.prog Tryz.f4 false true false false) := by
  obtain ⟨ds, places, hx, hsm⟩ := reads os enc
  refine returnsInHanded_of_row (C := Tryz.checked) (s := Rows.OpenSpec.upto Rows.mergesMatchSpec) own started (by kernel_rfl) Tryz.func4
    (witness_row_at (enc := enc) (C := Tryz.checked) false (laidWorld os) zargs rfl (by kernel_rfl) (by kernel_rfl) (by kernel_rfl)
      (OpenSpec.preRow_of_cond 8 hx (by kernel_rfl) (fun k hk => by cases hk; exact hsm) (by kernel_rfl) (laid_met os))) ?_
  intro W base args ds gs before hval hW _ hcond _ hL hS _
  exact contract H enc W base args ds gs before hval hW (hcond _ rfl) hL hS
theorem band {a b : Bool} (ha : a = true) (hb : b = true) : (a && b) = true := by rw [ha, hb]; rfl
set_option maxRecDepth 100000 in
theorem closed : joinedFacts Tryz.pinned.checked.prog 4 Tryz.f4 (Rows.OpenSpec.upto Rows.mergesMatchSpec).bare Rows.mergesMatchUptoRow = true := by
 unfold joinedFacts
 refine band (band (band (band (band (band (band (band (band (band (band (band (band (band (band (band (band (band (band (band (band (band (band (band (band (band (band (band (band (band (band ?_ ?_) ?_) ?_) ?_) ?_) ?_) ?_) ?_) ?_) ?_) ?_) ?_) ?_) ?_) ?_) ?_) ?_) ?_) ?_) ?_) ?_) ?_) ?_) ?_) ?_) ?_) ?_) ?_) ?_) ?_) ?_
 all_goals (as_aux_lemma => kernel_rfl)
theorem saidUpto : Rows.MergesMatchUptoSaid :=
  OpenClaim.holds_of_cond 4 Tryz.f4 rfl rfl rfl rfl rfl rfl rfl ⟨rfl, rfl, rfl, rfl, rfl⟩ rfl rfl rfl rfl rfl (by as_aux_lemma => kernel_rfl) Tryz.func4 closed
    (of_decide_eq_true (by kernel_rfl)) (by unfold Func.isWrapper; first | (rw [if_pos (by decide +kernel)]; kernel_rfl) | (rw [if_neg (by decide +kernel)]; exact ⟨rfl, rfl⟩))
    (fun os started H enc _ F => by rw [OpenClaim.pre_eq_preRow]; exact liftedUpto os started H enc F)
theorem plain (f : FuncId) (fn : Func) (hf : Tryz.pinned.checked.prog.funcNamed "outfitter/outlaw2.MergesMatch" = some f) (hfn : Tryz.pinned.checked.prog.funcs[f]? = some fn) :
  true = Tryz.pinned.checked.prog.looks [] ∧ ∀ (j : Nat) t, fn.params[j]? = some t → Tryz.pinned.checked.prog.wantsStandIn t = false := by
 obtain rfl : f = 4 := Option.some.inj ((show Tryz.prog.funcNamed "outfitter/outlaw2.MergesMatch" = some 4 by kernel_rfl).symm.trans hf) |>.symm
 obtain rfl : fn = Tryz.f4 := (Option.some.inj (Tryz.func4.symm.trans hfn)).symm
 refine ⟨by kernel_rfl, fun j t ht => ?_⟩
 rw [Tryz.params4] at ht
 have hm : t = 53 := by
  have h1 := Array.mem_of_getElem? ht
  have h2 : t = 53 := by simpa using h1
  exact h2
 subst hm
 exact (show Tryz.prog.wantsStandIn 53 = false by kernel_rfl)
theorem cardUpto : Rows.MergesMatchUptoCardSaid :=
 Claim7.holds_tied_plain_at .later [] _ _ _ _ saidUpto (fun _ h => by cases h) (by kernel_rfl) (fun _ h => by cases h) mergesMatchUpto_row_tie rfl ⟨rfl, rfl⟩ (by kernel_rfl) rfl plain (by kernel_rfl)
end Go.Proofs.YtpelfildfidnbaaGreatDoor.fnMergesMatch
