/- Part 4 of a proof: W70, A48, A49, W71, V72, V73, A50, A51, A52, W72, ShelfK, L6, W61, W62, W63, W64, W65, W66, W67, W68, V68, V69, V70, V74, A53. -/
import Derived.Shelf.SlIter.Nil
import Derived.Shelf.SortM.Plain
import Derived.Shelf.SortM.SortNone
import Derived.Ground.GgzProg
import Derived.Ground.SlgmProg
import Derived.Test.YtcchfmilleffjaaGreatDoorProg
import Derived.Test.YtcchfmilleffjaaGreatDoorMCTopThereAndBack3
set_option linter.unusedVariables false
set_option linter.unusedSimpArgs false
set_option maxRecDepth 100000
set_option maxHeartbeats 4000000
namespace Go.Proofs.YtcchfmilleffjaaGreatDoor
open Go
open Go.RowKit
attribute [local irreducible] rangeB pathB nameB valueB firstNe parR rangeE Ver.check hasB readE
def mvD (m : Mv) : List D := [.vec 10 (m.f.map spD), .int .i64 m.t.a, .int .i64 m.t.b, .int .i64 m.t.c, .str m.t.e, .vec 1 (m.rs.map fun s => [.str s])]
structure MvB (m : Mv) : Prop where
  f : m.f.length ≤ 1000000000
  sp : ∀ s ∈ m.f, SpLen s
  e : m.t.e.length < 4294967281
  n : m.rs.length ≤ 2000000
  r : ∀ s ∈ m.rs, s.length ≤ 4000000
theorem readTo_D {l : List L8} {i : Nat} (hi : i < l.length) : (readTo l i).map rulD ++ [rulD (parR (l.getD i [])).1] = (readTo l (i + 1)).map rulD := by rw [readTo_succ hi, List.map_append]; rfl
theorem le_readNil {n : Int} {x : List Rul × Int} (h : x = ([], n)) : LeV (.tup [.one (.d .nilsl), .one (.d (.int .i64 n))]) (.tup [.one (.d (.vec 5 (x.1.map rulD))), .one (.d (.int .i64 x.2))]) := by
  subst h; exact LeV.tup2 (LeV.nil 5) (LeV.refl _)
theorem pc_rulesOf (m : Mv) (hm : MvB m) :
  PureCall Tryz.prog J 75 [.agg [.d (.vec 10 (m.f.map spD)), .d (.int .i64 m.t.a), .d (.int .i64 m.t.b), .d (.int .i64 m.t.c), .d (.str m.t.e), .d (.vec 1 (m.rs.map fun s => [.str s]))]] (.tup [.one (.d (.vec 5 ((readM m.rs).1.map rulD))), .one (.d (.int .i64 (readM m.rs).2))]) := by
 refine PureCall.of_body tOk (fn := Tryz.f75) Tryz.func75 (by kernel_rfl) rfl (Nat.le_of_ble_eq_true rfl) (fun E => ?_)
 refine W.seq ?_
 refine W.region ?_
 refine S.box rfl rfl rfl rfl ?_
 refine S.pure tOk zOk rfl rfl rfl ?_
 refine S.pure tOk zOk rfl rfl rfl ?_
 refine thenK_n ?_
 refine W.seq ?_
 refine W.region ?_
 refine S.pure tOk zOk rfl rfl rfl ?_
 refine thenK_n ?_
 refine W.seq ?_
 refine W.seq ?_
 refine W.region ?_
 refine S.pure tOk zOk rfl rfl rfl ?_
 refine S.pure tOk zOk rfl rfl rfl ?_
 refine S.pure tOk zOk rfl rfl rfl ?_
 refine S.pure tOk zOk rfl rfl rfl ?_
 refine thenK_n ?_
 refine W.newRow 4 5 79 rfl ?_
 refine W.block ?_
 refine W.loop (fun k st => ∃ i : Nat, ∃ v : Nat, ∃ al : Bool, i ≤ m.rs.length ∧ ((m.rs.map fun s => (parR s).2).take i).all (· == 0) = true ∧ k = m.rs.length - i ∧ ∃ t b2 r2 m2, st = ⟨t, [] ++ b2, [some ⟨al, v, 5, 79, (readTo m.rs i).map rulD⟩] ++ r2, [] ++ m2⟩ ∧ holdsL t [(4, .one (.row 0 v 0 ((readTo m.rs i).map rulD).length)), (10, .one (.d (.vec 1 (m.rs.map fun x => [.str x])))), (11, .one (.d (.int .i64 ((m.rs.map fun x => ([.str x] : List D)).length : Int)))), (12, .one (.d (.int .i64 (i : Int))))]) (m.rs.length) ⟨0, _, _, Nat.zero_le _, by simp, rfl, _, _, _, _, rfl, rfl, rfl, rfl, rfl, trivial⟩ ?_
 rintro k0 _ ⟨i, v, al, f0_0, f0_1, rfl, t0, bb0, rr0, mm0, rfl, hh0⟩
 refine W.keepR _ _ _ _ _ _ _ hh0 rfl ?_
 refine W.reVer (l := [(4, .one (.row 0 0 0 ((readTo m.rs i).map rulD).length)), (10, .one (.d (.vec 1 (m.rs.map fun x => [.str x])))), (11, .one (.d (.int .i64 ((m.rs.map fun x => ([.str x] : List D)).length : Int)))), (12, .one (.d (.int .i64 (i : Int))))]) (b := []) 0 rfl rfl rfl rfl rfl ?_
 refine W.seq ?_
 refine W.region ?_
 refine S.pure tOk zOk rfl rfl rfl ?_
 refine thenK_n ?_
 refine W.seq ?_
 refine W.cond rfl (fun c1 => ?_) (fun c1 => ?_)
 ·skip
  have hi := row_lt c1
  have hri := hm.r _ (mem_getD (d := ([] : L8)) hi)
  have hmn := hm.n
  refine W.skip ?_
  refine thenK_n ?_
  refine W.seq ?_
  refine W.block ?_
  refine W.seq ?_
  refine W.region ?_
  refine S.pureE tOk zOk rfl (row_ok hi) (row_at [] hi) rfl ?_
  refine S.pure tOk zOk rfl rfl rfl ?_
  refine S.pure tOk zOk rfl rfl rfl ?_
  refine thenK_n ?_
  refine W.seq ?_
  refine W.region ?_
  refine S.pure tOk zOk rfl rfl rfl ?_
  refine S.call rfl rfl rfl rfl rfl (pc_ParseRule (m.rs.getD i []) hri) ?_
  refine S.pure tOk zOk rfl rfl rfl ?_
  refine S.pure tOk zOk rfl rfl rfl ?_
  refine S.pure tOk zOk rfl rfl rfl ?_
  refine S.alloc tOk rfl rfl rfl rfl ?_
  refine S.store tOk rfl rfl rfl rfl rfl rfl rfl rfl ?_
  refine S.pure tOk zOk rfl rfl rfl ?_
  refine thenK_n ?_
  refine W.seq ?_
  refine W.seq ?_
  refine W.region ?_
  refine S.pure tOk zOk rfl rfl rfl ?_
  refine S.pure tOk zOk rfl rfl rfl ?_
  refine thenK_n ?_
  refine W.cond rfl (fun c2 => ?_) (fun c2 => ?_)
  ·skip
   refine W.seq ?_
   refine W.region ?_
   refine S.pure tOk zOk rfl rfl rfl ?_
   refine S.pure tOk zOk rfl rfl rfl ?_
   refine S.pure tOk zOk rfl rfl rfl ?_
   refine thenK_n ?_
   refine W.ret ?_
   refine thenK_r ?_
   refine blockK_r ?_
   refine thenK_r ?_
   refine thenK_r ?_
   refine blockK_r ?_
   refine thenK_r ?_
   exact ⟨_, rfl, rfl, le_readNil (read_1 hi f0_1 c2)⟩
  ·skip
   refine W.skip ?_
   refine thenK_n ?_
   refine W.region ?_
   refine S.pure tOk zOk rfl rfl rfl ?_
   refine S.pure tOk zOk rfl rfl rfl ?_
   refine S.slice tOk rfl rfl ?_
   refine S.append tOk rfl rfl rfl rfl rfl rfl rfl rfl rfl rfl rfl rfl (by have hq := readTo_len (l := m.rs) (Nat.le_of_lt hi); show _ + 1 ≤ _; rw [List.length_map]; omega) rfl (readTo_D hi) rfl ?_
   refine S.pure tOk zOk rfl rfl rfl ?_
   refine blockK_n ?_
   refine thenK_n ?_
   refine W.region ?_
   refine S.pure tOk zOk rfl rfl rfl ?_
   refine S.pure tOk zOk rfl rfl rfl ?_
   refine loop_n (m.rs.length - (i + 1)) (by omega) ⟨i + 1, _, _, hi, fe_next (d := ([] : L8)) hi f0_1 c2, rfl, _, _, _, _, rfl, rfl, rfl, rfl, inc_i64 (by omega), trivial⟩
 ·skip
  have hi := row_ge c1
  obtain rfl : i = m.rs.length := by omega
  refine W.exit ?_
  refine thenK_e ?_
  refine thenK_e ?_
  refine blockK_x ?_
  refine thenK_n ?_
  refine W.seq ?_
  refine W.freeze (ri := 0) (q := ⟨_, _, _, _, _⟩) [4] rfl (by intro k hk; simp at hk; subst hk; exact congrArg (fun z => V.one (.row 0 0 0 z)) (by simp)) ?_
  refine W.region ?_
  refine S.pure tOk zOk rfl rfl rfl ?_
  refine S.pure tOk zOk rfl rfl rfl ?_
  refine S.pure tOk zOk rfl rfl rfl ?_
  refine thenK_n ?_
  refine W.ret ?_
  exact ⟨_, rfl, rfl, LeV.of_force rfl (by rw [read_2 f0_1]; rfl)⟩
theorem pc_CheckMove (m : Mv) (hm : MvB m) :
  PureCall Tryz.prog J 31 [.agg [.d (.vec 10 (m.f.map spD)), .d (.int .i64 m.t.a), .d (.int .i64 m.t.b), .d (.int .i64 m.t.c), .d (.str m.t.e), .d (.vec 1 (m.rs.map fun s => [.str s]))]] (.one (.d (.int .i64 (moveE m)))) := by
 refine PureCall.of_body tOk (fn := Tryz.f31) Tryz.func31 (by kernel_rfl) rfl (Nat.le_of_ble_eq_true rfl) (fun E => ?_)
 refine W.seq ?_
 refine W.region ?_
 refine S.box rfl rfl rfl rfl ?_
 refine S.pure tOk zOk rfl rfl rfl ?_
 refine thenK_n ?_
 refine W.seq ?_
 refine W.seq ?_
 refine W.region ?_
 refine S.pure tOk zOk rfl rfl rfl ?_
 refine S.pure tOk zOk rfl rfl rfl ?_
 refine S.call rfl rfl rfl rfl rfl (pc_ver_CheckRange m.f hm.f hm.sp) ?_
 refine S.pure tOk zOk rfl rfl rfl ?_
 refine thenK_n ?_
 refine W.seq ?_
 refine W.region ?_
 refine S.pure tOk zOk rfl rfl rfl ?_
 refine S.pure tOk zOk rfl rfl rfl ?_
 refine thenK_n ?_
 refine W.cond rfl (fun c1 => ?_) (fun c1 => ?_)
 ·skip
  refine W.seq ?_
  refine W.region ?_
  refine S.pure tOk zOk rfl rfl rfl ?_
  refine S.pure tOk zOk rfl rfl rfl ?_
  refine thenK_n ?_
  refine W.ret ?_
  refine thenK_r ?_
  exact ⟨_, rfl, rfl, LeV.of_force rfl (congrArg (fun x : Int => V.one (C.d (D.int .i64 x))) ((if_pos c1) : moveE m = _)).symm⟩
 ·skip
  refine W.skip ?_
  refine thenK_n ?_
  refine W.seq ?_
  refine W.seq ?_
  refine W.region ?_
  refine S.pure tOk zOk rfl rfl rfl ?_
  refine S.pure tOk zOk rfl rfl rfl ?_
  refine S.call rfl rfl rfl rfl rfl (pc_ver_Check m.t hm.e) ?_
  refine S.pure tOk zOk rfl rfl rfl ?_
  refine thenK_n ?_
  refine W.seq ?_
  refine W.region ?_
  refine S.pure tOk zOk rfl rfl rfl ?_
  refine S.pure tOk zOk rfl rfl rfl ?_
  refine thenK_n ?_
  refine W.cond rfl (fun c2 => ?_) (fun c2 => ?_)
  ·skip
   refine W.seq ?_
   refine W.region ?_
   refine S.pure tOk zOk rfl rfl rfl ?_
   refine S.pure tOk zOk rfl rfl rfl ?_
   refine thenK_n ?_
   refine W.ret ?_
   refine thenK_r ?_
   exact ⟨_, rfl, rfl, LeV.of_force rfl (congrArg (fun x : Int => V.one (C.d (D.int .i64 x))) (((if_neg (Bool.eq_false_iff.1 c1)).trans (if_pos c2)) : moveE m = _)).symm⟩
  ·skip
   refine W.skip ?_
   refine thenK_n ?_
   refine W.seq ?_
   refine W.seq ?_
   refine W.region ?_
   refine S.pure tOk zOk rfl rfl rfl ?_
   refine S.pure tOk zOk rfl rfl rfl ?_
   refine S.pure tOk zOk rfl rfl rfl ?_
   refine S.pure tOk zOk rfl rfl rfl ?_
   refine thenK_n ?_
   refine W.cond rfl (fun c3 => ?_) (fun c3 => ?_)
   ·skip
    have c3 : decide ((m.rs.length : Int) > 100) = true := by simpa using c3
    refine W.seq ?_
    refine W.region ?_
    refine S.pure tOk zOk rfl rfl rfl ?_
    refine thenK_n ?_
    refine W.ret ?_
    refine thenK_r ?_
    exact ⟨_, rfl, rfl, LeV.of_force rfl (congrArg (fun x : Int => V.one (C.d (D.int .i64 x))) (((if_neg (Bool.eq_false_iff.1 c1)).trans ((if_neg (Bool.eq_false_iff.1 c2)).trans (if_pos c3))) : moveE m = _)).symm⟩
   ·skip
    have c3 : decide ((m.rs.length : Int) > 100) = false := by simpa using c3
    refine W.skip ?_
    refine thenK_n ?_
    refine W.seq ?_
    refine W.region ?_
    refine S.pure tOk zOk rfl rfl rfl ?_
    refine S.call rfl rfl rfl rfl rfl (pc_rulesOf m hm) ?_
    refine S.pure tOk zOk rfl rfl rfl ?_
    refine S.pure tOk zOk rfl rfl rfl ?_
    refine S.pure tOk zOk rfl rfl rfl ?_
    refine S.pure tOk zOk rfl rfl rfl ?_
    refine S.pure tOk zOk rfl rfl rfl ?_
    refine thenK_n ?_
    refine W.seq ?_
    refine W.region ?_
    refine S.pure tOk zOk rfl rfl rfl ?_
    refine S.pure tOk zOk rfl rfl rfl ?_
    refine thenK_n ?_
    refine W.ret ?_
    exact ⟨_, rfl, rfl, LeV.of_force rfl (congrArg (fun x : Int => V.one (C.d (D.int .i64 x))) (((if_neg (Bool.eq_false_iff.1 c1)).trans ((if_neg (Bool.eq_false_iff.1 c2)).trans (if_neg (Bool.eq_false_iff.1 c3)))) : moveE m = _)).symm⟩
theorem pc_landed  :
  PureCall Tryz.prog J 16 [] (.one (.d (.bool (nameB [97])))) := by
 refine PureCall.of_body tOk (fn := Tryz.f16) Tryz.func16 (by kernel_rfl) rfl (Nat.le_of_ble_eq_true rfl) (fun E => ?_)
 refine W.seq ?_
 refine W.region ?_
 refine S.pure tOk zOk rfl rfl rfl ?_
 refine thenK_n ?_
 refine W.seq ?_
 refine W.region ?_
 refine S.call rfl rfl rfl rfl rfl (pc_ver_IsName [97] (by decide)) ?_
 refine S.pure tOk zOk rfl rfl rfl ?_
 refine thenK_n ?_
 refine W.ret ?_
 exact ⟨_, rfl, rfl, LeV.refl _⟩
end Go.Proofs.YtcchfmilleffjaaGreatDoor
namespace Go.Proofs.YtcchfmilleffjaaGreatDoor
open Go Go.RowKit
section
variable {P : Program}
theorem run_append_roomO (w : World) (t ty e : TypeId) (i : TypeInfo) (ht : P.underlying t = some (.slice e)) (hi : P.info? e = some i) (g o sLen sCap : Nat) (cur : Array Value) (hg : w.heap[g]? = some (.cells cur e (0, 0)))
    (a : Addr) (m c : Nat) (news : List Value) (hl : news.length = m * i.size) (hnews : ∀ j u, news[j]? = some u → w.cell? (a.add j) = some u) (h1 : ∀ u ∈ news, u.oneCell' = true)
    (hroom : sLen + m ≤ sCap) (hfit : o + sLen * i.size + news.length ≤ cur.size) :
    (Builtin.append_ #[t, t] ty #[.slice (some ⟨g, o, none⟩) sLen sCap, .slice (some a) m c]).run P w =
      .ok (.slice (some ⟨g, o, none⟩) (sLen + m) sCap) (w.setRow g (cur.toList.take (o + sLen * i.size) ++ news ++ cur.toList.drop (o + sLen * i.size + news.length)).toArray) := by
  have hf := run_firstCells_some (P := P) w i.size m a m c news hl hnews
  have hst := run_storeCells_at P g (o + sLen * i.size) e news 0 cur w hg (by simpa using hfit) h1
  simp only [Nat.add_zero] at hst
  simp [Builtin.append_, run_underlying ht, sizeOf, typeInfo, hi, Builtin.lenOf, hroom, hf, Addr.add_lit, hst]
theorem append_off {w : World} (t ty e : TypeId) (i : TypeInfo) (z : Value) (size bytes : Nat) (ht : P.underlying t = some (.slice e)) (hi : P.info? e = some i) (hz : i.zero = some z) (hsize : i.size = size) (hby : i.bytes = bytes) (hzs : z.cells.size = size)
    (gb : Nat) (cur : Array Value) (cap o n : Nat) (hg : w.heap[gb]? = some (.cells cur e (0, 0))) (hcs : cur.size = cap * size) (hon : o + n ≤ cap)
    (a : Addr) (m c : Nat) (news : List Value) (hl : news.length = m * size) (hnews : ∀ j u, news[j]? = some u → w.cell? (a.add j) = some u) (h1 : ∀ u ∈ news, u.oneCell' = true)
    (h63 : n + m ≤ maxLen) (hbytes : (n + m) * bytes ≤ 140737488355328) :
    ∃ v' w', (Builtin.append_ #[t, t] ty #[.slice (some ⟨gb, o * size, none⟩) n (cap - o), .slice (some a) m c]).run P w = .ok v' w' ∧ w.grownBy w' (some gb) ∧
      ((v' = .slice (some ⟨gb, o * size, none⟩) (n + m) (cap - o) ∧ o + n + m ≤ cap ∧ ∃ cur', w'.heap[gb]? = some (.cells cur' e (0, 0)) ∧ cur'.size = cap * size ∧ (∀ k, k < (o + n) * size → cur'[k]? = cur[k]?) ∧ (∀ k, k < m * size → cur'[(o + n) * size + k]? = news[k]?)) ∨
       (∃ cap' cur', v' = .slice (some ⟨w.heap.size, 0, none⟩) (n + m) cap' ∧ n + m ≤ cap' ∧ cap' ≤ maxLen ∧ w'.heap[w.heap.size]? = some (.cells cur' e (0, 0)) ∧ cur'.size = cap' * size ∧ (∀ k, k < n * size → cur'[k]? = cur[o * size + k]?) ∧ (∀ k, k < m * size → cur'[n * size + k]? = news[k]?))) := by
  have h63' : ((n + m : Nat) : Int) ≤ 9223372036854775807 := by simp only [maxLen] at h63; omega
  subst hsize; subst hby
  by_cases hroom : n + m ≤ cap - o
  · have hk : (o + n + m) * i.size ≤ cap * i.size := Nat.mul_le_mul_right _ (by omega)
    have hd : o * i.size + n * i.size = (o + n) * i.size := by rw [Nat.add_mul]
    have hd2 : (o + n + m) * i.size = (o + n) * i.size + m * i.size := by rw [Nat.add_mul]
    have hr := run_append_roomO (P := P) w t ty e i ht hi gb (o * i.size) n (cap - o) cur hg a m c news hl hnews h1 hroom (by rw [hd, hcs, hl]; omega)
    rw [hd] at hr
    refine ⟨_, _, hr, ⟨rfl, rfl, rfl, by simp, fun k _ hk => setRow_other w gb k _ (fun e => hk (by rw [e]))⟩, .inl ⟨rfl, by omega, _, setRow_heap w gb cur _ e _ hg, ?_, fun k hk' => ?_, fun k hk' => ?_⟩⟩
    · simp only [List.size_toArray, List.length_append, List.length_take, List.length_drop, Array.length_toList]
      omega
    · have h2 : k < cur.size := by omega
      simp only [List.getElem?_toArray, List.append_assoc]
      rw [List.getElem?_append_left (by simp; omega), List.getElem?_take, if_pos hk']
      simp
    · simp only [List.getElem?_toArray, List.append_assoc]
      rw [List.getElem?_append_right (by simp; omega), List.getElem?_append_left (by simp; omega)]
      congr 1
      simp; omega
  · have hsub : ∀ k, k < n * i.size → o * i.size + k < cur.size := fun k hk => by
      have := Nat.mul_le_mul_right i.size hon
      rw [Nat.add_mul] at this; omega
    have hol : ((cur.toList.drop (o * i.size)).take (n * i.size)).length = n * i.size := by
      have := Nat.mul_le_mul_right i.size hon
      rw [Nat.add_mul] at this
      simp; omega
    have hr := run_append_grow (P := P) w t ty e i z ht hi hz ⟨gb, o * i.size, none⟩ n (cap - o) ((cur.toList.drop (o * i.size)).take (n * i.size)) hol (fun j u hj => by
      rw [List.getElem?_take] at hj
      split at hj
      · rw [Addr.add_lit]
        simp [World.cell?, hg] at hj ⊢
        exact hj
      · cases hj) a m c news hl hnews (by omega) h63' (growslice_fits (by omega) hbytes)
    have hge := grownCap_ge w (n + m) (cap - o) e
    have hcm : grownCap w (n + m) (cap - o) e ≤ maxLen := grownCap_le_maxLen w (n + m) (cap - o) e h63
    refine ⟨_, _, hr, ⟨rfl, rfl, rfl, by simp, fun k hk _ => by first | exact heap_alloc_old w.drew _ hk | exact heap_alloc_old w.drew _ _ hk⟩, .inr ⟨_, _, rfl, hge, hcm, heap_alloc_new w.drew _, ?_, fun k hk => ?_, fun k hk => ?_⟩⟩
    · simp only [Array.size_append, List.size_toArray, size_zeroCells, hzs, hol, hl, ← Nat.add_mul]
      congr 1
      omega
    · rw [Array.append_assoc, Array.getElem?_append_left (by rw [List.size_toArray, hol]; exact hk)]
      simp only [List.getElem?_toArray, List.getElem?_take, if_pos hk, List.getElem?_drop]
      simp
    · rw [Array.append_assoc, Array.getElem?_append_right (by rw [List.size_toArray, hol]; omega), Array.getElem?_append_left (by rw [List.size_toArray, List.size_toArray, hol, hl]; omega)]
      simp only [List.getElem?_toArray, List.size_toArray, hol]
      congr 1
      omega
theorem rowV_of {g : Gh} {s : St} {r : Nat} {o' : RowO} {at' cap' off n : Nat} {w' : World} {v' : Value} (hr : r < s.r.length) (hal : o'.al = true) (hon : off + n = o'.xs.length) (hv : v' = .slice (some ⟨at', off * o'.sz, none⟩) n (cap' - off)) :
    RV (g.row r at' cap') (s.withRow r o').sh w' (.one (.row r o'.ver off n)) v' := by
  subst hv
  refine .one _ _ (.row _ _ _ _ _ rfl (by simpa [St.sh, St.withRow] using hr) (fun al' ver' sz len h => ?_))
  have hf := rows_get (s := s.withRow r o') (r := r) (o := o') (by simp [St.withRow, List.getElem?_set, hr])
  rw [hf] at h
  simp only [Option.some.injEq, RowO.form, Prod.mk.injEq] at h
  obtain ⟨rfl, rfl, rfl, rfl⟩ := h
  refine ⟨Nat.le_refl _, fun _ => ⟨by omega, ?_⟩⟩
  rw [hal]
  simp [Gh.row]
theorem Rel.appendO {J : Inv} {k0 : Lens} {E : Env J k0} {T : TypeId → Option TI} (hT : TabOk P T) {n : Nat} {g : Gh} {s : St} {a : Act} {w : World} (rel : Rel E n g s a w) {t e ty : TypeId} {ti ei : TI} (hti : T t = some ti) (hd : ti.desc = .slice e)
    (hei : T e = some ei) (hz : ei.zero.cells.size = ei.size) (hpos : 0 < ei.size) {r : Nat} {o : RowO} (ho : s.r[r]? = some (some o)) (hal : o.al = true) (hsz : o.sz = ei.size) (hty : o.ty = e) {off ln : Nat} (hon : off + ln = o.xs.length) {news : List (List D)} {u v : Value}
    (hu : RV g s.sh w (.one (.row r o.ver off ln)) u) (hv : RV g s.sh w (.one (.d (.vec ei.size news))) v) (h63 : ln + news.length ≤ maxLen) (hb : (ln + news.length) * ei.bytes ≤ 140737488355328) :
    ∃ v' w' g' xs' off', (Builtin.append_ #[t, t] ty #[u, v]).run P w = .ok v' w' ∧ off' + (ln + news.length) = xs'.length ∧ xs'.drop off' = o.xs.drop off ++ news ∧ Rel E n g' (s.withRow r ⟨true, o.ver + 1, o.sz, o.ty, xs'⟩) a w' ∧
      Ext g s.sh w g' (s.withRow r ⟨true, o.ver + 1, o.sz, o.ty, xs'⟩).sh w' ∧ RV g' (s.withRow r ⟨true, o.ver + 1, o.sz, o.ty, xs'⟩).sh w' (.one (.row r (o.ver + 1) off' (ln + news.length))) v' := by
  have hr : r < s.r.length := (List.getElem?_eq_some_iff.1 ho).1
  have hlive : s.live (.r r) := ⟨o, ho, hal⟩
  obtain ⟨ht, _⟩ := hT t ti hti
  rw [hd] at ht
  obtain ⟨_, info, hi1, hi2, hi3, hi4, _⟩ := hT e ei hei
  have hrow := rel.heap.row r o ho
  rw [if_pos hal] at hrow
  obtain ⟨vs, t', q1, ⟨q2, q3, q4, q5⟩, q6, q7, _, q8⟩ := hrow
  rw [q4, Nat.zero_add] at q2
  rw [q4] at q8
  simp only [Nat.zero_add] at q8
  have hue : u = .slice (some ⟨g.at_ (.r r), off * o.sz, none⟩) ln (g.cap r - off) := by
    cases hu with | one _ _ hu => cases hu with | row _ _ _ _ _ h1 h2 hx =>
    obtain ⟨_, hx⟩ := hx _ _ _ _ (rows_get ho)
    obtain ⟨_, hx⟩ := hx rfl
    rw [if_pos hal, q4, Nat.zero_add] at hx
    exact hx
  subst hue
  have core : ∀ (ad : Addr) (c : Nat) (newsV : List Value), newsV.length = news.length * ei.size → (∀ j u, newsV[j]? = some u → w.cell? (ad.add j) = some u) → (∀ u ∈ newsV, u.oneCell' = true) →
      (∀ (i j : Nat) (x : List D) (d : D) (q : Value), news[i]? = some x → x[j]? = some d → newsV[i * ei.size + j]? = some q → RD g.im w d q) → (∀ x ∈ news, x.length = ei.size) → v = .slice (some ad) news.length c →
      ∃ v' w' g' xs' off', (Builtin.append_ #[t, t] ty #[.slice (some ⟨g.at_ (.r r), off * o.sz, none⟩) ln (g.cap r - off), v]).run P w = .ok v' w' ∧ off' + (ln + news.length) = xs'.length ∧ xs'.drop off' = o.xs.drop off ++ news ∧ Rel E n g' (s.withRow r ⟨true, o.ver + 1, o.sz, o.ty, xs'⟩) a w' ∧
        Ext g s.sh w g' (s.withRow r ⟨true, o.ver + 1, o.sz, o.ty, xs'⟩).sh w' ∧ RV g' (s.withRow r ⟨true, o.ver + 1, o.sz, o.ty, xs'⟩).sh w' (.one (.row r (o.ver + 1) off' (ln + news.length))) v' := by
    intro ad c newsV l1 l2 l3 l4 l5 hv'
    subst hv'
    rw [hsz] at q2 q8
    have q1' : w.heap[g.at_ (.r r)]? = some (.cells vs e (0, 0)) := by rw [q1, q3, hty]
    obtain ⟨v', w', hrun, hgr, hcase⟩ := append_off (P := P) (w := w) t ty e info ei.zero ei.size ei.bytes ht hi1 hi3 hi2 hi4 hz (g.at_ (.r r)) vs (g.cap r) off ln q1' q2 (by omega) ad news.length c newsV l1 l2 l3 h63 hb
    rw [← hsz] at hrun
    have hblk' : ∀ k, k < w.heap.size → (o.al = true → k ≠ g.at_ (.r r)) → w'.heap[k]? = w.heap[k]? := fun k hk hne => hgr.block k hk (fun e => hne hal (Option.some.inj e))
    have hsame : ∀ b, g.im b → w'.heap[b]? = w.heap[b]? := fun b hb' => hblk' b (rel.imlt b hb') (fun _ e => rel.heap.new (.r r) hlive (e ▸ hb'))
    rcases hcase with ⟨hv2, hroom, cur', c1, c2, c3, c4⟩ | ⟨cap', cur', hv2, hge, hcm, c1, c2, c3, c4⟩
    · obtain ⟨rel', ext⟩ := rel.setRow (o' := ⟨true, o.ver + 1, o.sz, o.ty, o.xs ++ news⟩) (at' := g.at_ (.r r)) (cap' := g.cap r) ho (Nat.lt_succ_self _) hgr.os hgr.tape hgr.output hgr.size hblk' (fun _ => .inl ⟨hal, rfl⟩)
        (by
          rw [if_pos rfl]
          refine ⟨cur', by rw [hty]; exact c1, by rw [hsz]; exact c2, q5, by simp; omega, fun x hx => ?_, fun _ _ => trivial, fun i j x d q p1 p2 p3 => ?_⟩
          · rcases List.mem_append.1 hx with h | h
            · exact q7 x h
            · rw [hsz]; exact l5 x h
          · refine RD.of_im ?_ hsame
            simp only at p1 p3
            rw [hsz] at p3
            by_cases hi : i < o.xs.length
            · rw [List.getElem?_append_left hi] at p1
              have hj : j < ei.size := by
                have h1 := (List.getElem?_eq_some_iff.1 p2).1
                rw [q7 x (List.mem_of_getElem? p1), hsz] at h1; exact h1
              have hk : i * ei.size + j < (off + ln) * ei.size := by
                have := Nat.mul_le_mul_right ei.size (show i + 1 ≤ off + ln by omega)
                rw [Nat.add_mul, Nat.one_mul] at this; omega
              rw [c3 _ hk] at p3
              exact q8 i j x d q p1 p2 p3
            · rw [List.getElem?_append_right (by omega)] at p1
              have hj : j < ei.size := by
                have h1 := (List.getElem?_eq_some_iff.1 p2).1
                rw [l5 x (List.mem_of_getElem? p1)] at h1; exact h1
              have hin : i - o.xs.length < news.length := (List.getElem?_eq_some_iff.1 p1).1
              have e1 : i * ei.size = (off + ln) * ei.size + (i - o.xs.length) * ei.size := by rw [← Nat.add_mul]; congr 1; omega
              have hk2 : (i - o.xs.length) * ei.size + j < news.length * ei.size := by
                have := Nat.mul_le_mul_right ei.size (show i - o.xs.length + 1 ≤ news.length by omega)
                rw [Nat.add_mul, Nat.one_mul] at this; omega
              rw [e1, Nat.add_assoc, c4 _ hk2] at p3
              exact l4 (i - o.xs.length) j x d q p1 p2 p3)
      exact ⟨v', w', _, o.xs ++ news, off, hrun, by simp; omega, List.drop_append_of_le_length (by omega), rel', ext, rowV_of hr rfl (by simp; omega) (by rw [hv2, ← hsz])⟩
    · obtain ⟨rel', ext⟩ := rel.setRow (o' := ⟨true, o.ver + 1, o.sz, o.ty, o.xs.drop off ++ news⟩) (at' := w.heap.size) (cap' := cap') ho (Nat.lt_succ_self _) hgr.os hgr.tape hgr.output hgr.size hblk' (fun _ => .inr (Nat.le_refl _))
        (by
          rw [if_pos rfl]
          refine ⟨cur', by rw [hty]; exact c1, by rw [hsz]; exact c2, hcm, by simp; omega, fun x hx => ?_, fun _ _ => trivial, fun i j x d q p1 p2 p3 => ?_⟩
          · rcases List.mem_append.1 hx with h | h
            · exact q7 x (List.mem_of_mem_drop h)
            · rw [hsz]; exact l5 x h
          · refine RD.of_im ?_ hsame
            simp only at p1 p3
            rw [hsz] at p3
            have hdl : (o.xs.drop off).length = ln := by simp; omega
            by_cases hi : i < ln
            · rw [List.getElem?_append_left (by omega), List.getElem?_drop] at p1
              have hj : j < ei.size := by
                have h1 := (List.getElem?_eq_some_iff.1 p2).1
                rw [q7 x (List.mem_of_getElem? p1), hsz] at h1; exact h1
              have hk : i * ei.size + j < ln * ei.size := by
                have := Nat.mul_le_mul_right ei.size (show i + 1 ≤ ln by omega)
                rw [Nat.add_mul, Nat.one_mul] at this; omega
              rw [c3 _ hk, ← Nat.add_assoc, ← Nat.add_mul] at p3
              exact q8 (off + i) j x d q p1 p2 p3
            · rw [List.getElem?_append_right (by omega), hdl] at p1
              have hj : j < ei.size := by
                have h1 := (List.getElem?_eq_some_iff.1 p2).1
                rw [l5 x (List.mem_of_getElem? p1)] at h1; exact h1
              have hin : i - ln < news.length := (List.getElem?_eq_some_iff.1 p1).1
              have e1 : i * ei.size = ln * ei.size + (i - ln) * ei.size := by rw [← Nat.add_mul]; congr 1; omega
              have hk2 : (i - ln) * ei.size + j < news.length * ei.size := by
                have := Nat.mul_le_mul_right ei.size (show i - ln + 1 ≤ news.length by omega)
                rw [Nat.add_mul, Nat.one_mul] at this; omega
              rw [e1, Nat.add_assoc, c4 _ hk2] at p3
              exact l4 (i - ln) j x d q p1 p2 p3)
      exact ⟨v', w', _, o.xs.drop off ++ news, 0, hrun, by simp; omega, rfl, rel', ext, rowV_of hr rfl (by simp; omega) (by rw [hv2, Nat.zero_mul, Nat.sub_zero])⟩
  cases hv with | one _ _ hv => cases hv with | d _ _ hv => cases hv with
  | empty _ A cap =>
    cases A with
    | some ad => exact core ad cap [] (by simp) (fun j u h => by simp at h) (fun u h => by simp at h) (fun i j x d q h => by simp at h) (by simp) rfl
    | none =>
      have hrun : (Builtin.append_ #[t, t] ty #[.slice (some ⟨g.at_ (.r r), off * o.sz, none⟩) ln (g.cap r - off), .slice none 0 cap]).run P w = .ok (.slice (some ⟨g.at_ (.r r), off * o.sz, none⟩) ln (g.cap r - off)) w := by
        have hle : ln ≤ g.cap r - off := by omega
        simp [Builtin.append_, run_underlying ht, sizeOf, typeInfo, hi1, Builtin.lenOf, Builtin.firstCells, hle, storeCells]
      obtain ⟨rel', ext⟩ := rel.setRow (w' := w) (o' := ⟨true, o.ver + 1, o.sz, o.ty, o.xs⟩) (at' := g.at_ (.r r)) (cap' := g.cap r) ho (Nat.lt_succ_self _) rfl rfl rfl (Nat.le_refl _) (fun _ _ _ => rfl)
        (fun h => .inl ⟨hal, rfl⟩)
        (by
          rw [if_pos rfl]
          subst q3
          exact ⟨vs, q1, q2, q5, q6, q7, fun _ _ => trivial, q8⟩)
      exact ⟨_, w, _, o.xs, off, hrun, by simp; omega, by simp, rel', ext, rowV_of hr rfl (by simp; omega) rfl⟩
  | vec _ xs b oo cap uu hne hc hb' hsz' hcell hrd =>
    refine core ⟨b, oo, none⟩ cap ((List.range (news.length * ei.size)).map fun k => uu (k / ei.size) (k % ei.size)) (by simp) (fun j u h => ?_) (fun q h => ?_) (fun i j x d q p1 p2 p3 => ?_) hsz' rfl
    · simp only [List.getElem?_map, Option.map_eq_some_iff] at h
      obtain ⟨k, hk, rfl⟩ := h
      have hj := (List.getElem?_eq_some_iff.1 hk).1
      simp at hj
      have hkj : k = j := by simpa [hj] using hk.symm
      subst hkj
      have hi : k / ei.size < news.length := (Nat.div_lt_iff_lt_mul hpos).2 hj
      have hx : news[k / ei.size]? = some (news[k / ei.size]'hi) := List.getElem?_eq_getElem _
      have hxl := hsz' _ (List.getElem_mem hi)
      have hm : k % ei.size < (news[k / ei.size]'hi).length := by rw [hxl]; exact Nat.mod_lt _ hpos
      have := hcell (k / ei.size) (k % ei.size) _ _ hx (List.getElem?_eq_getElem hm)
      rw [← this]
      have e : oo + k / ei.size * ei.size + k % ei.size = oo + k := by
        have := Nat.div_add_mod k ei.size
        rw [Nat.mul_comm] at this; omega
      unfold Addr.add
      split
      · rename_i h0; subst h0; simp
      · rw [e]
    · simp only [List.mem_map, List.mem_range] at h
      obtain ⟨k, hj, rfl⟩ := h
      have hi : k / ei.size < news.length := (Nat.div_lt_iff_lt_mul hpos).2 hj
      have hx : news[k / ei.size]? = some (news[k / ei.size]'hi) := List.getElem?_eq_getElem _
      have hxl := hsz' _ (List.getElem_mem hi)
      have hm : k % ei.size < (news[k / ei.size]'hi).length := by rw [hxl]; exact Nat.mod_lt _ hpos
      exact (hrd (k / ei.size) (k % ei.size) _ _ hx (List.getElem?_eq_getElem hm)).one
    · have hj : j < ei.size := by
        have h1 := (List.getElem?_eq_some_iff.1 p2).1
        rw [hsz' x (List.mem_of_getElem? p1)] at h1; exact h1
      simp only [List.getElem?_map, Option.map_eq_some_iff] at p3
      obtain ⟨k, hk, rfl⟩ := p3
      have hkj : k = i * ei.size + j := by
        have hlt := (List.getElem?_eq_some_iff.1 hk).1
        simp at hlt
        simpa [hlt] using hk.symm
      have e1 : k / ei.size = i := by rw [hkj, Nat.mul_comm, Nat.mul_add_div hpos, Nat.div_eq_of_lt hj]; omega
      have e2 : k % ei.size = j := by rw [hkj, Nat.mul_comm, Nat.mul_add_mod, Nat.mod_eq_of_lt hj]
      rw [e1, e2]
      exact hrd i j x d p1 p2
theorem S.appendO {J : Inv} {k0 : Lens} {E : Env J k0} {T : TypeId → Option TI} {n : Nat} {t : Nat → V} {b : List (List C)} {r : List (Option RowO)} {m : List (List (DV × DV))} {ops : Array Oper} {l : List Oper} {K : St → Prop} {i : Nat} {ty : TypeId} {pos : String} {after : Array Edge}
    (hT : TabOk P T) {tt e : TypeId} {ti ei : TI} {x y : Operand} {ri ver sz ln off : Nat} {te : TypeId} {xs news : List (List D)} (hti : T tt = some ti) (hd : ti.desc = .slice e) (hei : T e = some ei)
    (hz : ei.zero.cells.size = ei.size) (hpos : Nat.blt 0 ei.size = true) (hby : Nat.ble ei.bytes 4096 = true) (hx : opd n ⟨t, b, r, m⟩ x = (true, .one (.row ri ver off ln))) (hy : opd n ⟨t, b, r, m⟩ y = (true, .one (.d (.vec sz news))))
    (hq : r[ri]? = some (some ⟨true, ver, sz, te, xs⟩)) (hln : off + ln = xs.length) (hsz : sz = ei.size) (hty : te = e) (hlen : ln + news.length ≤ 34359738368)
    (k : ∀ xs' off', off' + (ln + news.length) = xs'.length → xs'.drop off' = xs.drop off ++ news → WL E P n ops l K ⟨upd t i (.one (.row ri (ver + 1) off' (ln + news.length))), b, r.set ri (some ⟨true, ver + 1, sz, te, xs'⟩), m⟩) :
    WL E P n ops (⟨some i, .call ⟨.builtin .append, #[x, y], #[tt, tt]⟩, ty, pos, after, none⟩ :: l) K ⟨t, b, r, m⟩ := by
  subst hsz
  have hb : (ln + news.length) * ei.bytes ≤ 140737488355328 := by
    have h1 : ei.bytes ≤ 4096 := Nat.le_of_ble_eq_true hby
    have := Nat.mul_le_mul hlen h1
    omega
  intro g a w rel next Q hn
  obtain ⟨o, ho⟩ : ∃ o : Oper, o = ⟨some i, .call ⟨.builtin .append, #[x, y], #[tt, tt]⟩, ty, pos, after, none⟩ := ⟨_, rfl⟩
  have hop : o.op = .call ⟨.builtin .append, #[x, y], #[tt, tt]⟩ := by rw [ho]
  rw [← ho]
  have hw : Region.wanted o (yielded ops a.tmps) = true := by simp [Region.wanted, ho]
  rw [if_pos hw]
  obtain ⟨v', w', g', xs', off', hrun, h1, h2, rel', ext, hv'⟩ := rel.appendO (P := P) hT (ty := o.type) hti hd hei hz (by simpa [Nat.blt_eq] using hpos) hq rfl rfl hty hln (opd_ok rel hx rfl) (opd_ok rel hy rfl) (by simp only [maxLen]; omega) hb
  have hrun' : (execOp a.eval o).run P w = .ok (.value v') w' := by
    unfold execOp
    simp only [hop, resolve, invoke, builtin, Sem.run_bind, Sem.run_pure, Result.andThen_ok, List.map_toArray, List.map_cons, List.map_nil, hrun]
  unfold Oper.wp
  rw [hrun']
  have hdst : o.dst = some i := by rw [ho]
  have := hn _ _ _ _ (k xs' off' h1 h2) (rel'.put_same (some i) hv')
  rw [← hdst] at this
  exact this
end
end Go.Proofs.YtcchfmilleffjaaGreatDoor
namespace Go.Proofs.YtcchfmilleffjaaGreatDoor
open Go Go.RowKit
section
variable {J : Inv} {k0 : Lens} {E : Env J k0} {P : Program} {T : TypeId → Option TI} {n : Nat} {t : Nat → V} {b : List (List C)} {r : List (Option RowO)} {m : List (List (DV × DV))} {ops : Array Oper} {l : List Oper}
  {K : St → Prop} {i : Nat} {ty : TypeId} {pos : String} {after : Array Edge}
theorem forceL_self {α : Type} : ∀ l : List α, forceL l = some l
  | [] => rfl
  | c :: l => by unfold forceL; rw [forceL_self l]
theorem Rel.freezeRow {g : Gh} {a : Act} {w : World} (rel : Rel E n g ⟨t, b, r, m⟩ a w) {ri : Nat} {q : RowO} (ks : List Nat) (hq : r[ri]? = some (some q)) (hk : ∀ k ∈ ks, t k = .one (.row ri q.ver 0 q.xs.length)) :
    ∃ g', Rel E n g' ⟨updL t ks (.one (.d (.vec q.sz q.xs))), b, r.set ri none, m⟩ a w := by
  have hr : ri < r.length := (List.getElem?_eq_some_iff.1 hq).1
  have hlive : ∀ x, (⟨updL t ks (.one (.d (.vec q.sz q.xs))), b, r.set ri none, m⟩ : St).live x → (⟨t, b, r, m⟩ : St).live x ∧ x ≠ .r ri := fun x hx => by
    cases x with
    | b l => exact ⟨hx, by simp⟩
    | m l => exact ⟨hx, by simp⟩
    | r l =>
      obtain ⟨o, ho, hal⟩ := hx
      have ho : (r.set ri none)[l]? = some (some o) := ho
      by_cases e : ri = l
      · subst e; simp [List.getElem?_set, hr] at ho
      · exact ⟨⟨o, by simpa [List.getElem?_set, e] using ho, hal⟩, fun h => e (by injection h with h; exact h.symm)⟩
  have ho : (⟨t, b, r, m⟩ : St).r[ri]? = some (some q) := hq
  have hrl : q.al = true → (⟨t, b, r, m⟩ : St).live (.r ri) := fun h => ⟨q, hq, h⟩
  have ext : Ext g (⟨t, b, r, m⟩ : St).sh w ⟨fun x => g.im x ∨ (q.al = true ∧ x = g.at_ (.r ri)), g.at_, g.off, g.cap⟩ (⟨updL t ks (.one (.d (.vec q.sz q.xs))), b, r.set ri none, m⟩ : St).sh w := by
    refine ⟨fun _ h => .inl h, fun _ _ => rfl, Nat.le_refl _, Nat.le_refl _, by simp [St.sh], fun _ _ => rfl, fun _ _ => rfl, fun k al ver sz' len hk' hh => ?_⟩
    by_cases e : ri = k
    · subst e; simp [St.sh, List.getElem?_set, hr] at hh
    · exact ⟨al, ver, sz', len, by simpa [St.sh, List.getElem?_set, e] using hh, Nat.le_refl _, fun _ => ⟨rfl, rfl, Nat.le_refl _, rfl, rfl, rfl⟩⟩
  refine ⟨⟨fun x => g.im x ∨ (q.al = true ∧ x = g.at_ (.r ri)), g.at_, g.off, g.cap⟩, rel.below, rel.ext.trans ext, fun x hx => ?_, fun x hx => ?_, fun x hx => rel.own x (hlive x hx).1, ⟨fun x hx => rel.heap.lt x (hlive x hx).1, fun x hx => ?_, fun x y hx hy => rel.heap.inj x y (hlive x hx).1 (hlive y hy).1, fun k cs hk' => ?_, fun k o hk' => ?_, fun k es hk' => ?_⟩, rel.size, rel.defers, fun j hj => ?_⟩
  · rcases hx with h | ⟨h1, h2⟩
    · exact rel.imlt x h
    · rw [h2]; exact rel.heap.lt _ (hrl h1)
  · rcases hx with h | ⟨h1, h2⟩
    · exact rel.imold x h
    · rw [h2]; exact .inr (rel.own _ (hrl h1))
  · rintro (h | ⟨h1, h2⟩)
    · exact rel.heap.new x (hlive x hx).1 h
    · exact (hlive x hx).2 (rel.heap.inj x _ (hlive x hx).1 (hrl h1) h2)
  · obtain ⟨vs, ty, h1, h2, h3⟩ := rel.heap.box k cs hk'
    exact ⟨vs, ty, h1, h2, fun j c v hc hv => (h3 j c v hc hv).mono ext⟩
  · have hk' : (r.set ri none)[k]? = some (some o) := hk'
    by_cases e : ri = k
    · subst e; simp [List.getElem?_set, hr] at hk'
    · have h1 := rel.heap.row k o (by simpa [List.getElem?_set, e] using hk')
      by_cases hal : o.al = true
      · rw [if_pos hal] at h1 ⊢
        obtain ⟨vs, t', q1, q2, q3, q4, q5, q6⟩ := h1
        exact ⟨vs, t', q1, q2, q3, q4, q5, fun i j x d v p1 p2 p3 => (q6 i j x d v p1 p2 p3).mono ext.im ext.same⟩
      · rw [if_neg hal] at h1 ⊢; exact h1
  · obtain ⟨arr, clock, h1, h2, h3⟩ := rel.heap.map k es hk'
    exact ⟨arr, clock, h1, h2, fun i x e hx he => ⟨(h3 i x e hx he).1.mono ext, (h3 i x e hx he).2.mono ext⟩⟩
  · rcases updL_or t (.one (.d (.vec q.sz q.xs))) ks j with ⟨h1, h2⟩ | h1
    · have hup : (⟨updL t ks (.one (.d (.vec q.sz q.xs))), b, r.set ri none, m⟩ : St).t j = .one (.d (.vec q.sz q.xs)) := h1
      rw [hup]
      have hv := rel.tmps j hj
      have e1 : (⟨t, b, r, m⟩ : St).t j = .one (.row ri q.ver 0 q.xs.length) := hk j h2
      rw [e1] at hv
      obtain ⟨flat, hown, hnil, hblk, hcells, hrows⟩ := row_form rel ho hv
      refine .one _ _ (.d _ _ ?_)
      rcases hown.2 with ⟨hv2, h0⟩ | ⟨bb, cap, cur, hv2, hb2, hc2, hn2, hm2, hs2, ht2⟩
      · rw [hv2, List.length_eq_zero_iff.1 h0]; exact .empty _ _ _
      · have hal : q.al = true := by
          cases hh : q.al with
          | true => rfl
          | false => have := hnil.2 hh; rw [this] at hv2; cases hv2
        have hbb : bb = g.at_ (.r ri) := by have := hblk hal; rw [hv2] at this; exact Option.some.inj this
        by_cases hne : q.xs = []
        · rw [hv2, hne]; exact .empty _ _ _
        · rw [hv2]
          have hat : ∀ (i j : Nat) (x : List D) (d : D), q.xs[i]? = some x → x[j]? = some d → ∃ v, w.cell? ⟨bb, 0 + i * q.sz + j, none⟩ = some v ∧ RD (fun x => g.im x ∨ (q.al = true ∧ x = g.at_ (.r ri))) w d v := fun i j x d p1 p2 => by
            have hj' : j < q.sz := by
              have h3 := (List.getElem?_eq_some_iff.1 p2).1
              rw [hrows x (List.mem_of_getElem? p1)] at h3; exact h3
            have hi := (List.getElem?_eq_some_iff.1 p1).1
            have hk2 : i * q.sz + j < q.xs.length * q.sz := by
              have := Nat.mul_le_mul_right q.sz (show i + 1 ≤ q.xs.length from hi)
              rw [Nat.add_mul, Nat.one_mul] at this; omega
            have hf : flat[i * q.sz + j]? = some (flat[i * q.sz + j]'(by rw [hown.1]; exact hk2)) := List.getElem?_eq_getElem _
            refine ⟨_, ?_, (hcells i j x d _ p1 p2 hf).mono (fun _ h => .inl h) (fun _ _ => rfl)⟩
            have hf2 : (cur.toList.take (q.xs.length * q.sz))[i * q.sz + j]? = some (flat[i * q.sz + j]'(by rw [hown.1]; exact hk2)) := by rw [ht2]; exact hf
            rw [List.getElem?_take, if_pos hk2] at hf2
            simp only [Nat.zero_add, World.cell?, hc2, Option.isSome_none, Bool.false_eq_true, if_false]
            simpa using hf2
          exact RD.vec q.sz q.xs bb 0 cap (fun i j => (w.cell? ⟨bb, 0 + i * q.sz + j, none⟩).getD undef) hne hn2 (.inr ⟨hal, hbb⟩) hrows
            (fun i j x d p1 p2 => by obtain ⟨v, h3, _⟩ := hat i j x d p1 p2; rw [h3]; rfl)
            (fun i j x d p1 p2 => by obtain ⟨v, h3, h4⟩ := hat i j x d p1 p2; simp only [h3, Option.getD_some]; exact h4)
    · have hup : (⟨updL t ks (.one (.d (.vec q.sz q.xs))), b, r.set ri none, m⟩ : St).t j = t j := h1
      rw [hup]
      exact (rel.tmps j hj).mono ext
theorem Step.weak {o : Oper} {K K' : St → Prop} {s : St} (h : Step E P n ops o K s) (hk : ∀ s g a w, K s → Rel E n g s a w → ∃ g' s', K' s' ∧ Rel E n g' s' a w) : Step E P n ops o K' s :=
  fun g a w rel next Q hn => h g a w rel next Q (fun s' g' a' w' h1 h2 => by
    obtain ⟨g2, s2, h3, h4⟩ := hk s' g' a' w' h1 h2
    exact hn s2 g2 a' w' h3 h4)
theorem OpZ.appendV (hT : TabOk P T) {tt e : TypeId} {ti ei : TI} {x y : Operand} {ri ver sz ln : Nat} {al : Bool} {te : TypeId} {xs news ys : List (List D)} {r' : List (Option RowO)} (hti : T tt = some ti) (hd : ti.desc = .slice e) (hei : T e = some ei)
    (hz : ei.zero.cells.size = ei.size) (hpos : Nat.blt 0 ei.size = true) (hby : Nat.ble ei.bytes 4096 = true) (hx : opd n ⟨t, b, r, m⟩ x = (true, .one (.row ri ver 0 ln))) (hy : opd n ⟨t, b, r, m⟩ y = (true, .one (.d (.vec sz news))))
    (hq : r[ri]? = some (some ⟨al, ver, sz, te, xs⟩)) (hln : ln = xs.length) (hsz : sz = ei.size) (hty : te = e) (hlen : xs.length + news.length ≤ 34359738368)
    (hys : xs ++ news = ys) (hr : forceL (r.set ri none) = some r')
    (k : K ⟨upd t i (.one (.d (.vec sz ys))), b, r', m⟩) : OpZ E P n ops ⟨some i, .call ⟨.builtin .append, #[x, y], #[tt, tt]⟩, ty, pos, after, none⟩ K ⟨t, b, r, m⟩ := by
  obtain rfl := forceL_eq hr
  obtain ⟨o, ho⟩ : ∃ o : Oper, o = ⟨some i, .call ⟨.builtin .append, #[x, y], #[tt, tt]⟩, ty, pos, after, none⟩ := ⟨_, rfl⟩
  have hm : o.op.operands.toList = [x, y] := by rw [ho]; simp [Op.operands, Call.operands]
  rw [← ho]
  refine ⟨fun v1 b1 r1 m1 => v1 = .one (.d (.vec sz ys)) ∧ b1 = b ∧ r1 = r.set ri none ∧ m1 = m, fun t' ht => ?_, fun v1 b1 r1 m1 ⟨e0, e1, e2, e3⟩ => by subst e0; subst e1; subst e2; subst e3; rw [ho]; exact k⟩
  have h1 := looks_opd (r := r) (m := m) (b := b) (b1 := b) (n := n) (x := x) (o := o) (by rw [hm]; simp) ht
  have h2 := looks_opd (r := r) (m := m) (b := b) (b1 := b) (n := n) (x := y) (o := o) (by rw [hm]; simp) ht
  have hlt : ri < r.length := (List.getElem?_eq_some_iff.1 hq).1
  rw [ho]
  refine Step.weak (K := fun s1 => s1 = ⟨upd t' i (.one (.row ri (ver + 1) 0 ys.length)), b, r.set ri (some ⟨al || !news.isEmpty, ver + 1, sz, te, ys⟩), m⟩)
    (S.append (l := []) (r' := r.set ri (some ⟨al || !news.isEmpty, ver + 1, sz, te, ys⟩)) hT hti hd hei hz hpos hby (h1.trans hx) (h2.trans hy) hq hln hsz hty hlen rfl hys (forceL_self _) rfl) (fun s g a w hs rel => ?_)
  subst hs
  obtain ⟨g', rel'⟩ := rel.freezeRow (ri := ri) (q := ⟨al || !news.isEmpty, ver + 1, sz, te, ys⟩) [i] (by simp [hlt]) (fun k hk => by
    simp at hk; subst hk; simp [upd])
  refine ⟨g', _, ⟨.one (.d (.vec sz ys)), b, r.set ri none, m, ?_, rfl, rfl, rfl, rfl⟩, rel'⟩
  simp only [updL, List.set_set]
  congr 1
  funext j
  simp only [updO, upd]
  cases i.beq j <;> rfl
end
end Go.Proofs.YtcchfmilleffjaaGreatDoor
namespace Go.Proofs.YtcchfmilleffjaaGreatDoor
open Go
open Go.RowKit
attribute [local irreducible] rangeB pathB nameB valueB firstNe parR rangeE Ver.check hasB readE
def alL (l : List Nat) : Bool := !l.isEmpty
def verL (l : List Nat) : Nat := if l.isEmpty then 0 else 1
def intsD (l : List Nat) : List (List D) := l.map fun k : Nat => [.int .i64 (k : Int)]
def listD : List Nat → D
  | [] => .nilsl
  | k :: l => .vec 1 (intsD (k :: l))
theorem le_list (l : List Nat) : LeV (.one (.d (listD l))) (.one (.d (.vec 1 (intsD l)))) := by
  cases l with
  | nil => exact LeV.nil 1
  | cons k l => exact LeV.refl _
theorem pc_Clone0  :
  HCall Tryz.prog J 74 ([.one (.d .nilsl)]) ([]) ([]) ([]) (isH (.one (.row 0 0 0 0)) ([]) ([some ⟨false, 0, 1, 3, []⟩]) ([])) := by
 refine HCall.ofD tOk ⟨0, 1, 0⟩ (fn := Tryz.f74) Tryz.func74 (by kernel_rfl) rfl (Nat.le_of_ble_eq_true rfl) (fun E => ?_)
 refine W.seq ?_
 refine W.region ?_
 refine S.pure tOk zOk rfl rfl rfl ?_
 refine thenK_n ?_
 refine W.seq ?_
 refine W.seq ?_
 refine W.region ?_
 refine S.pure tOk zOk rfl rfl rfl ?_
 refine S.eqNil0 tOk rfl rfl rfl rfl ?_
 refine thenK_n ?_
 refine W.cond rfl (fun c1 => ?_) (fun c1 => ?_)
 ·skip
  refine W.seq ?_
  refine W.region ?_
  refine S.pure tOk zOk rfl rfl rfl ?_
  refine thenK_n ?_
  refine W.newRow 2 1 3 rfl ?_
  refine W.ret ?_
  refine thenK_r ?_
  exact ⟨_, rfl, rfl, LeG.refl _, rfl, rfl, rfl⟩
 ·skip
  exact absurd c1 (by simp)
theorem pc_Clone1 (xs : List (List D)) (hne : xs ≠ []) (hl : xs.length ≤ 1000000000) :
  HCall Tryz.prog J 74 ([.one (.d (.vec 1 xs))]) ([]) ([]) ([]) (isH (.one (.row 0 1 0 xs.length)) ([]) ([some ⟨true, 1, 1, 3, xs⟩]) ([])) := by
 refine HCall.ofD tOk ⟨0, 1, 0⟩ (fn := Tryz.f74) Tryz.func74 (by kernel_rfl) rfl (Nat.le_of_ble_eq_true rfl) (fun E => ?_)
 refine W.seq ?_
 refine W.region ?_
 refine S.pure tOk zOk rfl rfl rfl ?_
 refine thenK_n ?_
 refine W.seq ?_
 refine W.seq ?_
 refine W.region ?_
 refine S.pure tOk zOk rfl rfl rfl ?_
 refine S.eqNil tOk rfl rfl rfl rfl (fun q hq => ?_)
 refine thenK_n ?_
 refine W.cond rfl (fun c1 => ?_) (fun c1 => ?_)
 ·skip
  exact absurd (hq c1) hne
 ·skip
  refine W.skip ?_
  refine thenK_n ?_
  refine W.seq ?_
  refine W.region ?_
  refine S.sliceOwn tOk rfl rfl rfl rfl rfl rfl ?_
  refine S.pure tOk zOk rfl rfl rfl ?_
  refine S.append tOk rfl rfl rfl rfl rfl rfl rfl rfl rfl rfl rfl rfl (by show 0 + xs.length ≤ _; omega) rfl (rfl) rfl ?_
  refine S.pure tOk zOk rfl rfl rfl ?_
  refine thenK_n ?_
  refine W.ret ?_
  exact ⟨_, rfl, rfl, LeG.refl _, rfl, rfl, rfl⟩
theorem pc_Clone (l : List Nat) (hl : l.length ≤ 1000000000) : HCall Tryz.prog J 74 [.one (.d (listD l))] [] [] [] (isH (.one (.row 0 (verL l) 0 (intsD l).length)) [] [some ⟨alL l, verL l, 1, 3, intsD l⟩] []) := by
  cases l with
  | nil => exact pc_Clone0
  | cons k l => exact pc_Clone1 (intsD (k :: l)) (by simp [intsD]) (by simpa [intsD] using hl)
end Go.Proofs.YtcchfmilleffjaaGreatDoor
namespace Go.Proofs.YtcchfmilleffjaaGreatDoor
open Go
abbrev Stp := Ver × List Nat
abbrev Seen := List (Ver × Bool)
def hasM (m : Mv) (v : Ver) : Bool := (HasB m.f v).1
def stepW (l : List Mv) (a : Stp) (sq : Seen × List Stp) (i : Nat) : Seen × List Stp :=
  if hasM (l.getD i Mv.z) a.1 && !getL beqV false sq.1 (l.getD i Mv.z).t then (setL beqV sq.1 (l.getD i Mv.z).t true, sq.2 ++ [((l.getD i Mv.z).t, a.2 ++ [i])]) else sq
def scanW (l : List Mv) (a : Stp) (sq : Seen × List Stp) : Nat → Seen × List Stp
  | 0 => sq
  | i + 1 => stepW l a (scanW l a sq i) i
def bfs (l : List Mv) (w : Ver) : Nat → Seen → List Stp → List Nat × Int
  | 0, _, _ => ([], 10)
  | n + 1, _, [] => ([], 10)
  | n + 1, seen, a :: q => if orderB a.1 w == 0 then (a.2, 0) else bfs l w n (scanW l a (seen, a :: q) l.length).1 ((scanW l a (seen, a :: q) l.length).2.drop 1)
def wayP (l : List Mv) (v w : Ver) : List Nat × Int :=
  if decide ((l.length : Int) > 200) then ([], 4) else if firstNe (l.map moveE) != 0 then ([], firstNe (l.map moveE)) else if v.check != 0 then ([], v.check) else if w.check != 0 then ([], w.check)
  else bfs l w (l.length + 1) [(v, true)] [(v, [])]
structure SeenOk (l : List Mv) (v : Ver) (seen : Seen) : Prop where
  nd : (seen.map (·.1)).Nodup
  sub : ∀ x ∈ seen.map (·.1), x ∈ v :: l.map (·.t)
  tr : ∀ x ∈ seen, x.2 = true
theorem nodup_len {α : Type} : ∀ {l m : List α}, l.Nodup → (∀ x ∈ l, x ∈ m) → l.length ≤ m.length
  | [], m, _, _ => Nat.zero_le _
  | x :: l, m, h, hs => by
    obtain ⟨s, t, rfl⟩ := List.append_of_mem (hs x (by simp))
    have h' := List.nodup_cons.1 h
    have := nodup_len (m := s ++ t) h'.2 (fun y hy => by
      have h1 := hs y (by simp [hy])
      have hne : y ≠ x := fun e => h'.1 (e ▸ hy)
      simpa [hne] using h1)
    simp at this ⊢
    omega
theorem SeenOk.len {l : List Mv} {v : Ver} {seen : Seen} (h : SeenOk l v seen) : seen.length ≤ l.length + 1 := by
  have := nodup_len h.nd h.sub
  simpa using this
theorem get_seen {seen : Seen} (h : ∀ x ∈ seen, x.2 = true) (k : Ver) : getL beqV false seen k = hasL beqV seen k := by
  induction seen with
  | nil => rfl
  | cons x l ih =>
    have ih := ih (fun y hy => h y (by simp [hy]))
    have hx := h x (by simp)
    unfold getL hasL
    simp only [List.any_cons]
    cases hb : beqV k x.1 with
    | true => simp [hx]
    | false => simp only [cond_false, Bool.false_or]; exact ih
theorem has_seen {seen : Seen} {k : Ver} : hasL beqV seen k = true ↔ k ∈ seen.map (·.1) := by
  unfold hasL
  rw [List.any_eq_true]
  constructor
  · rintro ⟨x, hx, h⟩; exact List.mem_map.2 ⟨x, hx, ((beqV_iff _ _).1 h).symm⟩
  · intro h; obtain ⟨x, hx, h⟩ := List.mem_map.1 h; exact ⟨x, hx, (beqV_iff _ _).2 h.symm⟩
theorem set_seen {seen : Seen} {k : Ver} (h : hasL beqV seen k = false) : setL beqV seen k true = seen ++ [(k, true)] := by
  induction seen with
  | nil => rfl
  | cons x l ih =>
    unfold hasL at h
    rw [List.any_cons, Bool.or_eq_false_iff] at h
    unfold setL
    rw [h.1]
    simp only [cond_false]
    rw [ih h.2]; rfl
theorem SeenOk.step {l : List Mv} {v : Ver} {sq : Seen × List Stp} (h : SeenOk l v sq.1) (a : Stp) {i : Nat} (hi : i < l.length) :
    SeenOk l v (stepW l a sq i).1 ∧ (stepW l a sq i).2.length + sq.1.length = sq.2.length + (stepW l a sq i).1.length := by
  unfold stepW
  split
  · rename_i hc
    rw [Bool.and_eq_true, get_seen h.tr] at hc
    have hn : hasL beqV sq.1 (l.getD i Mv.z).t = false := by simpa using hc.2
    rw [set_seen hn]
    refine ⟨⟨?_, fun x hx => ?_, fun x hx => ?_⟩, by simp; omega⟩
    · rw [List.map_append, List.nodup_append]
      refine ⟨h.nd, by simp, fun x hx y hy => ?_⟩
      simp only [List.map_cons, List.map_nil, List.mem_singleton] at hy
      rintro rfl
      rw [hy] at hx
      rw [has_seen.2 hx] at hn; cases hn
    · rw [List.map_append, List.mem_append] at hx
      rcases hx with hx | hx
      · exact h.sub x hx
      · simp at hx
        rw [hx]
        exact List.mem_cons_of_mem _ (List.mem_map.2 ⟨_, mem_getD hi, rfl⟩)
    · rcases List.mem_append.1 hx with hx | hx
      · exact h.tr x hx
      · simp at hx; rw [hx]
  · exact ⟨h, by omega⟩
theorem step_more (l : List Mv) (a : Stp) (sq : Seen × List Stp) (i : Nat) : sq.2.length ≤ (stepW l a sq i).2.length := by
  unfold stepW; split <;> simp
theorem scan_more (l : List Mv) (a : Stp) (sq : Seen × List Stp) : ∀ i, sq.2.length ≤ (scanW l a sq i).2.length
  | 0 => Nat.le_refl _
  | i + 1 => Nat.le_trans (scan_more l a sq i) (step_more l a _ i)
theorem SeenOk.scan {l : List Mv} {v : Ver} {sq : Seen × List Stp} (h : SeenOk l v sq.1) (a : Stp) : ∀ {i : Nat}, i ≤ l.length →
    SeenOk l v (scanW l a sq i).1 ∧ (scanW l a sq i).2.length + sq.1.length = sq.2.length + (scanW l a sq i).1.length
  | 0, _ => ⟨h, rfl⟩
  | i + 1, hi => by
    obtain ⟨h1, h2⟩ := h.scan a (i := i) (by omega)
    obtain ⟨h3, h4⟩ := h1.step a (show i < l.length by omega)
    exact ⟨h3, by unfold scanW; omega⟩
structure FuelOk (l : List Mv) (v : Ver) (n : Nat) (seen : Seen) (q : List Stp) : Prop where
  ok : SeenOk l v seen
  le : q.length + (l.length + 1) ≤ n + seen.length
theorem FuelOk.start (l : List Mv) (v : Ver) : FuelOk l v (l.length + 1) [(v, true)] [(v, [])] := ⟨⟨by simp, by simp, by simp⟩, by simp; omega⟩
theorem FuelOk.pos {l : List Mv} {v : Ver} {n : Nat} {seen : Seen} {q : List Stp} (h : FuelOk l v n seen q) : q.length ≤ n := by have := h.ok.len; have := h.le; omega
theorem FuelOk.next {l : List Mv} {v : Ver} {n : Nat} {seen : Seen} {q : List Stp} (h : FuelOk l v (n + 1) seen q) (a : Stp) (hq : 0 < q.length) :
    FuelOk l v n (scanW l a (seen, q) l.length).1 ((scanW l a (seen, q) l.length).2.drop 1) := by
  obtain ⟨h1, h2⟩ := SeenOk.scan (sq := (seen, q)) h.ok a (Nat.le_refl l.length)
  refine ⟨h1, ?_⟩
  have := h.le
  have h3 := scan_more l a (seen, q) l.length
  simp only [List.length_drop] at h2 h3 ⊢
  omega
end Go.Proofs.YtcchfmilleffjaaGreatDoor
namespace Go.Proofs.YtcchfmilleffjaaGreatDoor
open Go
def wEnd (l : List Mv) : Ver → List Nat → Ver
  | v, [] => v
  | v, k :: ks => wEnd l (l.getD k Mv.z).t ks
def Chain (l : List Mv) : Ver → List Nat → Prop
  | v, [] => True
  | v, k :: ks => k < l.length ∧ hasM (l.getD k Mv.z) v = true ∧ (l.getD k Mv.z).t ≠ v ∧ Chain l (l.getD k Mv.z).t ks
theorem chain_snoc {l : List Mv} {k : Nat} (hk : k < l.length) : ∀ {v : Ver} {ks : List Nat}, Chain l v ks → hasM (l.getD k Mv.z) (wEnd l v ks) = true → (l.getD k Mv.z).t ≠ wEnd l v ks → Chain l v (ks ++ [k]) ∧ wEnd l v (ks ++ [k]) = (l.getD k Mv.z).t
  | v, [], _, h1, h2 => ⟨⟨hk, h1, h2, trivial⟩, rfl⟩
  | v, j :: ks, h, h1, h2 => by
    obtain ⟨a, b, c, d⟩ := h
    obtain ⟨e, f⟩ := chain_snoc hk (v := (l.getD j Mv.z).t) (ks := ks) d h1 h2
    exact ⟨⟨a, b, c, e⟩, f⟩
structure StOk (l : List Mv) (v : Ver) (seen : Seen) (s : Stp) : Prop where
  ch : Chain l v s.2
  en : wEnd l v s.2 = s.1
  se : getL beqV false seen s.1 = true
theorem get_setV {seen : Seen} {k q : Ver} (h : getL beqV false seen q = true) : getL beqV false (setL beqV seen k true) q = true := by
  induction seen with
  | nil => cases h
  | cons x l ih =>
    unfold setL
    cases hb : beqV k x.1 with
    | true =>
      have hk := (beqV_iff _ _).1 hb
      simp only [cond_true]
      unfold getL at h ⊢
      rw [← hk] at h
      cases hq : beqV q k with
      | true => simp only [hq, cond_true]
      | false => simp only [hq, cond_false] at h ⊢; exact h
    | false =>
      simp only [cond_false]
      unfold getL at h ⊢
      cases hq : beqV q x.1 with
      | true => simp only [hq, cond_true] at h ⊢; exact h
      | false => simp only [hq, cond_false] at h ⊢; exact ih h
theorem get_setV' {seen : Seen} {k : Ver} : getL beqV false (setL beqV seen k true) k = true := by
  have hk : beqV k k = true := (beqV_iff _ _).2 rfl
  induction seen with
  | nil => unfold setL getL; simp only [hk, cond_true]
  | cons x l ih =>
    unfold setL
    cases hb : beqV k x.1 with
    | true => simp only [cond_true]; unfold getL; simp only [hb, hk, cond_true]
    | false => simp only [cond_false]; unfold getL; simp only [hb, cond_false]; exact ih
theorem StOk.step {l : List Mv} {v : Ver} {sq : Seen × List Stp} {a : Stp} {i : Nat} (hi : i < l.length) (ha : StOk l v sq.1 a) (hq : ∀ s ∈ sq.2, StOk l v sq.1 s) :
    StOk l v (stepW l a sq i).1 a ∧ ∀ s ∈ (stepW l a sq i).2, StOk l v (stepW l a sq i).1 s := by
  unfold stepW
  split
  · rename_i hc
    rw [Bool.and_eq_true] at hc
    have hn : getL beqV false sq.1 (l.getD i Mv.z).t = false := by simpa using hc.2
    refine ⟨⟨ha.ch, ha.en, get_setV ha.se⟩, fun s hs => ?_⟩
    rcases List.mem_append.1 hs with hs | hs
    · exact ⟨(hq s hs).ch, (hq s hs).en, get_setV (hq s hs).se⟩
    · obtain rfl := List.mem_singleton.1 hs
      have hne : (l.getD i Mv.z).t ≠ wEnd l v a.2 := fun e => by
        rw [ha.en] at e
        rw [e, ha.se] at hn; cases hn
      obtain ⟨h1, h2⟩ := chain_snoc hi ha.ch (by rw [ha.en]; exact hc.1) hne
      exact ⟨h1, h2, get_setV'⟩
  · exact ⟨ha, hq⟩
theorem StOk.scan {l : List Mv} {v : Ver} {sq : Seen × List Stp} {a : Stp} (ha : StOk l v sq.1 a) (hq : ∀ s ∈ sq.2, StOk l v sq.1 s) : ∀ {i : Nat}, i ≤ l.length →
    StOk l v (scanW l a sq i).1 a ∧ ∀ s ∈ (scanW l a sq i).2, StOk l v (scanW l a sq i).1 s
  | 0, _ => ⟨ha, hq⟩
  | i + 1, hi => by
    obtain ⟨h1, h2⟩ := StOk.scan ha hq (i := i) (by omega)
    exact StOk.step (by omega) h1 h2
theorem bfs_ok {l : List Mv} {v w : Ver} {ks : List Nat} : ∀ {n : Nat} {seen : Seen} {q : List Stp}, (∀ s ∈ q, StOk l v seen s) → bfs l w n seen q = (ks, 0) → Chain l v ks ∧ orderB (wEnd l v ks) w = 0
  | 0, _, _, _, h => by simp [bfs] at h
  | n + 1, _, [], _, h => by simp [bfs] at h
  | n + 1, seen, a :: q, hq, h => by
    unfold bfs at h
    have ha := hq a (by simp)
    split at h
    · rename_i ho
      obtain rfl : a.2 = ks := (Prod.mk.inj h).1
      exact ⟨ha.ch, by rw [ha.en]; simpa using ho⟩
    · exact bfs_ok (fun s hs => (StOk.scan (sq := (seen, a :: q)) ha hq (Nat.le_refl _)).2 s (List.mem_of_mem_drop hs)) h
theorem start_ok (l : List Mv) (v : Ver) : ∀ s ∈ ([(v, [])] : List Stp), StOk l v [(v, true)] s := fun s hs => by
  obtain rfl := List.mem_singleton.1 hs
  have hk : beqV v v = true := (beqV_iff _ _).2 rfl
  exact ⟨trivial, rfl, by unfold getL; simp only [hk, cond_true]⟩
structure WayOk (l : List Mv) (v w : Ver) (ks : List Nat) : Prop where
  ch : Chain l v ks
  en : orderB (wEnd l v ks) w = 0
  le : l.length ≤ 200
  mv : ∀ m ∈ l, moveE m = 0
  v0 : v.check = 0
  w0 : w.check = 0
theorem way_ok {l : List Mv} {v w : Ver} (h : ((wayP l v w).2 != 0) = false) : WayOk l v w (wayP l v w).1 := by
  have h0 : (wayP l v w).2 = 0 := by simpa using h
  have he : wayP l v w = ((wayP l v w).1, 0) := Prod.ext rfl h0
  unfold wayP at he h0
  split at h0
  · cases h0
  · rename_i c1
    rw [if_neg c1] at he
    split at h0
    · rename_i c2; have h0 : firstNe (l.map moveE) = 0 := h0; rw [h0] at c2; cases c2
    · rename_i c2
      rw [if_neg c2] at he
      split at h0
      · rename_i c3; have h0 : v.check = 0 := h0; rw [h0] at c3; cases c3
      · rename_i c3
        rw [if_neg c3] at he
        split at h0
        · rename_i c4; have h0 : w.check = 0 := h0; rw [h0] at c4; cases c4
        · rename_i c4
          rw [if_neg c4] at he
          obtain ⟨h1, h2⟩ := bfs_ok (start_ok l v) he
          refine ⟨?_, ?_, ?_, fun m hm => firstNe_zero (by simpa using c2) _ (List.mem_map.2 ⟨m, hm, rfl⟩), by simpa using c3, by simpa using c4⟩
          · unfold wayP; rw [if_neg c1, if_neg c2, if_neg c3, if_neg c4]; exact h1
          · unfold wayP; rw [if_neg c1, if_neg c2, if_neg c3, if_neg c4]; exact h2
          · have : ¬ ((l.length : Int) > 200) := by simpa using c1
            omega
theorem step_len {l : List Mv} {a : Stp} {sq : Seen × List Stp} {L : Nat} (ha : a.2.length ≤ L) (hq : ∀ s ∈ sq.2, s.2.length ≤ L + 1) (i : Nat) : ∀ s ∈ (stepW l a sq i).2, s.2.length ≤ L + 1 := by
  unfold stepW
  split
  · intro s hs
    rcases List.mem_append.1 hs with hs | hs
    · exact hq s hs
    · obtain rfl := List.mem_singleton.1 hs
      simp; omega
  · exact hq
theorem scan_len {l : List Mv} {a : Stp} {sq : Seen × List Stp} {L : Nat} (ha : a.2.length ≤ L) (hq : ∀ s ∈ sq.2, s.2.length ≤ L + 1) : ∀ i, ∀ s ∈ (scanW l a sq i).2, s.2.length ≤ L + 1
  | 0 => hq
  | i + 1 => step_len ha (scan_len ha hq i) i
theorem bfs_len {l : List Mv} {w : Ver} : ∀ {n L : Nat} {seen : Seen} {q : List Stp}, (∀ s ∈ q, s.2.length ≤ L) → (bfs l w n seen q).1.length ≤ L + n
  | 0, _, _, _, _ => by simp [bfs]
  | n + 1, L, _, [], _ => by simp [bfs]
  | n + 1, L, seen, a :: q, hq => by
    unfold bfs
    have ha := hq a (by simp)
    split
    · show a.2.length ≤ _; omega
    · have := bfs_len (l := l) (w := w) (n := n) (L := L + 1) (seen := (scanW l a (seen, a :: q) l.length).1) (q := (scanW l a (seen, a :: q) l.length).2.drop 1) (fun s hs => scan_len ha (fun s hs => Nat.le_succ_of_le (hq s hs)) l.length s (List.mem_of_mem_drop hs))
      omega
theorem way_len (l : List Mv) (v w : Ver) : (wayP l v w).1.length ≤ 1000 := by
  unfold wayP
  split
  · exact Nat.zero_le _
  · rename_i c1
    have hl : ¬ ((l.length : Int) > 200) := by simpa using c1
    split
    · exact Nat.zero_le _
    · split
      · exact Nat.zero_le _
      · split
        · exact Nat.zero_le _
        · have := bfs_len (l := l) (w := w) (n := l.length + 1) (L := 0) (seen := [(v, true)]) (q := [(v, [])]) (fun s hs => by obtain rfl := List.mem_singleton.1 hs; exact Nat.le_refl _)
          omega
theorem scan_0 (l : List Mv) (a : Stp) (sq : Seen × List Stp) : scanW l a sq 0 = sq := rfl
theorem bfs_hit {l : List Mv} {w : Ver} {n : Nat} {sn : Seen} {a : Stp} {q : List Stp} (h : (orderB a.1 w == 0) = true) : bfs l w (n + 1) sn (a :: q) = (a.2, 0) := by unfold bfs; exact if_pos h
theorem bfs_next {l : List Mv} {w : Ver} {n : Nat} {sn : Seen} {a : Stp} {q : List Stp} (h : (orderB a.1 w == 0) = false) : bfs l w (n + 1) sn (a :: q) = bfs l w n (scanW l a (sn, a :: q) l.length).1 ((scanW l a (sn, a :: q) l.length).2.drop 1) := by
  show (if orderB a.1 w == 0 then (a.2, 0) else bfs l w n (scanW l a (sn, a :: q) l.length).1 ((scanW l a (sn, a :: q) l.length).2.drop 1)) = _
  exact if_neg (Bool.eq_false_iff.1 h)
theorem scan_hit {l : List Mv} {a : Stp} {sq : Seen × List Stp} {i : Nat} {sn2 : Seen} {q2 : List Stp} (h : scanW l a sq i = (sn2, q2)) (c : (hasM (l.getD i Mv.z) a.1 && !getL beqV false sn2 (l.getD i Mv.z).t) = true) :
    scanW l a sq (i + 1) = (setL beqV sn2 (l.getD i Mv.z).t true, q2 ++ [((l.getD i Mv.z).t, a.2 ++ [i])]) := by
  show stepW l a (scanW l a sq i) i = _
  rw [h]; exact if_pos c
theorem scan_miss {l : List Mv} {a : Stp} {sq : Seen × List Stp} {i : Nat} {sn2 : Seen} {q2 : List Stp} (h : scanW l a sq i = (sn2, q2)) (c : (hasM (l.getD i Mv.z) a.1 && !getL beqV false sn2 (l.getD i Mv.z).t) = false) : scanW l a sq (i + 1) = (sn2, q2) := by
  show stepW l a (scanW l a sq i) i = _
  rw [h]; exact if_neg (Bool.eq_false_iff.1 c)
end Go.Proofs.YtcchfmilleffjaaGreatDoor
namespace Go.Proofs.YtcchfmilleffjaaGreatDoor
open Go Go.RowKit
section
variable {J : Inv} {k0 : Lens} {E : Env J k0} {P : Program} {T : TypeId → Option TI} {n : Nat} {t : Nat → V} {b : List (List C)} {r : List (Option RowO)} {m : List (List (DV × DV))} {ops : Array Oper} {l : List Oper}
  {K : St → Prop} {i : Nat} {ty : TypeId} {pos : String} {after : Array Edge}
variable {α β : Type} {enc : α → DV} {val : α → Value} {same : α → α → Bool}
theorem Rel.whenT {g : Gh} {a : Act} {w : World} {v : V} (rel : Rel E n g ⟨upd t i v, b, r, m⟩ a w) : Rel E n g ⟨upd t i (.when true v), b, r, m⟩ a w := by
  refine ⟨rel.below, rel.ext, rel.imlt, rel.imold, rel.own, ⟨rel.heap.lt, rel.heap.new, rel.heap.inj, rel.heap.box, rel.heap.row, rel.heap.map⟩, rel.size, rel.defers, fun j hj => ?_⟩
  have h := rel.tmps j hj
  have e1 : (⟨upd t i v, b, r, m⟩ : St).t j = upd t i v j := rfl
  have e2 : (⟨upd t i (.when true v), b, r, m⟩ : St).t j = upd t i (.when true v) j := rfl
  rw [e1] at h
  rw [e2]
  by_cases hij : i = j
  · subst hij
    rw [upd_same] at h ⊢
    exact .whenT _ _ h
  · rw [upd_ne _ _ hij] at h ⊢
    exact h
theorem S.lookupFG (hT : TabOk P T) {tm kt et : TypeId} {ti ei : TI} {x y : Operand} {co c : Bool} {mi : Nat} {a0 : α} {fD : β → DV} {j : Nat} {want : Bool} (z : β) (l0 : List (α × β)) (hg : guardV n ops t j want = some c) (hti : T tm = some ti) (hd : ti.desc = .map kt et) (ke : KeyF P kt enc val same)
    (hei : T et = some ei) (hx : opd n ⟨bare t, b, r, m⟩ x = (true, .one (.map mi))) (hy : opd n ⟨bare t, b, r, m⟩ y = (true, (enc a0).v)) (ht : allT c (tagsO t [x, y])) (hm : m[mi]? = some (mapOfF enc fD l0)) (hz : constV ei.zero = (fD z).v) (hzo : constOk ei.zero = true)
    {v : V} (hv : mapV co (fD (getL same z l0 a0)).v (hasL same l0 a0) = v) (k : WL E P n ops l K ⟨upd t i (.when c v), b, r, m⟩) : WL E P n ops (⟨some i, .lookup tm x y co, ty, pos, after, some (j, want)⟩ :: l) K ⟨t, b, r, m⟩ := by
  cases c with
  | true =>
    have htt := allT_mem ht rfl
    have h1 := opds_bare (n := n) (b := b) (r := r) (m := m) htt (List.mem_cons_self ..)
    have h2 := opds_bare (n := n) (b := b) (r := r) (m := m) (x := y) htt (List.mem_cons_of_mem _ (List.mem_cons_self ..))
    rw [← h1] at hx
    rw [← h2] at hy
    refine S.sure hg ?_
    refine Step.weak (K := fun s1 => s1 = ⟨upd t i v, b, r, m⟩) (S.lookupF (l := []) hT z l0 hti hd ke hei hx hy hm hz hzo hv rfl) (fun s g a w hs rel => ?_)
    subst hs
    exact ⟨g, _, k, rel.whenT⟩
  | false => exact Step.skip (o := ⟨some i, .lookup tm x y co, ty, pos, after, some (j, want)⟩) rfl (guardV_B hg) v k
end
end Go.Proofs.YtcchfmilleffjaaGreatDoor
namespace Go.Proofs.YtcchfmilleffjaaGreatDoor
open Go Go.RowKit
section
variable {J : Inv} {k0 : Lens} {E : Env J k0} {P : Program} {T : TypeId → Option TI} {n : Nat} {t : Nat → V} {b : List (List C)} {r : List (Option RowO)} {m : List (List (DV × DV))} {ops : Array Oper} {l : List Oper}
  {K : St → Prop} {i : Nat} {ty : TypeId} {pos : String} {after : Array Edge}
theorem S.sliceRowE (hT : TabOk P T) {tt e : TypeId} {ti ei : TI} {x : Operand} {lo hi : Option Operand} {ri ver off k : Nat} {l0 h0 : Int} {o : RowO} (sz : Nat) (hti : T tt = some ti) (hd : ti.desc = .slice e) (hei : T e = some ei)
    (hx : opd n ⟨t, b, r, m⟩ x = (true, .one (.row ri ver off k))) (hlo : bnd n ⟨t, b, r, m⟩ 0 lo = some (true, l0)) (hhi : bnd n ⟨t, b, r, m⟩ k hi = some (true, h0)) (ho : rowAt ⟨t, b, r, m⟩ ri ver = some o)
    (hl : l0 = (k : Int)) (hh : h0 = (k : Int)) (hk : 0 < k)
    (h : WL E P n ops l K ⟨upd t i (.one (.d (.vec sz []))), b, r, m⟩) : WL E P n ops (⟨some i, .slice tt x lo hi none, ty, pos, after, none⟩ :: l) K ⟨t, b, r, m⟩ := by
  subst hl; subst hh
  intro g a w rel next Q hn
  have hw : Region.wanted (⟨some i, .slice tt x lo hi none, ty, pos, after, none⟩ : Oper) (yielded ops a.tmps) = true := by simp [Region.wanted]
  rw [if_pos hw]
  have hp := opd_ok rel hx rfl
  generalize hz : a.eval x = z at hp
  cases hp with | one _ _ hp =>
  obtain ⟨q1, q2, q3⟩ := row_val (s := ⟨t, b, r, m⟩) rel.heap ho hp
  rcases q3 with ⟨hal, rfl⟩ | ⟨_, hn0, _⟩
  · obtain ⟨ho1, ho2⟩ := rowAt_some ho
    have hrow := rel.heap.row ri o ho1
    rw [if_pos hal] at hrow
    obtain ⟨vs, tt', p1, ⟨p2, p3, p4, p5⟩, p6, p7, _, p8⟩ := hrow
    have hbb := sliceBounds_ok (P := P) (w := w) (isS := true) (m := k) (cap := g.cap ri - off) (bnd_ok rel hlo rfl) (bnd_ok rel hhi rfl) (by omega) (by omega) (by omega) (by omega)
    have hut := (hT tt ti hti).1
    rw [hd] at hut
    have hrun : ∃ A c, (execOp a.eval (⟨some i, .slice tt x lo hi none, ty, pos, after, none⟩ : Oper)).run P w = .ok (.value (.slice A 0 c)) w := by
      simp only [execOp, hz, Instr.sliceAt, Instr.slice, Sem.run_bind, run_underlying hut, Result.andThen_ok, run_sizeOf' hT hei, Option.map_none, hbb, Sem.run_pure, Int.toNat_natCast, Nat.sub_self]
      exact ⟨_, _, rfl⟩
    obtain ⟨A, c, hrun⟩ := hrun
    unfold Oper.wp
    rw [hrun]
    exact hn _ g _ _ h (rel.put_same (some i) (.one _ _ (.d _ _ (.empty _ _ _))))
  · omega
end
end Go.Proofs.YtcchfmilleffjaaGreatDoor
namespace Go.Proofs.YtcchfmilleffjaaGreatDoor
open Go Go.RowKit
theorem RV.dv {g : Gh} {h h' : Sh} {w : World} {d : DV} {u : Value} (hv : RV g h w d.v u) : RV g h' w d.v u := by
  cases d with
  | one d => cases hv with | one _ _ hv => cases hv with | d _ _ hv => exact .one _ _ (.d _ _ hv)
  | st n c d => cases hv with | one _ _ hv => cases hv with | d _ _ hv => exact .one _ _ (.d _ _ hv)
  | agg ds => cases hv with
    | agg _ vs hl hx => exact .agg _ vs hl (fun i c v hc hv' => by
        have := hx i c v hc hv'
        rw [List.getElem?_map] at hc
        obtain ⟨d, _, rfl⟩ := Option.map_eq_some_iff.1 hc
        cases this with | d _ _ hq => exact .d _ _ hq)
theorem W.reVerM {J : Inv} {k0 : Lens} {E : Env J k0} {P : Program} {n : Nat} {c : Code} {K : Ex → St → Prop} {l l0 : List (Nat × V)} {b b0 : List (List C)} {r r' : List (Option RowO)} {m : List (List (DV × DV))} {v sz : Nat} {al : Bool} {e : TypeId} {xs : List (List D)} (ri : Nat)
    (hr : r[ri]? = some (some ⟨al, v, sz, e, xs⟩)) (hl : reL ri v l = l0) (hb : b.map (fun cs => cs.map (reC ri v)) = b0) (hr' : r.set ri (some ⟨al, 0, sz, e, xs⟩) = r')
    (hok : (Nat.ble k0.R ri && ((l.all fun x => reOkV ri x.2) && b.all fun cs => cs.all (reOkC ri))) = true) (h : W E P n c K ⟨ofL l, b, r', m⟩) : W E P n c K ⟨ofL l0, b0, r, m⟩ := by
  subst hl; subst hb; subst hr'
  simp only [Bool.and_eq_true] at hok
  have hR := Nat.le_of_ble_eq_true hok.1
  have hlt : ri < r.length := (List.getElem?_eq_some_iff.1 hr).1
  refine h.weaken fun g a w rel => ⟨g, ?_⟩
  have hs : ReSh ri v (⟨ofL (reL ri v l), b.map (fun cs => cs.map (reC ri v)), r, m⟩ : St).sh (⟨ofL l, b, r.set ri (some ⟨al, 0, sz, e, xs⟩), m⟩ : St).sh := by
    refine ⟨by simp [St.sh], rfl, by simp [St.sh], fun q hq => ?_, al, sz, xs.length, by simp [St.sh, hr, RowO.form], by simp [St.sh, hlt, RowO.form]⟩
    have hq' : ¬ ri = q := fun e => hq e.symm
    simp [St.sh, List.getElem?_set, hq']
  have hlive : ∀ x, (⟨ofL l, b, r.set ri (some ⟨al, 0, sz, e, xs⟩), m⟩ : St).live x → (⟨ofL (reL ri v l), b.map (fun cs => cs.map (reC ri v)), r, m⟩ : St).live x := fun x hx => by
    cases x with
    | b q => have : q < b.length := hx; show q < (b.map _).length; simpa using this
    | m q => exact hx
    | r q =>
      obtain ⟨o, ho, hal⟩ := hx
      have ho : (r.set ri (some ⟨al, 0, sz, e, xs⟩))[q]? = some (some o) := ho
      by_cases hq : ri = q
      · subst hq
        simp [hlt] at ho
        exact ⟨_, hr, by rw [← ho] at hal; exact hal⟩
      · rw [List.getElem?_set, if_neg hq] at ho; exact ⟨o, ho, hal⟩
  refine ⟨rel.below, ?_, rel.imlt, rel.imold, fun x hx => rel.own x (hlive x hx), ⟨fun x hx => rel.heap.lt x (hlive x hx), fun x hx => rel.heap.new x (hlive x hx), fun x y hx hy => rel.heap.inj x y (hlive x hx) (hlive y hy), fun q cs hq => ?_, fun q o hq => ?_, fun q es hq => ?_⟩, rel.size, rel.defers, fun i hi => ?_⟩
  · have x := rel.ext
    refine ⟨x.im, x.same, by rw [hs.L]; exact x.lenL, by rw [hs.M]; exact x.lenM, by rw [hs.len]; exact x.lenR, x.atB, x.atM, fun q al' ver' sz' len' hq hh => x.rows q al' ver' sz' len' hq ?_⟩
    rw [← hs.other q (by rw [E.hR] at hq; omega)]; exact hh
  · have hq : b[q]? = some cs := hq
    obtain ⟨vs, t, h1, h2, h3⟩ := rel.heap.box q (cs.map (reC ri v)) (by simp [hq])
    refine ⟨vs, t, h1, by simpa using h2, fun j c x hc hx => (h3 j (reC ri v c) x (by simp [hc]) hx).re hs ?_⟩
    exact List.all_eq_true.1 (List.all_eq_true.1 hok.2.2 cs (List.mem_of_getElem? hq)) c (List.mem_of_getElem? hc)
  · have hq : (r.set ri (some ⟨al, 0, sz, e, xs⟩))[q]? = some (some o) := hq
    by_cases hqe : ri = q
    · subst hqe
      simp [hlt] at hq
      subst hq
      exact rel.heap.row ri ⟨al, v, sz, e, xs⟩ hr
    · rw [List.getElem?_set, if_neg hqe] at hq; exact rel.heap.row q o hq
  · obtain ⟨arr, clock, h1, h2, h3⟩ := rel.heap.map q es hq
    exact ⟨arr, clock, h1, h2, fun i x e hx he => ⟨(h3 i x e hx he).1.dv, (h3 i x e hx he).2.dv⟩⟩
  · have h1 := rel.tmps i hi
    have e1 : (⟨ofL (reL ri v l), b.map (fun cs => cs.map (reC ri v)), r, m⟩ : St).t i = reV ri v (ofL l i) := ofL_re ri v l i
    rw [e1] at h1
    exact h1.re hs (ofL_ok hok.2.1 i)
end Go.Proofs.YtcchfmilleffjaaGreatDoor
namespace Go.Proofs.YtcchfmilleffjaaGreatDoor
open Go
open Go.RowKit
attribute [local irreducible] rangeB pathB nameB valueB firstNe parR rangeE Ver.check hasB HasB readE moveE orderB scanW stepW bfs listD intsD
def seenD (s : Seen) : List (DV × DV) := mapOfF (fun a : Ver => DV.agg (verD a)) (fun z : Bool => DV.one (.bool z)) s
def stopD (s : Stp) : List D := [.int .i64 s.1.a, .int .i64 s.1.b, .int .i64 s.1.c, .str s.1.e, listD s.2]
theorem list_snoc (l : List Nat) (k : Nat) : listD (l ++ [k]) = .vec 1 (intsD (l ++ [k])) := by
  cases l <;> simp [listD]
theorem ints_snoc (l : List Nat) (k : Nat) : intsD l ++ [[.int .i64 (k : Int)]] = intsD (l ++ [k]) := by simp [intsD]
def StB (sn : Seen) (q : List Stp) : Prop := ∀ s ∈ q, s.1.e.length < 4294967281 ∧ s.2.length < sn.length
theorem start_row (v : Ver) : ([[.int .i64 v.a, .int .i64 v.b, .int .i64 v.c, .str v.e, .nilsl]] : List (List D)).drop 0 = [((v, []) : Stp)].map stopD := by simp [stopD, listD]
theorem row_head {xs : List (List D)} {o : Nat} {a : Stp} {q : List Stp} (h : xs.drop o = (a :: q).map stopD) : xs.getD o [] = stopD a := by
  have h1 : (xs.drop o)[0]? = some (stopD a) := by rw [h]; rfl
  rw [List.getElem?_drop] at h1
  simp only [Nat.add_zero] at h1
  rw [List.getD_eq_getElem?_getD, h1]; rfl
def stopsV (q : List Stp) (o vr : Nat) : V := if q.isEmpty then .one (.d (.vec 5 [])) else .one (.row 0 vr o q.length)
theorem wyP_1 {l : List Mv} {v w : Ver} (h : decide ((l.length : Int) > 200) = true) : wayP l v w = ([], 4) := if_pos h
theorem wyP_2 {l : List Mv} {v w : Ver} {i : Nat} (h : decide ((l.length : Int) > 200) = false) (hi : i < l.length) (ht : ((l.map moveE).take i).all (· == 0) = true) (c : (moveE (l.getD i Mv.z) != 0) = true) : wayP l v w = ([], moveE (l.getD i Mv.z)) := by
  have h2 := fe_hit (f := moveE) (d := Mv.z) hi ht c
  unfold wayP
  rw [if_neg (Bool.eq_false_iff.1 h), h2, if_pos c]
theorem wyP_0 {l : List Mv} {v w : Ver} (h : decide ((l.length : Int) > 200) = false) (ht : ((l.map moveE).take l.length).all (· == 0) = true) :
    wayP l v w = if v.check != 0 then ([], v.check) else if w.check != 0 then ([], w.check) else bfs l w (l.length + 1) [(v, true)] [(v, [])] := by
  have h2 : firstNe (l.map moveE) = 0 := fe_end (Nat.le_refl _) ht
  unfold wayP
  rw [if_neg (Bool.eq_false_iff.1 h), h2]; rfl
theorem stop_snoc {xs xs3 : List (List D)} {o o3 : Nat} {q2 : List Stp} {m : Mv} {a : Stp} {i : Nat} {x : List D} (h : xs.drop o = q2.map stopD) (h3 : xs3.drop o3 = xs.drop o ++ [x]) (hx : x = stopD (m.t, a.2 ++ [i])) : xs3.drop o3 = (q2 ++ [(m.t, a.2 ++ [i])]).map stopD := by
  rw [h3, h, hx]; simp
theorem ints_len (l : List Nat) : (intsD l).length = l.length := by simp [intsD]
theorem stop_x (m : Mv) (a : Stp) (i : Nat) : [.int .i64 m.t.a, .int .i64 m.t.b, .int .i64 m.t.c, .str m.t.e, .vec 1 (intsD (a.2 ++ [i]))] = stopD (m.t, a.2 ++ [i]) := by unfold stopD; rw [list_snoc]
theorem row_snoc {q : List Stp} {s : Stp} {o : Nat} : V.one (.row 0 1 o (q.length + 1)) = V.one (.row 0 1 o (q ++ [s]).length) := by simp
theorem drop_next {xs : List (List D)} {o : Nat} {x : Stp} {q : List Stp} (h : xs.drop o = (x :: q).map stopD) : xs.drop (o + 1) = q.map stopD := by
  rw [← List.drop_drop, h]; rfl
theorem andn {a b : Bool} (h : (a && !b) = true) : b = false := by cases a <;> cases b <;> simp_all
theorem StB.more {sn : Seen} {q : List Stp} (h : StB sn q) {k : Ver} {a : Stp} {i : Nat} (hk : k.e.length < 4294967281) (ha : a.2.length < sn.length) (hn : getL beqV false sn k = false) (ht : ∀ x ∈ sn, x.2 = true) : StB (setL beqV sn k true) (q ++ [(k, a.2 ++ [i])]) := by
  have hh : hasL beqV sn k = false := by rw [← get_seen ht]; exact hn
  rw [set_seen hh]
  intro s hs
  rcases List.mem_append.1 hs with hs | hs
  · have := h s hs
    simp; omega
  · obtain rfl := List.mem_singleton.1 hs
    simp; omega
theorem le_nilI : LeV (.one (.d .nilsl)) (.one (.d (.vec 1 (intsD [])))) := by
  rw [show intsD [] = [] by simp [intsD]]; exact LeV.nil 1
theorem le_way {k : Int} {xs : D} {x : List Nat × Int} {ys : List Nat} (h : x = (ys, k)) (hx : LeV (.one (.d xs)) (.one (.d (.vec 1 (intsD ys))))) : LeV (.tup [.one (.d xs), .one (.d (.int .i64 k))]) (.tup [.one (.d (.vec 1 (intsD x.1))), .one (.d (.int .i64 x.2))]) := by
  subst h; exact LeV.tup2 hx (LeV.refl _)
theorem pc_Way (l : List Mv) (v w : Ver) (hb : ∀ m ∈ l, MvB m) (hv : v.e.length < 4294967281) (hw : w.e.length < 4294967281) :
  PureCall Tryz.prog J 21 [.one (.d (.vec 6 (l.map mvD))), verV v, verV w] (.tup [.one (.d (.vec 1 (intsD (wayP l v w).1))), .one (.d (.int .i64 (wayP l v w).2))]) := by
 refine PureCall.of_body tOk (fn := Tryz.f21) Tryz.func21 (by kernel_rfl) rfl (Nat.le_of_ble_eq_true rfl) (fun E => ?_)
 refine W.seq ?_
 refine W.region ?_
 refine S.box rfl rfl rfl rfl ?_
 refine S.box rfl rfl rfl rfl ?_
 refine S.pure tOk zOk rfl rfl rfl ?_
 refine S.pure tOk zOk rfl rfl rfl ?_
 refine thenK_n ?_
 refine W.seq ?_
 refine W.seq ?_
 refine W.region ?_
 refine S.pure tOk zOk rfl rfl rfl ?_
 refine S.pure tOk zOk rfl rfl rfl ?_
 refine S.pure tOk zOk rfl rfl rfl ?_
 refine thenK_n ?_
 refine W.cond rfl (fun c1 => ?_) (fun c1 => ?_)
 ·skip
  have c1 : decide ((l.length : Int) > 200) = true := by simpa using c1
  refine W.seq ?_
  refine W.region ?_
  refine S.pure tOk zOk rfl rfl rfl ?_
  refine S.pure tOk zOk rfl rfl rfl ?_
  refine thenK_n ?_
  refine W.ret ?_
  refine thenK_r ?_
  exact ⟨_, rfl, rfl, le_way (ys := []) (wyP_1 c1) le_nilI⟩
 ·skip
  have c1 : decide ((l.length : Int) > 200) = false := by simpa using c1
  have hl2 : l.length ≤ 200 := by simp at c1; omega
  refine W.skip ?_
  refine thenK_n ?_
  refine W.seq ?_
  refine W.seq ?_
  refine W.region ?_
  refine S.pure tOk zOk rfl rfl rfl ?_
  refine S.pure tOk zOk rfl rfl rfl ?_
  refine S.pure tOk zOk rfl rfl rfl ?_
  refine thenK_n ?_
  refine W.block ?_
  refine W.loop (fun k st => ∃ i : Nat, i ≤ l.length ∧ ((l.map moveE).take i).all (· == 0) = true ∧ k = l.length - i ∧ ∃ t b2 r2 m2, st = ⟨t, [[.d (.int .i64 v.a), .d (.int .i64 v.b), .d (.int .i64 v.c), .d (.str v.e)], [.d (.int .i64 w.a), .d (.int .i64 w.b), .d (.int .i64 w.c), .d (.str w.e)]] ++ b2, [] ++ r2, [] ++ m2⟩ ∧ holdsL t [(0, .one (.d (.vec 6 (l.map mvD)))), (4, .one (.ptr 0 0)), (5, .one (.ptr 1 0)), (24, .one (.d (.vec 6 (l.map mvD)))), (25, .one (.d (.int .i64 ((l.map mvD).length : Int)))), (26, .one (.d (.int .i64 (i : Int))))]) (l.length) ⟨0, Nat.zero_le _, by simp, rfl, _, _, _, _, rfl, rfl, rfl, rfl, rfl, rfl, rfl, trivial⟩ ?_
  rintro k0 _ ⟨i, f0_0, f0_1, rfl, t0, bb0, rr0, mm0, rfl, hh0⟩
  refine W.keepR _ _ _ _ _ _ _ hh0 rfl ?_
  refine W.seq ?_
  refine W.region ?_
  refine S.pure tOk zOk rfl rfl rfl ?_
  refine thenK_n ?_
  refine W.seq ?_
  refine W.cond rfl (fun c2 => ?_) (fun c2 => ?_)
  ·skip
   have hi := row_lt c2
   have hmb := hb _ (mem_getD (d := Mv.z) hi)
   refine W.skip ?_
   refine thenK_n ?_
   refine W.seq ?_
   refine W.block ?_
   refine W.seq ?_
   refine W.region ?_
   refine S.pureE tOk zOk rfl (row_ok hi) (row_at Mv.z hi) rfl ?_
   refine S.pure tOk zOk rfl rfl rfl ?_
   refine S.alloc tOk rfl rfl rfl rfl ?_
   refine S.store tOk rfl rfl rfl rfl rfl rfl rfl rfl ?_
   refine thenK_n ?_
   refine W.seq ?_
   refine W.region ?_
   refine S.pure tOk zOk rfl rfl rfl ?_
   refine S.call rfl rfl rfl rfl rfl (pc_CheckMove (l.getD i Mv.z) hmb) ?_
   refine S.pure tOk zOk rfl rfl rfl ?_
   refine thenK_n ?_
   refine W.seq ?_
   refine W.region ?_
   refine S.pure tOk zOk rfl rfl rfl ?_
   refine S.pure tOk zOk rfl rfl rfl ?_
   refine thenK_n ?_
   refine W.cond rfl (fun c3 => ?_) (fun c3 => ?_)
   ·skip
    refine W.seq ?_
    refine W.region ?_
    refine S.pure tOk zOk rfl rfl rfl ?_
    refine S.pure tOk zOk rfl rfl rfl ?_
    refine S.pure tOk zOk rfl rfl rfl ?_
    refine thenK_n ?_
    refine W.ret ?_
    refine blockK_r ?_
    refine thenK_r ?_
    refine thenK_r ?_
    refine blockK_r ?_
    refine thenK_r ?_
    exact ⟨_, rfl, rfl, le_way (ys := []) (wyP_2 c1 hi f0_1 c3) le_nilI⟩
   ·skip
    refine W.skip ?_
    refine blockK_n ?_
    refine thenK_n ?_
    refine W.region ?_
    refine S.pure tOk zOk rfl rfl rfl ?_
    refine S.pure tOk zOk rfl rfl rfl ?_
    refine loop_n (l.length - (i + 1)) (by omega) ⟨i + 1, hi, fe_next (d := Mv.z) hi f0_1 c3, rfl, _, _, _, _, rfl, rfl, rfl, rfl, rfl, rfl, inc_i64 (by omega), trivial⟩
  ·skip
   have hi := row_ge c2
   obtain rfl : i = l.length := by omega
   have h00 := wyP_0 (v := v) (w := w) c1 f0_1
   refine W.exit ?_
   refine thenK_e ?_
   refine thenK_e ?_
   refine blockK_x ?_
   refine thenK_n ?_
   refine W.seq ?_
   refine W.seq ?_
   refine W.region ?_
   refine S.pure tOk zOk rfl rfl rfl ?_
   refine S.pure tOk zOk rfl rfl rfl ?_
   refine S.pure tOk zOk rfl rfl rfl ?_
   refine S.pure tOk zOk rfl rfl rfl ?_
   refine thenK_n ?_
   refine W.block ?_
   refine W.rounds 3 ?_
   refine WR.succ ?_
   refine W.seq ?_
   refine W.region ?_
   refine S.pure tOk zOk rfl rfl rfl ?_
   refine thenK_n ?_
   refine W.seq ?_
   refine W.condT rfl rfl ?_
   refine W.skip ?_
   refine thenK_n ?_
   refine W.seq ?_
   refine W.block ?_
   refine W.seq ?_
   refine W.region ?_
   refine S.pure tOk zOk rfl (by first | rfl | exact idx_ok (by omega) (by omega)) rfl ?_
   refine S.alloc tOk rfl rfl rfl rfl ?_
   refine S.store tOk rfl rfl rfl rfl rfl rfl rfl rfl ?_
   refine thenK_n ?_
   refine W.seq ?_
   refine W.region ?_
   refine S.pure tOk zOk rfl rfl rfl ?_
   refine S.call rfl rfl rfl rfl rfl (pc_ver_Check v hv) ?_
   refine S.pure tOk zOk rfl rfl rfl ?_
   refine thenK_n ?_
   refine W.seq ?_
   refine W.region ?_
   refine S.pure tOk zOk rfl rfl rfl ?_
   refine S.pure tOk zOk rfl rfl rfl ?_
   refine thenK_n ?_
   refine W.cond rfl (fun c5 => ?_) (fun c5 => ?_)
   ·skip
    refine W.seq ?_
    refine W.region ?_
    refine S.pure tOk zOk rfl rfl rfl ?_
    refine S.pure tOk zOk rfl rfl rfl ?_
    refine S.pure tOk zOk rfl rfl rfl ?_
    refine thenK_n ?_
    refine W.ret ?_
    refine blockK_r ?_
    refine thenK_r ?_
    refine thenK_r ?_
    refine blockK_r ?_
    refine thenK_r ?_
    exact ⟨_, rfl, rfl, le_way (ys := []) (by rw [h00, if_pos c5]) le_nilI⟩
   ·skip
    refine W.skip ?_
    refine blockK_n ?_
    refine thenK_n ?_
    refine W.region ?_
    refine S.pure tOk zOk rfl rfl rfl ?_
    refine S.pure tOk zOk rfl rfl rfl ?_
    refine thenK_n ?_
    refine WR.succ ?_
    refine W.seq ?_
    refine W.region ?_
    refine S.pure tOk zOk rfl rfl rfl ?_
    refine thenK_n ?_
    refine W.seq ?_
    refine W.condT rfl rfl ?_
    refine W.skip ?_
    refine thenK_n ?_
    refine W.seq ?_
    refine W.block ?_
    refine W.seq ?_
    refine W.region ?_
    refine S.pure tOk zOk rfl (by first | rfl | exact idx_ok (by omega) (by omega)) rfl ?_
    refine S.alloc tOk rfl rfl rfl rfl ?_
    refine S.store tOk rfl rfl rfl rfl rfl rfl rfl rfl ?_
    refine thenK_n ?_
    refine W.seq ?_
    refine W.region ?_
    refine S.pure tOk zOk rfl rfl rfl ?_
    refine S.call rfl rfl rfl rfl rfl (pc_ver_Check w hw) ?_
    refine S.pure tOk zOk rfl rfl rfl ?_
    refine thenK_n ?_
    refine W.seq ?_
    refine W.region ?_
    refine S.pure tOk zOk rfl rfl rfl ?_
    refine S.pure tOk zOk rfl rfl rfl ?_
    refine thenK_n ?_
    refine W.cond rfl (fun c7 => ?_) (fun c7 => ?_)
    ·skip
     refine W.seq ?_
     refine W.region ?_
     refine S.pure tOk zOk rfl rfl rfl ?_
     refine S.pure tOk zOk rfl rfl rfl ?_
     refine S.pure tOk zOk rfl rfl rfl ?_
     refine thenK_n ?_
     refine W.ret ?_
     refine blockK_r ?_
     refine thenK_r ?_
     refine thenK_r ?_
     refine blockK_r ?_
     refine thenK_r ?_
     exact ⟨_, rfl, rfl, le_way (ys := []) (by rw [h00, if_neg (Bool.eq_false_iff.1 c5), if_pos c7]) le_nilI⟩
    ·skip
     refine W.skip ?_
     refine blockK_n ?_
     refine thenK_n ?_
     refine W.region ?_
     refine S.pure tOk zOk rfl rfl rfl ?_
     refine S.pure tOk zOk rfl rfl rfl ?_
     refine thenK_n ?_
     refine WR.succ ?_
     refine W.seq ?_
     refine W.region ?_
     refine S.pure tOk zOk rfl rfl rfl ?_
     refine thenK_n ?_
     refine W.seq ?_
     refine W.condF rfl rfl ?_
     refine W.exit ?_
     refine thenK_e ?_
     refine thenK_e ?_
     refine blockK_x ?_
     refine thenK_n ?_
     refine W.seq ?_
     refine W.region ?_
     refine S.makeMap rfl ?_
     refine S.pure tOk zOk rfl rfl rfl ?_
     refine S.insertF tOk (a0 := v) (fD := fun z : Bool => DV.one (.bool z)) true ([] : Seen) rfl rfl keyV rfl rfl rfl rfl (show _ = [seenD [(v, true)]] from rfl) ?_
     refine S.pure tOk zOk rfl rfl rfl ?_
     refine S.pure tOk zOk rfl rfl rfl ?_
     refine thenK_n ?_
     refine W.seq ?_
     refine W.seq ?_
     refine W.region ?_
     refine S.pure tOk zOk rfl rfl rfl ?_
     refine S.pure tOk zOk rfl rfl rfl ?_
     refine S.sliceOwn tOk rfl rfl rfl rfl rfl rfl ?_
     refine S.pure tOk zOk rfl rfl rfl ?_
     refine thenK_n ?_
     refine W.block ?_
     refine W.loop (fun k st => ∃ n : Nat, ∃ sn : Seen, ∃ q : List Stp, ∃ xs : List (List D), ∃ o : Nat, ∃ vr : Nat, FuelOk l v n sn q ∧ bfs l w n sn q = bfs l w (l.length + 1) [(v, true)] [(v, [])] ∧ (q ≠ [] → xs.drop o = q.map stopD ∧ o + q.length = xs.length) ∧ StB sn q ∧ n ≤ l.length + 1 ∧ k = n ∧ ∃ t b2 r2 m2, st = ⟨t, [[.d (.int .i64 v.a), .d (.int .i64 v.b), .d (.int .i64 v.c), .d (.str v.e)], [.d (.int .i64 w.a), .d (.int .i64 w.b), .d (.int .i64 w.c), .d (.str w.e)]] ++ b2, [some ⟨true, vr, 5, 123, xs⟩] ++ r2, [seenD sn] ++ m2⟩ ∧ holdsL t [(0, .one (.d (.vec 6 (l.map mvD)))), (4, .one (.ptr 0 0)), (5, .one (.ptr 1 0)), (14, .one (.map 0)), (15, stopsV q o vr)]) (l.length + 1) ⟨l.length + 1, [(v, true)], [(v, [])], [[.int .i64 v.a, .int .i64 v.b, .int .i64 v.c, .str v.e, .nilsl]], 0, 0, FuelOk.start l v, rfl, fun _ => ⟨start_row v, rfl⟩, fun s hs => by simp at hs; subst hs; exact ⟨hv, Nat.zero_lt_one⟩, Nat.le_refl _, rfl, _, _, _, _, rfl, rfl, rfl, rfl, rfl, (by rfl), trivial⟩ ?_
     rintro k4 _ ⟨n, sn, q, xs, o, vr, f4_0, f4_1, f4_2, f4_3, f4_4, rfl, t4, bb4, rr4, mm4, rfl, hh4⟩
     rcases q with _ | ⟨a, q⟩
     ·skip
      replace hh4 : holdsL t4 [(0, .one (.d (.vec 6 (l.map mvD)))), (4, .one (.ptr 0 0)), (5, .one (.ptr 1 0)), (14, .one (.map 0)), (15, .one (.d (.vec 5 [])))] := hh4
      refine W.keepR _ _ _ _ _ _ _ hh4 rfl ?_
      refine W.seq ?_
      refine W.seq ?_
      refine W.region ?_
      refine S.pure tOk zOk rfl rfl rfl ?_
      refine S.pure tOk zOk rfl rfl rfl ?_
      refine S.pure tOk zOk rfl rfl rfl ?_
      refine thenK_n ?_
      refine W.cond rfl (fun c9 => absurd c9 (by simp)) (fun c9 => ?_)
      refine W.exit ?_
      refine thenK_e ?_
      refine thenK_e ?_
      refine blockK_x ?_
      refine thenK_n ?_
      refine W.seq ?_
      refine W.region ?_
      refine S.pure tOk zOk rfl rfl rfl ?_
      refine S.pure tOk zOk rfl rfl rfl ?_
      refine thenK_n ?_
      refine W.ret ?_
      exact ⟨_, rfl, rfl, le_way (ys := []) (by rw [h00, if_neg (Bool.eq_false_iff.1 c5), if_neg (Bool.eq_false_iff.1 c7), ← f4_1]; cases k4 <;> simp [bfs]) le_nilI⟩
     obtain ⟨ql, hql⟩ : ∃ k, k = q.length + 1 := ⟨_, rfl⟩
     replace hh4 : holdsL t4 [(0, .one (.d (.vec 6 (l.map mvD)))), (4, .one (.ptr 0 0)), (5, .one (.ptr 1 0)), (14, .one (.map 0)), (15, .one (.row 0 vr o ql))] := by rw [hql]; exact hh4
     obtain ⟨hx1, hx2⟩ := f4_2 (by simp)
     obtain ⟨hae, hal0⟩ := f4_3 a (by simp)
     have hfp := f4_0.pos
     obtain ⟨n, rfl⟩ : ∃ k, k4 = k + 1 := ⟨k4 - 1, by simp at hfp; omega⟩
     have hsl := f4_0.ok.len
     refine W.keepR _ _ _ _ _ _ _ hh4 rfl ?_
     refine W.reVerM (l := [(0, .one (.d (.vec 6 (l.map mvD)))), (4, .one (.ptr 0 0)), (5, .one (.ptr 1 0)), (14, .one (.map 0)), (15, .one (.row 0 0 o ql))]) (b := [[.d (.int .i64 v.a), .d (.int .i64 v.b), .d (.int .i64 v.c), .d (.str v.e)], [.d (.int .i64 w.a), .d (.int .i64 w.b), .d (.int .i64 w.c), .d (.str w.e)]]) 0 rfl rfl rfl rfl rfl ?_
     refine W.seq ?_
     refine W.seq ?_
     refine W.region ?_
     refine S.pure tOk zOk rfl rfl rfl ?_
     refine S.pure tOk zOk rfl rfl rfl ?_
     refine S.pure tOk zOk rfl rfl rfl ?_
     refine thenK_n ?_
     refine W.cond rfl (fun c9 => ?_) (fun c9 => ?_)
     ·skip
      refine W.skip ?_
      refine thenK_n ?_
      refine W.seq ?_
      refine W.block ?_
      refine W.seq ?_
      refine W.region ?_
      refine S.pure tOk zOk rfl rfl rfl ?_
      refine S.pure tOk zOk rfl (idx_ok (i := (0 : Int)) (n := (ql : Int)) (by decide) (by omega)) rfl ?_
      refine S.rload tOk rfl rfl rfl (row_head hx1) rfl rfl ?_
      refine S.alloc tOk rfl rfl rfl rfl ?_
      refine S.store tOk rfl rfl rfl rfl rfl rfl rfl rfl ?_
      refine thenK_n ?_
      refine W.seq ?_
      refine W.seq ?_
      refine W.region ?_
      refine S.pure tOk zOk rfl rfl rfl ?_
      refine S.pure tOk zOk rfl rfl rfl ?_
      refine S.pure tOk zOk rfl rfl rfl ?_
      refine S.call rfl rfl rfl rfl rfl (pc_ver_Order a.1 w hae hw) ?_
      refine S.pure tOk zOk rfl rfl rfl ?_
      refine thenK_n ?_
      refine W.cond rfl (fun c10 => ?_) (fun c10 => ?_)
      ·skip
       refine W.seq ?_
       refine W.region ?_
       refine S.pure tOk zOk rfl rfl rfl ?_
       refine S.pure tOk zOk rfl rfl rfl ?_
       refine S.pure tOk zOk rfl rfl rfl ?_
       refine S.pure tOk zOk rfl rfl rfl ?_
       refine thenK_n ?_
       refine W.ret ?_
       refine thenK_r ?_
       refine blockK_r ?_
       refine thenK_r ?_
       refine thenK_r ?_
       refine blockK_r ?_
       refine thenK_r ?_
       exact ⟨_, rfl, rfl, le_way (ys := a.2) (by rw [h00, if_neg (Bool.eq_false_iff.1 c5), if_neg (Bool.eq_false_iff.1 c7), ← f4_1]; exact bfs_hit c10) (le_list a.2)⟩
      ·skip
       refine W.skip ?_
       refine thenK_n ?_
       refine W.seq ?_
       refine W.region ?_
       refine S.pure tOk zOk rfl rfl rfl ?_
       refine S.pure tOk zOk rfl rfl rfl ?_
       refine S.pure tOk zOk rfl rfl rfl ?_
       refine thenK_n ?_
       refine W.block ?_
       refine W.loop (fun k st => ∃ i : Nat, ∃ sn2 : Seen, ∃ q2 : List Stp, ∃ xs2 : List (List D), ∃ o2 : Nat, ∃ vr2 : Nat, i ≤ l.length ∧ scanW l a (sn, a :: q) i = (sn2, q2) ∧ xs2.drop o2 = q2.map stopD ∧ o2 + q2.length = xs2.length ∧ StB sn2 q2 ∧ k = l.length - i ∧ ∃ t b2 r2 m2, st = ⟨t, [[.d (.int .i64 v.a), .d (.int .i64 v.b), .d (.int .i64 v.c), .d (.str v.e)], [.d (.int .i64 w.a), .d (.int .i64 w.b), .d (.int .i64 w.c), .d (.str w.e)], [.d (.int .i64 a.1.a), .d (.int .i64 a.1.b), .d (.int .i64 a.1.c), .d (.str a.1.e), .d (listD a.2)]] ++ b2, [some ⟨true, vr2, 5, 123, xs2⟩] ++ r2, [seenD sn2] ++ m2⟩ ∧ holdsL t [(0, .one (.d (.vec 6 (l.map mvD)))), (4, .one (.ptr 0 0)), (5, .one (.ptr 1 0)), (14, .one (.map 0)), (15, .one (.row 0 vr2 o2 q2.length)), (16, .one (.ptr 2 0)), (69, .one (.d (.vec 6 (l.map mvD)))), (70, .one (.d (.int .i64 ((l.map mvD).length : Int)))), (71, .one (.d (.int .i64 (i : Int))))]) (l.length) ⟨0, sn, a :: q, xs, o, 0, Nat.zero_le _, scan_0 _ _ _, hx1, hx2, f4_3, rfl, _, _, _, _, rfl, rfl, rfl, rfl, rfl, (congrArg (fun z => V.one (.row 0 0 o z)) hql), rfl, rfl, rfl, rfl, trivial⟩ ?_
       rintro k6 _ ⟨i, sn2, q2, xs2, o2, vr2, f6_0, f6_1, f6_2, f6_3, f6_4, rfl, t6, bb6, rr6, mm6, rfl, hh6⟩
       refine W.keepR _ _ _ _ _ _ _ hh6 rfl ?_
       refine W.reVerM (l := [(0, .one (.d (.vec 6 (l.map mvD)))), (4, .one (.ptr 0 0)), (5, .one (.ptr 1 0)), (14, .one (.map 0)), (15, .one (.row 0 0 o2 q2.length)), (16, .one (.ptr 2 0)), (69, .one (.d (.vec 6 (l.map mvD)))), (70, .one (.d (.int .i64 ((l.map mvD).length : Int)))), (71, .one (.d (.int .i64 (i : Int))))]) (b := [[.d (.int .i64 v.a), .d (.int .i64 v.b), .d (.int .i64 v.c), .d (.str v.e)], [.d (.int .i64 w.a), .d (.int .i64 w.b), .d (.int .i64 w.c), .d (.str w.e)], [.d (.int .i64 a.1.a), .d (.int .i64 a.1.b), .d (.int .i64 a.1.c), .d (.str a.1.e), .d (listD a.2)]]) 0 rfl rfl rfl rfl rfl ?_
       refine W.seq ?_
       refine W.region ?_
       refine S.pure tOk zOk rfl rfl rfl ?_
       refine thenK_n ?_
       refine W.seq ?_
       refine W.cond rfl (fun c11 => ?_) (fun c11 => ?_)
       ·skip
        have hi := row_lt c11
        have hmb := hb _ (mem_getD (d := Mv.z) hi)
        have hsc := SeenOk.scan (sq := (sn, a :: q)) f4_0.ok a f6_0
        rw [f6_1] at hsc
        have hso : SeenOk l v sn2 := hsc.1
        have hsn := hsc.2
        have hmo := scan_more l a (sn, a :: q) i
        rw [f6_1] at hmo
        simp only [List.length_cons] at hsn hmo hfp
        have hs2 := hso.len
        have hal2 : a.2.length < sn2.length := by omega
        have hal : a.2.length ≤ 1000000000 := by omega
        refine W.skip ?_
        refine thenK_n ?_
        refine W.seq ?_
        refine W.block ?_
        refine W.seq ?_
        refine W.region ?_
        refine S.pure tOk zOk rfl rfl rfl ?_
        refine S.pureE tOk zOk rfl (row_ok hi) (row_at Mv.z hi) rfl ?_
        refine S.pure tOk zOk rfl rfl rfl ?_
        refine S.alloc tOk rfl rfl rfl rfl ?_
        refine S.pure tOk zOk rfl rfl rfl ?_
        refine S.store tOk rfl rfl rfl rfl rfl rfl rfl rfl ?_
        refine thenK_n ?_
        refine W.seq ?_
        refine W.region ?_
        refine S.pure tOk zOk rfl rfl rfl ?_
        refine S.pure tOk zOk rfl rfl rfl ?_
        refine S.pure tOk zOk rfl rfl rfl ?_
        refine S.pure tOk zOk rfl rfl rfl ?_
        refine S.call rfl rfl rfl rfl rfl (pc_ver_Has (l.getD i Mv.z).f hmb.f hmb.sp a.1 hae) ?_
        refine S.pure tOk zOk rfl rfl rfl ?_
        refine S.pure tOk zOk rfl rfl rfl ?_
        refine S.pure tOk zOk rfl rfl rfl ?_
        refine S.pure tOk zOk rfl rfl rfl ?_
        refine S.pure tOk zOk rfl rfl rfl ?_
        refine thenK_n ?_
        refine W.seq ?_
        refine W.region ?_
        refine S.pure tOk zOk rfl rfl rfl ?_
        refine S.pure tOk zOk rfl rfl rfl ?_
        refine S.pureG tOk zOk rfl rfl tg (fun _ => rfl) rfl ?_
        refine S.pureG tOk zOk rfl rfl tg (fun _ => rfl) rfl ?_
        refine S.pureG tOk zOk rfl rfl tg (fun _ => rfl) rfl ?_
        refine S.lookupFG tOk (a0 := (l.getD i Mv.z).t) (fD := fun z : Bool => DV.one (.bool z)) false sn2 rfl rfl rfl keyV rfl rfl rfl tg rfl rfl rfl (show mapV false _ _ = _ from rfl) ?_
        refine S.pureG tOk zOk rfl rfl tg (fun _ => rfl) rfl ?_
        refine S.pickAnd tOk zOk rfl rfl tg ?_
        refine thenK_n ?_
        refine W.cond rfl (fun c12 => ?_) (fun c12 => ?_)
        ·skip
         refine W.seq ?_
         refine W.region ?_
         refine S.pure tOk zOk rfl rfl rfl ?_
         refine S.pure tOk zOk rfl rfl rfl ?_
         refine S.pure tOk zOk rfl rfl rfl ?_
         refine S.mapUpdateF tOk (a0 := (l.getD i Mv.z).t) (fD := fun z : Bool => DV.one (.bool z)) true sn2 rfl rfl keyV rfl rfl rfl rfl (show _ = [seenD (setL beqV sn2 (l.getD i Mv.z).t true)] from rfl) ?_
         refine thenK_n ?_
         refine W.regionS 11 mixed rfl (by kernel_rfl) ?_
         refine AnyZ.eager 0 rfl (by kernel_rfl) (Eag.pure tOk zOk rfl (fun _ _ _ => rfl) rfl rfl) ?_
         refine AnyZ.eager 1 rfl (by kernel_rfl) (Eag.pure tOk zOk rfl (fun _ _ _ => rfl) rfl rfl) ?_
         refine AnyZ.eager 3 rfl (by kernel_rfl) (Eag.pure tOk zOk rfl (fun _ _ _ => rfl) rfl rfl) ?_
         refine AnyZ.eager 6 rfl (by kernel_rfl) (Eag.pure tOk zOk rfl (fun _ _ _ => rfl) rfl rfl) ?_
         refine AnyZ.three 2 4 7 (by kernel_rfl) rfl rfl rfl ?_ ?_ ?_
         ·skip
          refine OpZ.d ?_
          refine D.pure tOk zOk rfl rfl rfl rfl ?_
          refine WD.nil ?_
          refine AnyZ.two 4 7 (by kernel_rfl) rfl rfl ?_ ?_
          ·skip
           refine OpZ.d ?_
           refine D.pure tOk zOk rfl rfl rfl rfl ?_
           refine WD.nil ?_
           refine AnyZ.two 5 7 (by kernel_rfl) rfl rfl ?_ ?_
           ·skip
            refine OpZ.hcall rfl rfl rfl rfl ((pc_Clone a.2 hal).frameD [] [] [] rfl rfl rfl rfl rfl rfl rfl rfl rfl) ?_
            refine AnyZ.one 7 (by kernel_rfl) rfl ?_
            refine OpZ.d ?_
            refine D.slice tOk rfl rfl ?_
            refine WD.nil ?_
            refine AnyZ.one 8 (by kernel_rfl) rfl ?_
            refine OpZ.appendV tOk rfl rfl rfl rfl rfl rfl rfl rfl rfl rfl rfl rfl (by show (intsD a.2).length + 1 ≤ _; rw [ints_len]; omega) (ints_snoc a.2 i) rfl ?_
            refine AnyZ.eager 9 rfl (by kernel_rfl) (Eag.pure tOk zOk rfl (fun _ _ _ => rfl) rfl rfl) ?_
            refine AnyZ.one 10 (by kernel_rfl) rfl ?_
            refine OpZ.d ?_
            refine D.slice tOk rfl rfl ?_
            refine WD.nil ?_
            refine AnyZ.nil (by kernel_rfl) ?_
            refine S.appendO tOk rfl rfl rfl rfl rfl rfl rfl rfl rfl f6_3 rfl rfl (by show q2.length + 1 ≤ _; omega) (fun xs3 o3 hl3 hd3 => ?_)
            refine S.pure tOk zOk rfl rfl rfl ?_
            refine blockK_n ?_
            refine thenK_n ?_
            refine W.region ?_
            refine S.pure tOk zOk rfl rfl rfl ?_
            refine S.pure tOk zOk rfl rfl rfl ?_
            refine loop_n (l.length - (i + 1)) (by omega) ⟨i + 1, setL beqV sn2 (l.getD i Mv.z).t true, q2 ++ [((l.getD i Mv.z).t, a.2 ++ [i])], xs3, o3, _, hi, scan_hit f6_1 c12, stop_snoc f6_2 hd3 (stop_x (l.getD i Mv.z) a i), (by have h : o3 + (q2.length + 1) = xs3.length := hl3; rw [List.length_append]; exact h), f6_4.more hmb.e hal2 (andn c12) hso.tr, rfl, _, _, _, _, rfl, rfl, rfl, rfl, rfl, row_snoc, rfl, rfl, rfl, inc_i64 (by omega), trivial⟩
           ·skip
            refine OpZ.d ?_
            refine D.slice tOk rfl rfl ?_
            refine WD.nil ?_
            refine AnyZ.one 5 (by kernel_rfl) rfl ?_
            refine OpZ.hcall rfl rfl rfl rfl ((pc_Clone a.2 hal).frameD [] [] [] rfl rfl rfl rfl rfl rfl rfl rfl rfl) ?_
            refine AnyZ.one 8 (by kernel_rfl) rfl ?_
            refine OpZ.appendV tOk rfl rfl rfl rfl rfl rfl rfl rfl rfl rfl rfl rfl (by show (intsD a.2).length + 1 ≤ _; rw [ints_len]; omega) (ints_snoc a.2 i) rfl ?_
            refine AnyZ.eager 9 rfl (by kernel_rfl) (Eag.pure tOk zOk rfl (fun _ _ _ => rfl) rfl rfl) ?_
            refine AnyZ.one 10 (by kernel_rfl) rfl ?_
            refine OpZ.d ?_
            refine D.slice tOk rfl rfl ?_
            refine WD.nil ?_
            refine AnyZ.nil (by kernel_rfl) ?_
            refine S.appendO tOk rfl rfl rfl rfl rfl rfl rfl rfl rfl f6_3 rfl rfl (by show q2.length + 1 ≤ _; omega) (fun xs3 o3 hl3 hd3 => ?_)
            refine S.pure tOk zOk rfl rfl rfl ?_
            refine blockK_n ?_
            refine thenK_n ?_
            refine W.region ?_
            refine S.pure tOk zOk rfl rfl rfl ?_
            refine S.pure tOk zOk rfl rfl rfl ?_
            refine loop_n (l.length - (i + 1)) (by omega) ⟨i + 1, setL beqV sn2 (l.getD i Mv.z).t true, q2 ++ [((l.getD i Mv.z).t, a.2 ++ [i])], xs3, o3, _, hi, scan_hit f6_1 c12, stop_snoc f6_2 hd3 (stop_x (l.getD i Mv.z) a i), (by have h : o3 + (q2.length + 1) = xs3.length := hl3; rw [List.length_append]; exact h), f6_4.more hmb.e hal2 (andn c12) hso.tr, rfl, _, _, _, _, rfl, rfl, rfl, rfl, rfl, row_snoc, rfl, rfl, rfl, inc_i64 (by omega), trivial⟩
          ·skip
           refine OpZ.d ?_
           refine D.slice tOk rfl rfl ?_
           refine WD.nil ?_
           refine AnyZ.one 4 (by kernel_rfl) rfl ?_
           refine OpZ.d ?_
           refine D.pure tOk zOk rfl rfl rfl rfl ?_
           refine WD.nil ?_
           refine AnyZ.one 5 (by kernel_rfl) rfl ?_
           refine OpZ.hcall rfl rfl rfl rfl ((pc_Clone a.2 hal).frameD [] [] [] rfl rfl rfl rfl rfl rfl rfl rfl rfl) ?_
           refine AnyZ.one 8 (by kernel_rfl) rfl ?_
           refine OpZ.appendV tOk rfl rfl rfl rfl rfl rfl rfl rfl rfl rfl rfl rfl (by show (intsD a.2).length + 1 ≤ _; rw [ints_len]; omega) (ints_snoc a.2 i) rfl ?_
           refine AnyZ.eager 9 rfl (by kernel_rfl) (Eag.pure tOk zOk rfl (fun _ _ _ => rfl) rfl rfl) ?_
           refine AnyZ.one 10 (by kernel_rfl) rfl ?_
           refine OpZ.d ?_
           refine D.slice tOk rfl rfl ?_
           refine WD.nil ?_
           refine AnyZ.nil (by kernel_rfl) ?_
           refine S.appendO tOk rfl rfl rfl rfl rfl rfl rfl rfl rfl f6_3 rfl rfl (by show q2.length + 1 ≤ _; omega) (fun xs3 o3 hl3 hd3 => ?_)
           refine S.pure tOk zOk rfl rfl rfl ?_
           refine blockK_n ?_
           refine thenK_n ?_
           refine W.region ?_
           refine S.pure tOk zOk rfl rfl rfl ?_
           refine S.pure tOk zOk rfl rfl rfl ?_
           refine loop_n (l.length - (i + 1)) (by omega) ⟨i + 1, setL beqV sn2 (l.getD i Mv.z).t true, q2 ++ [((l.getD i Mv.z).t, a.2 ++ [i])], xs3, o3, _, hi, scan_hit f6_1 c12, stop_snoc f6_2 hd3 (stop_x (l.getD i Mv.z) a i), (by have h : o3 + (q2.length + 1) = xs3.length := hl3; rw [List.length_append]; exact h), f6_4.more hmb.e hal2 (andn c12) hso.tr, rfl, _, _, _, _, rfl, rfl, rfl, rfl, rfl, row_snoc, rfl, rfl, rfl, inc_i64 (by omega), trivial⟩
         ·skip
          refine OpZ.d ?_
          refine D.pure tOk zOk rfl rfl rfl rfl ?_
          refine WD.nil ?_
          refine AnyZ.three 2 5 7 (by kernel_rfl) rfl rfl rfl ?_ ?_ ?_
          ·skip
           refine OpZ.d ?_
           refine D.pure tOk zOk rfl rfl rfl rfl ?_
           refine WD.nil ?_
           refine AnyZ.two 5 7 (by kernel_rfl) rfl rfl ?_ ?_
           ·skip
            refine OpZ.hcall rfl rfl rfl rfl ((pc_Clone a.2 hal).frameD [] [] [] rfl rfl rfl rfl rfl rfl rfl rfl rfl) ?_
            refine AnyZ.one 7 (by kernel_rfl) rfl ?_
            refine OpZ.d ?_
            refine D.slice tOk rfl rfl ?_
            refine WD.nil ?_
            refine AnyZ.one 8 (by kernel_rfl) rfl ?_
            refine OpZ.appendV tOk rfl rfl rfl rfl rfl rfl rfl rfl rfl rfl rfl rfl (by show (intsD a.2).length + 1 ≤ _; rw [ints_len]; omega) (ints_snoc a.2 i) rfl ?_
            refine AnyZ.eager 9 rfl (by kernel_rfl) (Eag.pure tOk zOk rfl (fun _ _ _ => rfl) rfl rfl) ?_
            refine AnyZ.one 10 (by kernel_rfl) rfl ?_
            refine OpZ.d ?_
            refine D.slice tOk rfl rfl ?_
            refine WD.nil ?_
            refine AnyZ.nil (by kernel_rfl) ?_
            refine S.appendO tOk rfl rfl rfl rfl rfl rfl rfl rfl rfl f6_3 rfl rfl (by show q2.length + 1 ≤ _; omega) (fun xs3 o3 hl3 hd3 => ?_)
            refine S.pure tOk zOk rfl rfl rfl ?_
            refine blockK_n ?_
            refine thenK_n ?_
            refine W.region ?_
            refine S.pure tOk zOk rfl rfl rfl ?_
            refine S.pure tOk zOk rfl rfl rfl ?_
            refine loop_n (l.length - (i + 1)) (by omega) ⟨i + 1, setL beqV sn2 (l.getD i Mv.z).t true, q2 ++ [((l.getD i Mv.z).t, a.2 ++ [i])], xs3, o3, _, hi, scan_hit f6_1 c12, stop_snoc f6_2 hd3 (stop_x (l.getD i Mv.z) a i), (by have h : o3 + (q2.length + 1) = xs3.length := hl3; rw [List.length_append]; exact h), f6_4.more hmb.e hal2 (andn c12) hso.tr, rfl, _, _, _, _, rfl, rfl, rfl, rfl, rfl, row_snoc, rfl, rfl, rfl, inc_i64 (by omega), trivial⟩
           ·skip
            refine OpZ.d ?_
            refine D.slice tOk rfl rfl ?_
            refine WD.nil ?_
            refine AnyZ.one 5 (by kernel_rfl) rfl ?_
            refine OpZ.hcall rfl rfl rfl rfl ((pc_Clone a.2 hal).frameD [] [] [] rfl rfl rfl rfl rfl rfl rfl rfl rfl) ?_
            refine AnyZ.one 8 (by kernel_rfl) rfl ?_
            refine OpZ.appendV tOk rfl rfl rfl rfl rfl rfl rfl rfl rfl rfl rfl rfl (by show (intsD a.2).length + 1 ≤ _; rw [ints_len]; omega) (ints_snoc a.2 i) rfl ?_
            refine AnyZ.eager 9 rfl (by kernel_rfl) (Eag.pure tOk zOk rfl (fun _ _ _ => rfl) rfl rfl) ?_
            refine AnyZ.one 10 (by kernel_rfl) rfl ?_
            refine OpZ.d ?_
            refine D.slice tOk rfl rfl ?_
            refine WD.nil ?_
            refine AnyZ.nil (by kernel_rfl) ?_
            refine S.appendO tOk rfl rfl rfl rfl rfl rfl rfl rfl rfl f6_3 rfl rfl (by show q2.length + 1 ≤ _; omega) (fun xs3 o3 hl3 hd3 => ?_)
            refine S.pure tOk zOk rfl rfl rfl ?_
            refine blockK_n ?_
            refine thenK_n ?_
            refine W.region ?_
            refine S.pure tOk zOk rfl rfl rfl ?_
            refine S.pure tOk zOk rfl rfl rfl ?_
            refine loop_n (l.length - (i + 1)) (by omega) ⟨i + 1, setL beqV sn2 (l.getD i Mv.z).t true, q2 ++ [((l.getD i Mv.z).t, a.2 ++ [i])], xs3, o3, _, hi, scan_hit f6_1 c12, stop_snoc f6_2 hd3 (stop_x (l.getD i Mv.z) a i), (by have h : o3 + (q2.length + 1) = xs3.length := hl3; rw [List.length_append]; exact h), f6_4.more hmb.e hal2 (andn c12) hso.tr, rfl, _, _, _, _, rfl, rfl, rfl, rfl, rfl, row_snoc, rfl, rfl, rfl, inc_i64 (by omega), trivial⟩
          ·skip
           refine OpZ.hcall rfl rfl rfl rfl ((pc_Clone a.2 hal).frameD [] [] [] rfl rfl rfl rfl rfl rfl rfl rfl rfl) ?_
           refine AnyZ.two 2 7 (by kernel_rfl) rfl rfl ?_ ?_
           ·skip
            refine OpZ.d ?_
            refine D.pure tOk zOk rfl rfl rfl rfl ?_
            refine WD.nil ?_
            refine AnyZ.one 7 (by kernel_rfl) rfl ?_
            refine OpZ.d ?_
            refine D.slice tOk rfl rfl ?_
            refine WD.nil ?_
            refine AnyZ.one 8 (by kernel_rfl) rfl ?_
            refine OpZ.appendV tOk rfl rfl rfl rfl rfl rfl rfl rfl rfl rfl rfl rfl (by show (intsD a.2).length + 1 ≤ _; rw [ints_len]; omega) (ints_snoc a.2 i) rfl ?_
            refine AnyZ.eager 9 rfl (by kernel_rfl) (Eag.pure tOk zOk rfl (fun _ _ _ => rfl) rfl rfl) ?_
            refine AnyZ.one 10 (by kernel_rfl) rfl ?_
            refine OpZ.d ?_
            refine D.slice tOk rfl rfl ?_
            refine WD.nil ?_
            refine AnyZ.nil (by kernel_rfl) ?_
            refine S.appendO tOk rfl rfl rfl rfl rfl rfl rfl rfl rfl f6_3 rfl rfl (by show q2.length + 1 ≤ _; omega) (fun xs3 o3 hl3 hd3 => ?_)
            refine S.pure tOk zOk rfl rfl rfl ?_
            refine blockK_n ?_
            refine thenK_n ?_
            refine W.region ?_
            refine S.pure tOk zOk rfl rfl rfl ?_
            refine S.pure tOk zOk rfl rfl rfl ?_
            refine loop_n (l.length - (i + 1)) (by omega) ⟨i + 1, setL beqV sn2 (l.getD i Mv.z).t true, q2 ++ [((l.getD i Mv.z).t, a.2 ++ [i])], xs3, o3, _, hi, scan_hit f6_1 c12, stop_snoc f6_2 hd3 (stop_x (l.getD i Mv.z) a i), (by have h : o3 + (q2.length + 1) = xs3.length := hl3; rw [List.length_append]; exact h), f6_4.more hmb.e hal2 (andn c12) hso.tr, rfl, _, _, _, _, rfl, rfl, rfl, rfl, rfl, row_snoc, rfl, rfl, rfl, inc_i64 (by omega), trivial⟩
           ·skip
            refine OpZ.d ?_
            refine D.slice tOk rfl rfl ?_
            refine WD.nil ?_
            refine AnyZ.two 2 8 (by kernel_rfl) rfl rfl ?_ ?_
            ·skip
             refine OpZ.d ?_
             refine D.pure tOk zOk rfl rfl rfl rfl ?_
             refine WD.nil ?_
             refine AnyZ.one 8 (by kernel_rfl) rfl ?_
             refine OpZ.appendV tOk rfl rfl rfl rfl rfl rfl rfl rfl rfl rfl rfl rfl (by show (intsD a.2).length + 1 ≤ _; rw [ints_len]; omega) (ints_snoc a.2 i) rfl ?_
             refine AnyZ.eager 9 rfl (by kernel_rfl) (Eag.pure tOk zOk rfl (fun _ _ _ => rfl) rfl rfl) ?_
             refine AnyZ.one 10 (by kernel_rfl) rfl ?_
             refine OpZ.d ?_
             refine D.slice tOk rfl rfl ?_
             refine WD.nil ?_
             refine AnyZ.nil (by kernel_rfl) ?_
             refine S.appendO tOk rfl rfl rfl rfl rfl rfl rfl rfl rfl f6_3 rfl rfl (by show q2.length + 1 ≤ _; omega) (fun xs3 o3 hl3 hd3 => ?_)
             refine S.pure tOk zOk rfl rfl rfl ?_
             refine blockK_n ?_
             refine thenK_n ?_
             refine W.region ?_
             refine S.pure tOk zOk rfl rfl rfl ?_
             refine S.pure tOk zOk rfl rfl rfl ?_
             refine loop_n (l.length - (i + 1)) (by omega) ⟨i + 1, setL beqV sn2 (l.getD i Mv.z).t true, q2 ++ [((l.getD i Mv.z).t, a.2 ++ [i])], xs3, o3, _, hi, scan_hit f6_1 c12, stop_snoc f6_2 hd3 (stop_x (l.getD i Mv.z) a i), (by have h : o3 + (q2.length + 1) = xs3.length := hl3; rw [List.length_append]; exact h), f6_4.more hmb.e hal2 (andn c12) hso.tr, rfl, _, _, _, _, rfl, rfl, rfl, rfl, rfl, row_snoc, rfl, rfl, rfl, inc_i64 (by omega), trivial⟩
            ·skip
             refine OpZ.appendV tOk rfl rfl rfl rfl rfl rfl rfl rfl rfl rfl rfl rfl (by show (intsD a.2).length + 1 ≤ _; rw [ints_len]; omega) (ints_snoc a.2 i) rfl ?_
             refine AnyZ.one 2 (by kernel_rfl) rfl ?_
             refine OpZ.d ?_
             refine D.pure tOk zOk rfl rfl rfl rfl ?_
             refine WD.nil ?_
             refine AnyZ.eager 9 rfl (by kernel_rfl) (Eag.pure tOk zOk rfl (fun _ _ _ => rfl) rfl rfl) ?_
             refine AnyZ.one 10 (by kernel_rfl) rfl ?_
             refine OpZ.d ?_
             refine D.slice tOk rfl rfl ?_
             refine WD.nil ?_
             refine AnyZ.nil (by kernel_rfl) ?_
             refine S.appendO tOk rfl rfl rfl rfl rfl rfl rfl rfl rfl f6_3 rfl rfl (by show q2.length + 1 ≤ _; omega) (fun xs3 o3 hl3 hd3 => ?_)
             refine S.pure tOk zOk rfl rfl rfl ?_
             refine blockK_n ?_
             refine thenK_n ?_
             refine W.region ?_
             refine S.pure tOk zOk rfl rfl rfl ?_
             refine S.pure tOk zOk rfl rfl rfl ?_
             refine loop_n (l.length - (i + 1)) (by omega) ⟨i + 1, setL beqV sn2 (l.getD i Mv.z).t true, q2 ++ [((l.getD i Mv.z).t, a.2 ++ [i])], xs3, o3, _, hi, scan_hit f6_1 c12, stop_snoc f6_2 hd3 (stop_x (l.getD i Mv.z) a i), (by have h : o3 + (q2.length + 1) = xs3.length := hl3; rw [List.length_append]; exact h), f6_4.more hmb.e hal2 (andn c12) hso.tr, rfl, _, _, _, _, rfl, rfl, rfl, rfl, rfl, row_snoc, rfl, rfl, rfl, inc_i64 (by omega), trivial⟩
          ·skip
           refine OpZ.d ?_
           refine D.slice tOk rfl rfl ?_
           refine WD.nil ?_
           refine AnyZ.two 2 5 (by kernel_rfl) rfl rfl ?_ ?_
           ·skip
            refine OpZ.d ?_
            refine D.pure tOk zOk rfl rfl rfl rfl ?_
            refine WD.nil ?_
            refine AnyZ.one 5 (by kernel_rfl) rfl ?_
            refine OpZ.hcall rfl rfl rfl rfl ((pc_Clone a.2 hal).frameD [] [] [] rfl rfl rfl rfl rfl rfl rfl rfl rfl) ?_
            refine AnyZ.one 8 (by kernel_rfl) rfl ?_
            refine OpZ.appendV tOk rfl rfl rfl rfl rfl rfl rfl rfl rfl rfl rfl rfl (by show (intsD a.2).length + 1 ≤ _; rw [ints_len]; omega) (ints_snoc a.2 i) rfl ?_
            refine AnyZ.eager 9 rfl (by kernel_rfl) (Eag.pure tOk zOk rfl (fun _ _ _ => rfl) rfl rfl) ?_
            refine AnyZ.one 10 (by kernel_rfl) rfl ?_
            refine OpZ.d ?_
            refine D.slice tOk rfl rfl ?_
            refine WD.nil ?_
            refine AnyZ.nil (by kernel_rfl) ?_
            refine S.appendO tOk rfl rfl rfl rfl rfl rfl rfl rfl rfl f6_3 rfl rfl (by show q2.length + 1 ≤ _; omega) (fun xs3 o3 hl3 hd3 => ?_)
            refine S.pure tOk zOk rfl rfl rfl ?_
            refine blockK_n ?_
            refine thenK_n ?_
            refine W.region ?_
            refine S.pure tOk zOk rfl rfl rfl ?_
            refine S.pure tOk zOk rfl rfl rfl ?_
            refine loop_n (l.length - (i + 1)) (by omega) ⟨i + 1, setL beqV sn2 (l.getD i Mv.z).t true, q2 ++ [((l.getD i Mv.z).t, a.2 ++ [i])], xs3, o3, _, hi, scan_hit f6_1 c12, stop_snoc f6_2 hd3 (stop_x (l.getD i Mv.z) a i), (by have h : o3 + (q2.length + 1) = xs3.length := hl3; rw [List.length_append]; exact h), f6_4.more hmb.e hal2 (andn c12) hso.tr, rfl, _, _, _, _, rfl, rfl, rfl, rfl, rfl, row_snoc, rfl, rfl, rfl, inc_i64 (by omega), trivial⟩
           ·skip
            refine OpZ.hcall rfl rfl rfl rfl ((pc_Clone a.2 hal).frameD [] [] [] rfl rfl rfl rfl rfl rfl rfl rfl rfl) ?_
            refine AnyZ.two 2 8 (by kernel_rfl) rfl rfl ?_ ?_
            ·skip
             refine OpZ.d ?_
             refine D.pure tOk zOk rfl rfl rfl rfl ?_
             refine WD.nil ?_
             refine AnyZ.one 8 (by kernel_rfl) rfl ?_
             refine OpZ.appendV tOk rfl rfl rfl rfl rfl rfl rfl rfl rfl rfl rfl rfl (by show (intsD a.2).length + 1 ≤ _; rw [ints_len]; omega) (ints_snoc a.2 i) rfl ?_
             refine AnyZ.eager 9 rfl (by kernel_rfl) (Eag.pure tOk zOk rfl (fun _ _ _ => rfl) rfl rfl) ?_
             refine AnyZ.one 10 (by kernel_rfl) rfl ?_
             refine OpZ.d ?_
             refine D.slice tOk rfl rfl ?_
             refine WD.nil ?_
             refine AnyZ.nil (by kernel_rfl) ?_
             refine S.appendO tOk rfl rfl rfl rfl rfl rfl rfl rfl rfl f6_3 rfl rfl (by show q2.length + 1 ≤ _; omega) (fun xs3 o3 hl3 hd3 => ?_)
             refine S.pure tOk zOk rfl rfl rfl ?_
             refine blockK_n ?_
             refine thenK_n ?_
             refine W.region ?_
             refine S.pure tOk zOk rfl rfl rfl ?_
             refine S.pure tOk zOk rfl rfl rfl ?_
             refine loop_n (l.length - (i + 1)) (by omega) ⟨i + 1, setL beqV sn2 (l.getD i Mv.z).t true, q2 ++ [((l.getD i Mv.z).t, a.2 ++ [i])], xs3, o3, _, hi, scan_hit f6_1 c12, stop_snoc f6_2 hd3 (stop_x (l.getD i Mv.z) a i), (by have h : o3 + (q2.length + 1) = xs3.length := hl3; rw [List.length_append]; exact h), f6_4.more hmb.e hal2 (andn c12) hso.tr, rfl, _, _, _, _, rfl, rfl, rfl, rfl, rfl, row_snoc, rfl, rfl, rfl, inc_i64 (by omega), trivial⟩
            ·skip
             refine OpZ.appendV tOk rfl rfl rfl rfl rfl rfl rfl rfl rfl rfl rfl rfl (by show (intsD a.2).length + 1 ≤ _; rw [ints_len]; omega) (ints_snoc a.2 i) rfl ?_
             refine AnyZ.one 2 (by kernel_rfl) rfl ?_
             refine OpZ.d ?_
             refine D.pure tOk zOk rfl rfl rfl rfl ?_
             refine WD.nil ?_
             refine AnyZ.eager 9 rfl (by kernel_rfl) (Eag.pure tOk zOk rfl (fun _ _ _ => rfl) rfl rfl) ?_
             refine AnyZ.one 10 (by kernel_rfl) rfl ?_
             refine OpZ.d ?_
             refine D.slice tOk rfl rfl ?_
             refine WD.nil ?_
             refine AnyZ.nil (by kernel_rfl) ?_
             refine S.appendO tOk rfl rfl rfl rfl rfl rfl rfl rfl rfl f6_3 rfl rfl (by show q2.length + 1 ≤ _; omega) (fun xs3 o3 hl3 hd3 => ?_)
             refine S.pure tOk zOk rfl rfl rfl ?_
             refine blockK_n ?_
             refine thenK_n ?_
             refine W.region ?_
             refine S.pure tOk zOk rfl rfl rfl ?_
             refine S.pure tOk zOk rfl rfl rfl ?_
             refine loop_n (l.length - (i + 1)) (by omega) ⟨i + 1, setL beqV sn2 (l.getD i Mv.z).t true, q2 ++ [((l.getD i Mv.z).t, a.2 ++ [i])], xs3, o3, _, hi, scan_hit f6_1 c12, stop_snoc f6_2 hd3 (stop_x (l.getD i Mv.z) a i), (by have h : o3 + (q2.length + 1) = xs3.length := hl3; rw [List.length_append]; exact h), f6_4.more hmb.e hal2 (andn c12) hso.tr, rfl, _, _, _, _, rfl, rfl, rfl, rfl, rfl, row_snoc, rfl, rfl, rfl, inc_i64 (by omega), trivial⟩
         ·skip
          refine OpZ.d ?_
          refine D.slice tOk rfl rfl ?_
          refine WD.nil ?_
          refine AnyZ.two 2 4 (by kernel_rfl) rfl rfl ?_ ?_
          ·skip
           refine OpZ.d ?_
           refine D.pure tOk zOk rfl rfl rfl rfl ?_
           refine WD.nil ?_
           refine AnyZ.one 4 (by kernel_rfl) rfl ?_
           refine OpZ.d ?_
           refine D.pure tOk zOk rfl rfl rfl rfl ?_
           refine WD.nil ?_
           refine AnyZ.one 5 (by kernel_rfl) rfl ?_
           refine OpZ.hcall rfl rfl rfl rfl ((pc_Clone a.2 hal).frameD [] [] [] rfl rfl rfl rfl rfl rfl rfl rfl rfl) ?_
           refine AnyZ.one 8 (by kernel_rfl) rfl ?_
           refine OpZ.appendV tOk rfl rfl rfl rfl rfl rfl rfl rfl rfl rfl rfl rfl (by show (intsD a.2).length + 1 ≤ _; rw [ints_len]; omega) (ints_snoc a.2 i) rfl ?_
           refine AnyZ.eager 9 rfl (by kernel_rfl) (Eag.pure tOk zOk rfl (fun _ _ _ => rfl) rfl rfl) ?_
           refine AnyZ.one 10 (by kernel_rfl) rfl ?_
           refine OpZ.d ?_
           refine D.slice tOk rfl rfl ?_
           refine WD.nil ?_
           refine AnyZ.nil (by kernel_rfl) ?_
           refine S.appendO tOk rfl rfl rfl rfl rfl rfl rfl rfl rfl f6_3 rfl rfl (by show q2.length + 1 ≤ _; omega) (fun xs3 o3 hl3 hd3 => ?_)
           refine S.pure tOk zOk rfl rfl rfl ?_
           refine blockK_n ?_
           refine thenK_n ?_
           refine W.region ?_
           refine S.pure tOk zOk rfl rfl rfl ?_
           refine S.pure tOk zOk rfl rfl rfl ?_
           refine loop_n (l.length - (i + 1)) (by omega) ⟨i + 1, setL beqV sn2 (l.getD i Mv.z).t true, q2 ++ [((l.getD i Mv.z).t, a.2 ++ [i])], xs3, o3, _, hi, scan_hit f6_1 c12, stop_snoc f6_2 hd3 (stop_x (l.getD i Mv.z) a i), (by have h : o3 + (q2.length + 1) = xs3.length := hl3; rw [List.length_append]; exact h), f6_4.more hmb.e hal2 (andn c12) hso.tr, rfl, _, _, _, _, rfl, rfl, rfl, rfl, rfl, row_snoc, rfl, rfl, rfl, inc_i64 (by omega), trivial⟩
          ·skip
           refine OpZ.d ?_
           refine D.pure tOk zOk rfl rfl rfl rfl ?_
           refine WD.nil ?_
           refine AnyZ.two 2 5 (by kernel_rfl) rfl rfl ?_ ?_
           ·skip
            refine OpZ.d ?_
            refine D.pure tOk zOk rfl rfl rfl rfl ?_
            refine WD.nil ?_
            refine AnyZ.one 5 (by kernel_rfl) rfl ?_
            refine OpZ.hcall rfl rfl rfl rfl ((pc_Clone a.2 hal).frameD [] [] [] rfl rfl rfl rfl rfl rfl rfl rfl rfl) ?_
            refine AnyZ.one 8 (by kernel_rfl) rfl ?_
            refine OpZ.appendV tOk rfl rfl rfl rfl rfl rfl rfl rfl rfl rfl rfl rfl (by show (intsD a.2).length + 1 ≤ _; rw [ints_len]; omega) (ints_snoc a.2 i) rfl ?_
            refine AnyZ.eager 9 rfl (by kernel_rfl) (Eag.pure tOk zOk rfl (fun _ _ _ => rfl) rfl rfl) ?_
            refine AnyZ.one 10 (by kernel_rfl) rfl ?_
            refine OpZ.d ?_
            refine D.slice tOk rfl rfl ?_
            refine WD.nil ?_
            refine AnyZ.nil (by kernel_rfl) ?_
            refine S.appendO tOk rfl rfl rfl rfl rfl rfl rfl rfl rfl f6_3 rfl rfl (by show q2.length + 1 ≤ _; omega) (fun xs3 o3 hl3 hd3 => ?_)
            refine S.pure tOk zOk rfl rfl rfl ?_
            refine blockK_n ?_
            refine thenK_n ?_
            refine W.region ?_
            refine S.pure tOk zOk rfl rfl rfl ?_
            refine S.pure tOk zOk rfl rfl rfl ?_
            refine loop_n (l.length - (i + 1)) (by omega) ⟨i + 1, setL beqV sn2 (l.getD i Mv.z).t true, q2 ++ [((l.getD i Mv.z).t, a.2 ++ [i])], xs3, o3, _, hi, scan_hit f6_1 c12, stop_snoc f6_2 hd3 (stop_x (l.getD i Mv.z) a i), (by have h : o3 + (q2.length + 1) = xs3.length := hl3; rw [List.length_append]; exact h), f6_4.more hmb.e hal2 (andn c12) hso.tr, rfl, _, _, _, _, rfl, rfl, rfl, rfl, rfl, row_snoc, rfl, rfl, rfl, inc_i64 (by omega), trivial⟩
           ·skip
            refine OpZ.hcall rfl rfl rfl rfl ((pc_Clone a.2 hal).frameD [] [] [] rfl rfl rfl rfl rfl rfl rfl rfl rfl) ?_
            refine AnyZ.two 2 8 (by kernel_rfl) rfl rfl ?_ ?_
            ·skip
             refine OpZ.d ?_
             refine D.pure tOk zOk rfl rfl rfl rfl ?_
             refine WD.nil ?_
             refine AnyZ.one 8 (by kernel_rfl) rfl ?_
             refine OpZ.appendV tOk rfl rfl rfl rfl rfl rfl rfl rfl rfl rfl rfl rfl (by show (intsD a.2).length + 1 ≤ _; rw [ints_len]; omega) (ints_snoc a.2 i) rfl ?_
             refine AnyZ.eager 9 rfl (by kernel_rfl) (Eag.pure tOk zOk rfl (fun _ _ _ => rfl) rfl rfl) ?_
             refine AnyZ.one 10 (by kernel_rfl) rfl ?_
             refine OpZ.d ?_
             refine D.slice tOk rfl rfl ?_
             refine WD.nil ?_
             refine AnyZ.nil (by kernel_rfl) ?_
             refine S.appendO tOk rfl rfl rfl rfl rfl rfl rfl rfl rfl f6_3 rfl rfl (by show q2.length + 1 ≤ _; omega) (fun xs3 o3 hl3 hd3 => ?_)
             refine S.pure tOk zOk rfl rfl rfl ?_
             refine blockK_n ?_
             refine thenK_n ?_
             refine W.region ?_
             refine S.pure tOk zOk rfl rfl rfl ?_
             refine S.pure tOk zOk rfl rfl rfl ?_
             refine loop_n (l.length - (i + 1)) (by omega) ⟨i + 1, setL beqV sn2 (l.getD i Mv.z).t true, q2 ++ [((l.getD i Mv.z).t, a.2 ++ [i])], xs3, o3, _, hi, scan_hit f6_1 c12, stop_snoc f6_2 hd3 (stop_x (l.getD i Mv.z) a i), (by have h : o3 + (q2.length + 1) = xs3.length := hl3; rw [List.length_append]; exact h), f6_4.more hmb.e hal2 (andn c12) hso.tr, rfl, _, _, _, _, rfl, rfl, rfl, rfl, rfl, row_snoc, rfl, rfl, rfl, inc_i64 (by omega), trivial⟩
            ·skip
             refine OpZ.appendV tOk rfl rfl rfl rfl rfl rfl rfl rfl rfl rfl rfl rfl (by show (intsD a.2).length + 1 ≤ _; rw [ints_len]; omega) (ints_snoc a.2 i) rfl ?_
             refine AnyZ.one 2 (by kernel_rfl) rfl ?_
             refine OpZ.d ?_
             refine D.pure tOk zOk rfl rfl rfl rfl ?_
             refine WD.nil ?_
             refine AnyZ.eager 9 rfl (by kernel_rfl) (Eag.pure tOk zOk rfl (fun _ _ _ => rfl) rfl rfl) ?_
             refine AnyZ.one 10 (by kernel_rfl) rfl ?_
             refine OpZ.d ?_
             refine D.slice tOk rfl rfl ?_
             refine WD.nil ?_
             refine AnyZ.nil (by kernel_rfl) ?_
             refine S.appendO tOk rfl rfl rfl rfl rfl rfl rfl rfl rfl f6_3 rfl rfl (by show q2.length + 1 ≤ _; omega) (fun xs3 o3 hl3 hd3 => ?_)
             refine S.pure tOk zOk rfl rfl rfl ?_
             refine blockK_n ?_
             refine thenK_n ?_
             refine W.region ?_
             refine S.pure tOk zOk rfl rfl rfl ?_
             refine S.pure tOk zOk rfl rfl rfl ?_
             refine loop_n (l.length - (i + 1)) (by omega) ⟨i + 1, setL beqV sn2 (l.getD i Mv.z).t true, q2 ++ [((l.getD i Mv.z).t, a.2 ++ [i])], xs3, o3, _, hi, scan_hit f6_1 c12, stop_snoc f6_2 hd3 (stop_x (l.getD i Mv.z) a i), (by have h : o3 + (q2.length + 1) = xs3.length := hl3; rw [List.length_append]; exact h), f6_4.more hmb.e hal2 (andn c12) hso.tr, rfl, _, _, _, _, rfl, rfl, rfl, rfl, rfl, row_snoc, rfl, rfl, rfl, inc_i64 (by omega), trivial⟩
        ·skip
         refine W.skip ?_
         refine blockK_n ?_
         refine thenK_n ?_
         refine W.region ?_
         refine S.pure tOk zOk rfl rfl rfl ?_
         refine S.pure tOk zOk rfl rfl rfl ?_
         refine loop_n (l.length - (i + 1)) (by omega) ⟨i + 1, sn2, q2, xs2, o2, _, hi, scan_miss f6_1 c12, f6_2, f6_3, f6_4, rfl, _, _, _, _, rfl, rfl, rfl, rfl, rfl, rfl, rfl, rfl, rfl, inc_i64 (by omega), trivial⟩
       ·skip
        have hi := row_ge c11
        obtain rfl : i = l.length := by omega
        have hmo := scan_more l a (sn, a :: q) l.length
        rw [f6_1] at hmo
        rcases q2 with _ | ⟨x, q3⟩
        ·skip
         simp at hmo
        refine W.exit ?_
        refine thenK_e ?_
        refine thenK_e ?_
        refine blockK_x ?_
        refine blockK_n ?_
        refine thenK_n ?_
        refine W.region ?_
        refine S.pure tOk zOk rfl rfl rfl ?_
        rcases q3 with _ | ⟨y, q4⟩
        ·skip
         refine S.sliceRowE tOk 5 rfl rfl rfl rfl rfl rfl rfl rfl rfl (Nat.succ_pos _) ?_
         refine S.pure tOk zOk rfl rfl rfl ?_
         refine loop_n (n) (by omega) ⟨n, sn2, [], xs2, o2 + 1, 0, (by have h := f4_0.next a (by simp); rw [f6_1] at h; exact h), (by rw [← f4_1, bfs_next c10, f6_1]; rfl), (fun _ => ⟨drop_next f6_2, by have := f6_3; simp at this ⊢; omega⟩), (fun s hs => f6_4 s (List.mem_cons_of_mem _ hs)), (by omega), rfl, _, _, _, _, rfl, rfl, rfl, rfl, rfl, rfl, trivial⟩
        refine S.sliceRow tOk 1 (q4.length + 1 + 1) rfl rfl rfl rfl rfl rfl rfl rfl rfl rfl ⟨by omega, Nat.le_refl _, (by show 1 < q4.length + 1 + 1; omega)⟩ rfl (show _ = q4.length + 1 from rfl) ?_
        refine S.pure tOk zOk rfl rfl rfl ?_
        refine loop_n (n) (by omega) ⟨n, sn2, y :: q4, xs2, o2 + 1, 0, (by have h := f4_0.next a (by simp); rw [f6_1] at h; exact h), (by rw [← f4_1, bfs_next c10, f6_1]; rfl), (fun _ => ⟨drop_next f6_2, by have := f6_3; simp at this ⊢; omega⟩), (fun s hs => f6_4 s (List.mem_cons_of_mem _ hs)), (by omega), rfl, _, _, _, _, rfl, rfl, rfl, rfl, rfl, rfl, trivial⟩
     ·skip
      exact absurd (show ((ql : Int) > 0) by omega) (of_decide_eq_false c9)
end Go.Proofs.YtcchfmilleffjaaGreatDoor
/-
  DERIVED: THE SHELF's CONTRACTS AT THIS DUMP, IN PLAIN WORDS (tools/lay-plain.mjs out of 'TryzShelfK.lean', which tools/lay-shelf.mjs wrote): THE SAME DECLARATIONS UNDER THE SAME NAMES: 'import', 'namespace', 'open', 'def', 'theorem' AND NOTHING ELSE: no command of the shelf's: FOR A HAND-IN. Each laying: the table of numbers ('.._ren') and one theorem, a field a fact of the dump's own or the kernel's comparison; each contract: ONE APPLICATION.
-/
namespace Go.Proofs
open Go.Shelf
def Tryz.sort167_ren : Go.Shelf.Ren := ⟨fun | 6 => 167 | 8 => 215 | 9 => 214 | 19 => 261 | 20 => 262 | 21 => 252 | 22 => 253 | 23 => 254 | 24 => 255 | 25 => 256 | 26 => 257 | 27 => 258 | 28 => 259 | 29 => 260 | 36 => 276 | 31 => 277 | 32 => 278 | 37 => 279 | 38 => 280 | 39 => 281 | 41 => 291 | n => n, fun | 27 => 71 | 29 => 9 | 3 => 3 | 32 => 242 | 26 => 71 | 0 => 0 | 44 => 281 | 46 => 297 | 4 => 4 | 36 => 290 | 35 => 289 | 41 => 261 | 5 => 5 | 9 => 9 | 53 => 315 | 57 => 319 | 63 => 337 | 64 => 338 | n => n, fun | n => n⟩
theorem Tryz.sort167 : Go.Proofs.SlLaysM.n6 Tryz.prog Tryz.sort167_ren := {
  mixed := by kernel_rfl
  f6 := ⟨Tryz.f167.name, by decide, Tryz.func167.trans (congrArg some (by kernel_rfl))⟩
  f8 := Tryz.func215.trans (congrArg some (by kernel_rfl))
  f9 := ⟨Tryz.f214.name, by decide, Tryz.func214.trans (congrArg some (by kernel_rfl))⟩
  f19 := Tryz.func261.trans (congrArg some (by kernel_rfl))
  f20 := Tryz.func262.trans (congrArg some (by kernel_rfl))
  f21 := ⟨Tryz.f252.name, by decide, Tryz.func252.trans (congrArg some (by kernel_rfl))⟩
  f22 := ⟨Tryz.f253.name, by decide, Tryz.func253.trans (congrArg some (by kernel_rfl))⟩
  f23 := ⟨Tryz.f254.name, by decide, Tryz.func254.trans (congrArg some (by kernel_rfl))⟩
  f24 := ⟨Tryz.f255.name, by decide, Tryz.func255.trans (congrArg some (by kernel_rfl))⟩
  f25 := ⟨Tryz.f256.name, by decide, Tryz.func256.trans (congrArg some (by kernel_rfl))⟩
  f26 := ⟨Tryz.f257.name, by decide, Tryz.func257.trans (congrArg some (by kernel_rfl))⟩
  f27 := ⟨Tryz.f258.name, by decide, Tryz.func258.trans (congrArg some (by kernel_rfl))⟩
  f28 := ⟨Tryz.f259.name, by decide, Tryz.func259.trans (congrArg some (by kernel_rfl))⟩
  f29 := ⟨Tryz.f260.name, by decide, Tryz.func260.trans (congrArg some (by kernel_rfl))⟩
  f31 := Tryz.func277.trans (congrArg some (by kernel_rfl))
  f32 := Tryz.func278.trans (congrArg some (by kernel_rfl))
  f36 := ⟨Tryz.f276.name, by decide, Tryz.func276.trans (congrArg some (by kernel_rfl))⟩
  f37 := ⟨Tryz.f279.name, by decide, Tryz.func279.trans (congrArg some (by kernel_rfl))⟩
  f38 := ⟨Tryz.f280.name, by decide, Tryz.func280.trans (congrArg some (by kernel_rfl))⟩
  f39 := ⟨Tryz.f281.name, by decide, Tryz.func281.trans (congrArg some (by kernel_rfl))⟩
  f41 := ⟨Tryz.f291.name, by decide, Tryz.func291.trans (congrArg some (by kernel_rfl))⟩
  t0 := Tryz.underlying0
  a0 := Tryz.isAgg0
  z0 := Tryz.sizeOf0
  v0 := Tryz.zeroValue0
  t3 := Tryz.underlying3
  a3 := Tryz.isAgg3
  z3 := Tryz.sizeOf3
  v3 := Tryz.zeroValue3
  t4 := Tryz.underlying4
  a4 := Tryz.isAgg4
  z4 := Tryz.sizeOf4
  v4 := Tryz.zeroValue4
  t5 := Tryz.underlying5
  a5 := Tryz.isAgg5
  z5 := Tryz.sizeOf5
  v5 := Tryz.zeroValue5
  t9 := Tryz.underlying9
  a9 := Tryz.isAgg9
  z9 := Tryz.sizeOf9
  v9 := Tryz.zeroValue9
  t26 := Tryz.underlying71
  a26 := Tryz.isAgg71
  z26 := Tryz.sizeOf71
  v26 := Tryz.zeroValue71
  t27 := Tryz.underlying71
  a27 := Tryz.isAgg71
  z27 := Tryz.sizeOf71
  v27 := Tryz.zeroValue71
  t29 := Tryz.underlying9
  a29 := Tryz.isAgg9
  z29 := Tryz.sizeOf9
  v29 := Tryz.zeroValue9
  t32 := Tryz.underlying242
  a32 := Tryz.isAgg242
  z32 := Tryz.sizeOf242
  v32 := Tryz.zeroValue242
  t35 := Tryz.underlying289
  a35 := Tryz.isAgg289
  z35 := Tryz.sizeOf289
  v35 := Tryz.zeroValue289
  t36 := Tryz.underlying290
  a36 := Tryz.isAgg290
  z36 := Tryz.sizeOf290
  v36 := Tryz.zeroValue290
  t41 := Tryz.underlying261
  a41 := Tryz.isAgg261
  z41 := Tryz.sizeOf261
  v41 := Tryz.zeroValue261
  t44 := Tryz.underlying281
  a44 := Tryz.isAgg281
  z44 := Tryz.sizeOf281
  v44 := Tryz.zeroValue281
  t46 := Tryz.underlying297
  a46 := Tryz.isAgg297
  z46 := Tryz.sizeOf297
  v46 := Tryz.zeroValue297
  t53 := Tryz.underlying315
  a53 := Tryz.isAgg315
  z53 := Tryz.sizeOf315
  v53 := Tryz.zeroValue315
  t57 := Tryz.underlying319
  a57 := Tryz.isAgg319
  z57 := Tryz.sizeOf319
  v57 := Tryz.zeroValue319
  t63 := Tryz.underlying337
  a63 := Tryz.isAgg337
  z63 := Tryz.sizeOf337
  v63 := Tryz.zeroValue337
  t64 := Tryz.underlying338
  a64 := Tryz.isAgg338
  z64 := Tryz.sizeOf338
  v64 := Tryz.zeroValue338 }
def Tryz.sorted117_ren : Go.Shelf.Ren := ⟨fun | 6 => 117 | 8 => 166 | 9 => 167 | 11 => 213 | 13 => 215 | 12 => 214 | 23 => 261 | 24 => 262 | 14 => 252 | 15 => 253 | 16 => 254 | 17 => 255 | 18 => 256 | 19 => 257 | 20 => 258 | 21 => 259 | 22 => 260 | 25 => 276 | 26 => 277 | 27 => 278 | 28 => 279 | 29 => 280 | 30 => 281 | 31 => 291 | n => n, fun | 26 => 9 | 28 => 165 | 24 => 71 | 0 => 0 | 3 => 3 | 37 => 242 | 48 => 281 | 50 => 297 | 4 => 4 | 40 => 290 | 39 => 289 | 45 => 261 | 5 => 5 | 9 => 9 | 51 => 315 | 55 => 319 | 57 => 337 | 58 => 338 | 33 => 89 | n => n, fun | n => n⟩
theorem Tryz.sorted117 : Go.Proofs.SlLaysZ.n6 Tryz.prog Tryz.sorted117_ren := {
  mixed := by kernel_rfl
  f6 := ⟨Tryz.f117.name, by decide, Tryz.func117.trans (congrArg some (by kernel_rfl))⟩
  f8 := ⟨Tryz.f166.name, by decide, Tryz.func166.trans (congrArg some (by kernel_rfl))⟩
  f11 := ⟨Tryz.f213.name, by decide, Tryz.func213.trans (congrArg some (by kernel_rfl))⟩
  t0 := Tryz.underlying0
  a0 := Tryz.isAgg0
  z0 := Tryz.sizeOf0
  v0 := Tryz.zeroValue0
  t24 := Tryz.underlying71
  a24 := Tryz.isAgg71
  z24 := Tryz.sizeOf71
  v24 := Tryz.zeroValue71
  t26 := Tryz.underlying9
  a26 := Tryz.isAgg9
  z26 := Tryz.sizeOf9
  v26 := Tryz.zeroValue9
  t28 := Tryz.underlying165
  a28 := Tryz.isAgg165
  z28 := Tryz.sizeOf165
  v28 := Tryz.zeroValue165
  i26 := by kernel_rfl }
def Tryz.keys118_ren : Go.Shelf.Ren := ⟨fun | 7 => 118 | 10 => 168 | n => n, fun | 23 => 111 | 26 => 9 | 3 => 9 | 28 => 165 | 0 => 0 | 27 => 164 | 33 => 89 | 4 => 4 | n => n, fun | n => n⟩
theorem Tryz.keys118 : Go.Proofs.SlLaysZ.n7 Tryz.prog Tryz.keys118_ren := {
  mixed := by kernel_rfl
  f7 := ⟨Tryz.f118.name, by decide, Tryz.func118.trans (congrArg some (by kernel_rfl))⟩
  f10 := ⟨Tryz.f168.name, by decide, Tryz.func168.trans (congrArg some (by kernel_rfl))⟩
  t0 := Tryz.underlying0
  a0 := Tryz.isAgg0
  z0 := Tryz.sizeOf0
  v0 := Tryz.zeroValue0
  t4 := Tryz.underlying4
  a4 := Tryz.isAgg4
  z4 := Tryz.sizeOf4
  v4 := Tryz.zeroValue4
  t23 := Tryz.underlying111
  a23 := Tryz.isAgg111
  z23 := Tryz.sizeOf111
  v23 := Tryz.zeroValue111
  t26 := Tryz.underlying9
  a26 := Tryz.isAgg9
  z26 := Tryz.sizeOf9
  v26 := Tryz.zeroValue9
  t27 := Tryz.underlying164
  a27 := Tryz.isAgg164
  z27 := Tryz.sizeOf164
  v27 := Tryz.zeroValue164
  t28 := Tryz.underlying165
  a28 := Tryz.isAgg165
  z28 := Tryz.sizeOf165
  v28 := Tryz.zeroValue165
  t33 := Tryz.underlying89
  a33 := Tryz.isAgg89
  z33 := Tryz.sizeOf89
  v33 := Tryz.zeroValue89 }
end Go.Proofs
namespace Go.Proofs.YtcchfmilleffjaaGreatDoor
open Go Go.RowKit Go.Maps Go.Sort Go.Shelf
theorem sorts_in (m : Nat) : AnyZ.SortsIn Tryz.prog Tryz.sorted117_ren Fence.wide m :=
  ⟨fun blk off cap ss W hH hblk hsz => callsIn_wide.2 (AnyM.slices_Sort_string Tryz.sort167 blk off cap ss W hH hblk hsz), fun p cap W => callsIn_wide.2 (AnyM.slices_Sort_string_none Tryz.sort167 p cap W)⟩
set_option maxHeartbeats 1000000 in
theorem so_118 : SortedOk Tryz.prog 117 168 9 := fun b nn Bm D0 R w hB hc hown hmax hbytes => by
  have hseq : SeqGives Fence.wide 2 Tryz.prog 168 #[.pointer (some ⟨Bm, 0, none⟩)] encStr (fun ss => ss.Perm (strKeys D0)) (Maps.size D0) w :=
    AnyZ.keys_gives (ρ := Tryz.keys118_ren) { Tryz.keys118 with } Fence.wide _ trivial rfl (by omega) Bm b nn D0 _ hB hc hown
  refine (callsIn_wide.1 (AnyZ.sorted_in Tryz.sorted117 Fence.wide 5 trivial trivial trivial trivial rfl (by omega) (sorts_in _) (enters_of Tryz.func167 (by kernel_rfl) rfl) 168 #[.pointer (some ⟨Bm, 0, none⟩)] trivial (enters_of Tryz.func168 (by kernel_rfl) rfl) _ _ hmax hbytes _ hseq)).mono ?_
  rintro e w' ⟨v, ss, he, hp, hrow, _, hb⟩
  exact ⟨v, ss, he, hp, hrow, hb⟩
theorem pc_Sorted_118 {β : Type} {fD : β → DV} (tab : List (List UInt8 × β)) (hn : tab.length * 16 ≤ 140737488355328) (hl : ∀ x ∈ tab, x.1.length ≤ maxLen) (hd : (tab.map (·.1)).Nodup) :
    HCall Tryz.prog J 117 [.one (.clo 168 [.ptr 0 0])] [[.map 0]] [] [mapOf D.str fD tab] (isH (.one (.d (strsD (sortS (tab.map (·.1)))))) [[.map 0]] [] [mapOf D.str fD tab]) :=
  HCall.sorted so_118 (by kernel_rfl) Tryz.func117 (by kernel_rfl) (by kernel_rfl) tab hn hl hd
end Go.Proofs.YtcchfmilleffjaaGreatDoor
namespace Go.Proofs.YtcchfmilleffjaaGreatDoor
open Go
open Go.RowKit
attribute [local irreducible] rangeB pathB nameB valueB firstNe tailOf listT ndT lk badP keysT
theorem pc_CopyT (dst src : Tab) (hd : ndT dst) (hs : ndT src) :
  HCall Tryz.prog J 165 ([.one (.map 0), .one (.map 1)]) ([]) ([]) ([tabD dst, tabD src]) (isX (X := Tab) (fun tab => EqT tab (copyT src dst)) (fun tab => .tup []) (fun tab => []) (fun tab => []) (fun tab => [tabD tab, tabD src])) := by
 refine HCall.ofX tOk (fun _ => ⟨0, 0, 2⟩) (fn := Tryz.f165) Tryz.func165 (by kernel_rfl) rfl (Nat.le_of_ble_eq_true rfl) (fun E => ?_)
 refine W.forMap (enc := D.str) (fD := fun v : List UInt8 => DV.one (.str v)) (l0 := src) (mi := 1) tOk (fun q M dn st => ∃ tab : Tab, ndT tab ∧ lk tab = orF (lk dn) (lk dst) ∧ st = ⟨ofL [(7, .one (.d (.raw q))), (0, .one (.map 0)), (1, .one (.map 1))], [], [], [tabD tab, M]⟩) 1 rfl rfl rfl (by rintro q M dn _ ⟨tab, f0_0, f0_1, rfl⟩; exact ⟨rfl, rfl⟩) ⟨rfl, rfl, rfl, rfl⟩ ?_ ?_ ?_
 ·skip
  refine S.pure tOk zOk rfl rfl rfl ?_
  refine WL.nil ?_
  exact ⟨rfl, rfl, fun q M => ⟨_, ⟨dst, hd, orF_nil _, rfl⟩, Wk.keep rfl ⟨rfl, rfl, rfl, trivial⟩ rfl⟩⟩
 ·skip
  rintro q M dn _ j0 c1000 born0 y rest E1 ⟨tab, f0_0, f0_1, rfl⟩ hE0 hst0 hp un0
  refine W.keep [(7, .one (.d (.raw q))), (0, .one (.map 0)), (1, .one (.map 1))] ⟨rfl, rfl, rfl, trivial⟩ ?_
  refine W.block ?_
  refine W.seq ?_
  refine W.region ?_
  refine S.entry hE0 rfl rfl hst0.at ?_
  refine S.pure tOk zOk rfl rfl rfl ?_
  refine S.pure tOk zOk rfl rfl rfl ?_
  refine S.pure tOk zOk rfl rfl rfl ?_
  refine S.pure tOk zOk rfl rfl rfl ?_
  refine thenK_n ?_
  refine W.region ?_
  refine S.pure tOk zOk rfl rfl rfl ?_
  refine S.pure tOk zOk rfl rfl rfl ?_
  refine S.pure tOk zOk rfl rfl rfl ?_
  refine S.mapUpdate tOk keyS (fD := fun v : List UInt8 => DV.one (.str v)) (y.2) (tab) rfl rfl rfl rfl rfl rfl rfl rfl (show _ = [tabD (setL beqS tab y.1 y.2), M] from rfl) ?_
  refine blockK_n ?_
  exact thenK_n ⟨_, ⟨setL beqS tab y.1 y.2, nd_set f0_0 _ _, copy_t (nd_part hs hp) f0_1, rfl⟩, Wk.keep rfl ⟨rfl, rfl, rfl, trivial⟩ rfl⟩
 ·skip
  rintro q M dn _ ⟨tab, f0_0, f0_1, rfl⟩ hp
  refine ⟨_, Wk.keep (l := [(7, .one (.d (.raw q))), (0, .one (.map 0)), (1, .one (.map 1))]) (b1 := []) (b2 := []) (r1 := []) (r2 := []) (m1 := [tabD tab, mapOf D.str (fun v : List UInt8 => DV.one (.str v)) (src)]) (m2 := []) rfl ⟨rfl, rfl, rfl, trivial⟩ rfl, ?_⟩
  exact ⟨tab, ⟨f0_0, nd_copy _ hd, by rw [f0_1, lk_copy _ hs, lk_perm hs (nd_perm hs hp) hp]⟩, _, rfl, rfl, LeG.refl _, rfl, rfl, rfl⟩
theorem pc_pre1 (x v key : List UInt8) (hk : key.length ≤ 1000000000) :
  HCall Tryz.prog J 164 ([.one (.d (.str x)), .one (.d (.str v)), .one (.ptr 0 0)]) ([[.d (.str key)]]) ([]) ([]) (isH (.one (.d (.bool (x == key || belowB x key)))) ([[.d (.str key)]]) ([]) ([])) := by
 refine HCall.ofD tOk ⟨1, 0, 0⟩ (fn := Tryz.f164) Tryz.func164 (by kernel_rfl) rfl (Nat.le_of_ble_eq_true rfl) (fun E => ?_)
 refine W.seq ?_
 refine W.region ?_
 refine S.pure tOk zOk rfl rfl rfl ?_
 refine thenK_n ?_
 refine W.seq ?_
 refine W.region ?_
 refine S.pure tOk zOk rfl rfl rfl ?_
 refine S.pure tOk zOk rfl rfl rfl ?_
 refine S.pure tOk zOk rfl rfl rfl ?_
 refine S.pure tOk zOk rfl rfl rfl ?_
 refine S.pureG tOk zOk rfl rfl tg (fun _ => rfl) rfl ?_
 refine S.pureG tOk zOk rfl rfl tg (fun _ => rfl) rfl ?_
 refine S.callG rfl rfl rfl rfl tg rfl rfl (fun _ => pc_mbelow x key hk) ?_
 refine S.pickOr tOk zOk rfl rfl tg ?_
 refine S.pure tOk zOk rfl rfl rfl ?_
 refine thenK_n ?_
 refine W.ret ?_
 exact ⟨_, rfl, rfl, LeG.refl _, rfl, rfl, rfl⟩
theorem pc_DelFunc (t : Tab) (key : List UInt8) (hd : ndT t) (hk : key.length ≤ 1000000000) :
  HCall Tryz.prog J 163 ([.one (.map 0), .one (.clo 164 [.ptr 0 0])]) ([[.d (.str key)]]) ([]) ([tabD t]) (isX (X := Tab) (fun tab => EqT tab (t.filter fun x => (tailOf x.1 key).isNone)) (fun tab => .tup []) (fun tab => [[.d (.str key)]]) (fun tab => []) (fun tab => [tabD tab])) := by
 refine HCall.ofX tOk (fun _ => ⟨1, 0, 1⟩) (fn := Tryz.f163) Tryz.func163 (by kernel_rfl) rfl (Nat.le_of_ble_eq_true rfl) (fun E => ?_)
 refine W.forMapDel (enc := D.str) (fD := fun v : List UInt8 => DV.one (.str v)) (l0 := t) (mi := 0) tOk (fun q M dn kp st => kp = dn.filter (fun x => (tailOf x.1 key).isNone) ∧ st = ⟨ofL [(7, .one (.d (.raw q))), (0, .one (.map 0)), (1, .one (.clo 164 [.ptr 0 0]))], [[.d (.str key)]], [], [M]⟩) 1 rfl rfl rfl (by rintro q M dn kp _ ⟨f0_0, rfl⟩; exact ⟨rfl, rfl⟩) ⟨rfl, rfl, rfl, rfl⟩ ?_ ?_ ?_
 ·skip
  refine S.pure tOk zOk rfl rfl rfl ?_
  refine WL.nil ?_
  exact ⟨rfl, rfl, fun q M => ⟨_, ⟨rfl, rfl⟩, Wk.keep rfl ⟨rfl, rfl, rfl, trivial⟩ rfl⟩⟩
 ·skip
  rintro q M dn kp _ j0 c1000 born0 y rest E1 ⟨f0_0, rfl⟩ hE0 hst0 hp
  refine W.keep [(7, .one (.d (.raw q))), (0, .one (.map 0)), (1, .one (.clo 164 [.ptr 0 0]))] ⟨rfl, rfl, rfl, trivial⟩ ?_
  refine W.block ?_
  refine W.seq ?_
  refine W.region ?_
  refine S.entry hE0 rfl rfl hst0.at ?_
  refine S.pure tOk zOk rfl rfl rfl ?_
  refine S.pure tOk zOk rfl rfl rfl ?_
  refine S.pure tOk zOk rfl rfl rfl ?_
  refine S.pure tOk zOk rfl rfl rfl ?_
  refine thenK_n ?_
  refine W.seq ?_
  refine W.region ?_
  refine S.pure tOk zOk rfl rfl rfl ?_
  refine S.pure tOk zOk rfl rfl rfl ?_
  refine S.pure tOk zOk rfl rfl rfl ?_
  refine S.hcallD rfl rfl rfl rfl ((pc_pre1 y.1 y.2 key hk).frameD [0] [] [] rfl rfl rfl rfl rfl rfl rfl rfl rfl) ?_
  refine thenK_n ?_
  refine W.cond rfl (fun c1 => ?_) (fun c1 => ?_)
  ·skip
   obtain ⟨sf, hs⟩ := tail_t c1
   refine W.region ?_
   refine S.pure tOk zOk rfl rfl rfl ?_
   refine S.pure tOk zOk rfl rfl rfl ?_
   refine S.mapDeleteSt tOk keyS beqS_iff hst0 (nd_keys hd) rfl rfl rfl rfl rfl rfl rfl (show _ = [M.eraseIdx j0] from rfl) ?_
   refine blockK_n ?_
   exact thenK_n ⟨_, .inr ⟨f0_0.trans (kept_t hs).symm, rfl⟩, Wk.keep rfl ⟨rfl, rfl, rfl, trivial⟩ rfl⟩
  ·skip
   have hs := tail_f c1
   refine W.skip ?_
   refine blockK_n ?_
   exact thenK_n ⟨_, .inl ⟨by rw [f0_0, kept_f hs], rfl⟩, Wk.keep rfl ⟨rfl, rfl, rfl, trivial⟩ rfl⟩
 ·skip
  rintro q M dn kp tab _ ⟨f0_0, rfl⟩ hp hkp hsub
  have ho := off_end (tab := tab) (key := key) hd hp (by rw [← f0_0]; exact hkp)
  refine ⟨_, Wk.keep (l := [(7, .one (.d (.raw q))), (0, .one (.map 0)), (1, .one (.clo 164 [.ptr 0 0]))]) (b1 := [[.d (.str key)]]) (b2 := []) (r1 := []) (r2 := []) (m1 := [mapOf D.str (fun v : List UInt8 => DV.one (.str v)) tab]) (m2 := []) rfl ⟨rfl, rfl, rfl, trivial⟩ rfl, ?_⟩
  exact ⟨tab, ⟨ho.1, nd_filter hd _, by rw [ho.2, off_filter hd]⟩, _, rfl, rfl, LeG.refl _, rfl, rfl, rfl⟩
theorem pc_prefix (t : Tab) (key tu : List UInt8) (hd : ndT t) (hl : ∀ x ∈ t, x.1.length ≤ 2000000) (hk : key.length ≤ 2000000) (ht : tu.length ≤ 2000000) :
  HCall Tryz.prog J 116 ([.one (.map 0), .one (.d (.str key)), .one (.d (.str tu))]) ([]) ([]) ([tabD t]) (isX (X := Tab) (fun tab => EqT tab (if badP t key tu then t else prefT t key tu)) (fun tab => .one (.d (.bool (!badP t key tu)))) (fun tab => []) (fun tab => []) (fun tab => [tabD tab])) := by
 refine HCall.ofX tOk (fun _ => ⟨0, 0, 1⟩) (fn := Tryz.f116) Tryz.func116 (by kernel_rfl) rfl (Nat.le_of_ble_eq_true rfl) (fun E => ?_)
 refine W.seq ?_
 refine W.region ?_
 refine S.box rfl rfl rfl rfl ?_
 refine S.pure tOk zOk rfl rfl rfl ?_
 refine thenK_n ?_
 refine W.seq ?_
 refine W.region ?_
 refine S.makeMap rfl ?_
 refine S.pure tOk zOk rfl rfl rfl ?_
 refine thenK_n ?_
 refine W.seq ?_
 refine W.forMap (enc := D.str) (fD := fun v : List UInt8 => DV.one (.str v)) (l0 := t) (mi := 0) tOk (fun q M dn st => ∃ mv : Tab, ndT mv ∧ lk mv = movF (lk dn) key tu ∧ dn.all (okM key tu) = true ∧ st = ⟨ofL [(13, .one (.d (.raw q))), (0, .one (.map 0)), (2, .one (.d (.str tu))), (4, .one (.ptr 0 0)), (7, .one (.map 1))], [[.d (.str key)]], [], [M, tabD mv]⟩) 1 rfl rfl rfl (by rintro q M dn _ ⟨mv, f0_0, f0_1, f0_2, rfl⟩; exact ⟨rfl, rfl⟩) ⟨rfl, rfl, rfl, rfl⟩ ?_ ?_ ?_
 ·skip
  refine S.pure tOk zOk rfl rfl rfl ?_
  refine WL.nil ?_
  exact ⟨rfl, rfl, fun q M => ⟨_, ⟨[], nd_nil, mov_nil _ _, rfl, rfl⟩, Wk.keep rfl ⟨rfl, rfl, rfl, rfl, rfl, trivial⟩ rfl⟩⟩
 ·skip
  rintro q M dn _ j0 c1000 born0 y rest E1 ⟨mv, f0_0, f0_1, f0_2, rfl⟩ hE0 hst0 hp un0
  refine W.keep [(13, .one (.d (.raw q))), (0, .one (.map 0)), (2, .one (.d (.str tu))), (4, .one (.ptr 0 0)), (7, .one (.map 1))] ⟨rfl, rfl, rfl, rfl, rfl, trivial⟩ ?_
  have hy := mem_len hl hp
  refine W.block ?_
  refine W.seq ?_
  refine W.region ?_
  refine S.entry hE0 rfl rfl hst0.at ?_
  refine S.pure tOk zOk rfl rfl rfl ?_
  refine S.pure tOk zOk rfl rfl rfl ?_
  refine S.pure tOk zOk rfl rfl rfl ?_
  refine S.pure tOk zOk rfl rfl rfl ?_
  refine thenK_n ?_
  refine W.seq ?_
  refine W.seq ?_
  refine W.region ?_
  refine S.pure tOk zOk rfl rfl rfl ?_
  refine S.pure tOk zOk rfl rfl rfl ?_
  refine S.pure tOk zOk rfl rfl rfl ?_
  refine S.pure tOk zOk rfl rfl rfl ?_
  refine S.pureG tOk zOk rfl rfl tg (fun _ => rfl) rfl ?_
  refine S.pureG tOk zOk rfl rfl tg (fun _ => rfl) rfl ?_
  refine S.callG rfl rfl rfl rfl tg rfl rfl (fun _ => pc_mbelow y.1 key (by omega)) ?_
  refine S.pureG tOk zOk rfl rfl tg (fun _ => rfl) rfl ?_
  refine S.pickAnd tOk zOk rfl rfl tg ?_
  refine thenK_n ?_
  refine W.cond rfl (fun c1 => ?_) (fun c1 => ?_)
  ·skip
   have hs := tail_nt c1
   refine W.exit ?_
   refine thenK_e ?_
   refine blockK_x ?_
   exact thenK_n ⟨_, ⟨mv, f0_0, mov_f (nd_part hd hp) f0_1 hs, all_snoc f0_2 (okM_f hs), rfl⟩, Wk.keep rfl ⟨rfl, rfl, rfl, rfl, rfl, trivial⟩ rfl⟩
  ·skip
   obtain ⟨sf, hs⟩ := tail_nf c1
   obtain ⟨hs1, hs2, hs3⟩ := tail_len hs
   refine W.skip ?_
   refine thenK_n ?_
   refine W.seq ?_
   refine W.region ?_
   refine S.pure tOk zOk rfl rfl rfl ?_
   refine S.pure tOk zOk rfl rfl rfl ?_
   refine S.pure tOk zOk rfl rfl rfl ?_
   refine S.pure tOk zOk rfl rfl rfl ?_
   refine S.pureE tOk zOk rfl (sl_ok (by omega) (by omega) (by omega)) (show _ = V.one (.d (.str sf)) by rw [← hs2]; simp) rfl ?_
   refine S.pure tOk zOk rfl (cat_ok (by omega)) rfl ?_
   refine S.pure tOk zOk rfl rfl rfl ?_
   refine thenK_n ?_
   refine W.seq ?_
   refine W.seq ?_
   refine W.region ?_
   refine S.pure tOk zOk rfl rfl rfl ?_
   refine S.call rfl rfl rfl rfl rfl (pc_ver_IsPath (tu ++ sf) (by simp; omega)) ?_
   refine S.pure tOk zOk rfl rfl rfl ?_
   refine thenK_n ?_
   refine W.cond rfl (fun c2 => ?_) (fun c2 => ?_)
   ·skip
    have hb := bad_hit hp hs c2
    rw [hb]
    refine W.seq ?_
    refine W.region ?_
    refine S.pure tOk zOk rfl rfl rfl ?_
    refine thenK_n ?_
    refine un0 _ _ _ _ _ _ _ rfl rfl ?_
    refine W.ret ?_
    refine thenK_r ?_
    refine blockK_r ?_
    refine thenK_r ?_
    refine blockK_r ?_
    refine thenK_r ?_
    exact ⟨t, by rw [if_pos rfl]; exact EqT.refl hd, _, rfl, rfl, LeG.refl _, rfl, rfl, rfl⟩
   ·skip
    refine W.skip ?_
    refine thenK_n ?_
    refine W.region ?_
    refine S.pure tOk zOk rfl rfl rfl ?_
    refine S.pure tOk zOk rfl rfl rfl ?_
    refine S.pure tOk zOk rfl rfl rfl ?_
    refine S.mapUpdate tOk keyS (fD := fun v : List UInt8 => DV.one (.str v)) (y.2) (mv) rfl rfl rfl rfl rfl rfl rfl rfl (show _ = [M, tabD (setL beqS mv (tu ++ sf) y.2)] from rfl) ?_
    refine blockK_n ?_
    exact thenK_n ⟨_, ⟨setL beqS mv (tu ++ sf) y.2, nd_set f0_0 _ _, mov_t (nd_part hd hp) f0_1 hs, all_snoc f0_2 ((okM_t hs).trans (by simpa using c2)), rfl⟩, Wk.keep rfl ⟨rfl, rfl, rfl, rfl, rfl, trivial⟩ rfl⟩
 ·skip
  rintro q M dn _ ⟨mv, f0_0, f0_1, f0_2, rfl⟩ hp
  have hb := bad_none hp f0_2
  have hm : lk mv = movF (lk t) key tu := by rw [f0_1, lk_perm hd (nd_perm hd hp) hp]
  rw [hb]
  refine ⟨_, Wk.keep (l := [(13, .one (.d (.raw q))), (0, .one (.map 0)), (2, .one (.d (.str tu))), (4, .one (.ptr 0 0)), (7, .one (.map 1))]) (b1 := [[.d (.str key)]]) (b2 := []) (r1 := []) (r2 := []) (m1 := [mapOf D.str (fun v : List UInt8 => DV.one (.str v)) (t), tabD mv]) (m2 := []) rfl ⟨rfl, rfl, rfl, rfl, rfl, trivial⟩ rfl, ?_⟩
  refine thenK_n ?_
  refine W.seq ?_
  refine W.region ?_
  refine S.pure tOk zOk rfl rfl rfl ?_
  refine S.makeFunc rfl rfl rfl ?_
  refine S.hcallX rfl rfl rfl rfl ((pc_DelFunc t key hd (by omega)).frameX [0] [] [0] rfl rfl rfl rfl rfl (fun _ => rfl) (fun _ => rfl) (fun _ => rfl) (fun _ => rfl)) ?_
  rintro tab1 h1
  refine thenK_n ?_
  refine W.seq ?_
  refine W.region ?_
  refine S.pure tOk zOk rfl rfl rfl ?_
  refine S.pure tOk zOk rfl rfl rfl ?_
  refine S.hcallX rfl rfl rfl rfl ((pc_CopyT tab1 mv h1.l f0_0).frameX [] [] [0, 1] rfl rfl rfl rfl rfl (fun _ => rfl) (fun _ => rfl) (fun _ => rfl) (fun _ => rfl)) ?_
  rintro tab2 h2
  refine thenK_n ?_
  refine W.seq ?_
  refine W.region ?_
  refine S.pure tOk zOk rfl rfl rfl ?_
  refine thenK_n ?_
  refine W.ret ?_
  exact ⟨tab2, by rw [if_neg (by simp)]; exact sum_pref hd f0_0 hm h1 h2, _, rfl, rfl, LeG.refl _, rfl, rfl, rfl⟩
end Go.Proofs.YtcchfmilleffjaaGreatDoor
namespace Go.Proofs.YtcchfmilleffjaaGreatDoor
open Go
open Go.RowKit
attribute [local irreducible] rangeB pathB nameB valueB firstNe tailOf listT ndT badP sortS prefT stepE
theorem pc_keys118 (es : List (DV × DV)) :
  HCall Tryz.prog J 118 ([.one (.map 0)]) ([]) ([]) ([es]) (isH (.one (.clo 168 [.ptr 0 0])) ([[.map 0]]) ([]) ([es])) := by
 refine HCall.ofD tOk ⟨1, 0, 1⟩ (fn := Tryz.f118) Tryz.func118 (by kernel_rfl) rfl (Nat.le_of_ble_eq_true rfl) (fun E => ?_)
 refine W.seq ?_
 refine W.region ?_
 refine S.box rfl rfl rfl rfl ?_
 refine S.pure tOk zOk rfl rfl rfl ?_
 refine thenK_n ?_
 refine W.seq ?_
 refine W.region ?_
 refine S.makeFunc rfl rfl rfl ?_
 refine S.pure tOk zOk rfl rfl rfl ?_
 refine thenK_n ?_
 refine W.ret ?_
 exact ⟨_, rfl, rfl, LeG.refl _, rfl, rfl, rfl⟩
theorem pc_settings (u : Tab) (hd : ndT u) (hl : ∀ x ∈ u, x.1.length ≤ 2000000) (hn : u.length ≤ 1000000) :
  HCall Tryz.prog J 68 ([.one (.map 0)]) ([]) ([]) ([tabD u]) (isH (.one (.d (.vec 2 ((listT u).map stgD)))) ([]) ([]) ([tabD u])) := by
 have hkl := keysT_len u
 refine HCall.ofD tOk ⟨0, 0, 1⟩ (fn := Tryz.f68) Tryz.func68 (by kernel_rfl) rfl (Nat.le_of_ble_eq_true rfl) (fun E => ?_)
 refine W.seq ?_
 refine W.region ?_
 refine S.pure tOk zOk rfl rfl rfl ?_
 refine thenK_n ?_
 refine W.seq ?_
 refine W.region ?_
 refine S.pure tOk zOk rfl rfl rfl ?_
 refine thenK_n ?_
 refine W.seq ?_
 refine W.seq ?_
 refine W.region ?_
 refine S.pure tOk zOk rfl rfl rfl ?_
 refine S.hcallD rfl rfl rfl rfl (pc_keys118 (tabD u)) ?_
 refine S.hcallD rfl rfl rfl rfl (pc_Sorted_118 u (by omega) (fun x hx => Nat.le_trans (hl x hx) (by decide)) (nd_keys hd)) ?_
 refine S.pure tOk zOk rfl rfl rfl ?_
 refine S.pure tOk zOk rfl rfl rfl ?_
 refine thenK_n ?_
 refine W.newRow 3 2 40 rfl ?_
 refine W.block ?_
 refine W.loop (fun k st => ∃ i : Nat, ∃ v : Nat, ∃ al : Bool, i ≤ (keysT u).length ∧ k = (keysT u).length - i ∧ ∃ t b2 r2 m2, st = ⟨t, [] ++ b2, [some ⟨al, v, 2, 40, (listTo u i).map stgD⟩] ++ r2, [tabD u] ++ m2⟩ ∧ holdsL t [(0, .one (.map 0)), (3, .one (.row 0 v 0 ((listTo u i).map stgD).length)), (8, .one (.d (.vec 1 ((keysT u).map fun x => [.str x])))), (9, .one (.d (.int .i64 (((keysT u).map fun x => ([.str x] : List D)).length : Int)))), (10, .one (.d (.int .i64 (i : Int))))]) ((keysT u).length) ⟨0, _, _, Nat.zero_le _, rfl, _, _, _, _, rfl, rfl, rfl, rfl, rfl, rfl, trivial⟩ ?_
 rintro k0 _ ⟨i, v, al, f0_0, rfl, t0, bb0, rr0, mm0, rfl, hh0⟩
 refine W.keepR _ _ _ _ _ _ _ hh0 rfl ?_
 refine W.seq ?_
 refine W.region ?_
 refine S.pure tOk zOk rfl rfl rfl ?_
 refine thenK_n ?_
 refine W.seq ?_
 refine W.cond rfl (fun c1 => ?_) (fun c1 => ?_)
 ·skip
  have hi := row_lt c1
  have hll := listTo_len u (Nat.le_of_lt hi)
  refine W.skip ?_
  refine thenK_n ?_
  refine W.seq ?_
  refine W.block ?_
  refine W.seq ?_
  refine W.region ?_
  refine S.pureE tOk zOk rfl (row_ok hi) (row_at [] hi) rfl ?_
  refine S.pure tOk zOk rfl rfl rfl ?_
  refine S.pure tOk zOk rfl rfl rfl ?_
  refine thenK_n ?_
  refine W.region ?_
  refine S.pure tOk zOk rfl rfl rfl ?_
  refine S.pure tOk zOk rfl rfl rfl ?_
  refine S.pure tOk zOk rfl rfl rfl ?_
  refine S.pure tOk zOk rfl rfl rfl ?_
  refine S.lookup tOk keyS (fD := fun v : List UInt8 => DV.one (.str v)) [] (u) rfl rfl rfl rfl rfl rfl rfl rfl rfl rfl (show mapV false _ _ = _ from rfl) ?_
  refine S.pure tOk zOk rfl rfl rfl ?_
  refine S.slice tOk rfl rfl ?_
  refine S.append tOk rfl rfl rfl rfl rfl rfl rfl rfl rfl rfl rfl rfl (by show _ + 1 ≤ _; rw [List.length_map, hll]; omega) rfl (listTo_succ hi) rfl ?_
  refine S.pure tOk zOk rfl rfl rfl ?_
  refine blockK_n ?_
  refine thenK_n ?_
  refine W.region ?_
  refine S.pure tOk zOk rfl rfl rfl ?_
  refine S.pure tOk zOk rfl rfl rfl ?_
  refine loop_n ((keysT u).length - (i + 1)) (by omega) ⟨i + 1, _, _, hi, rfl, _, _, _, _, rfl, rfl, rfl, rfl, rfl, inc_i64 (by omega), trivial⟩
 ·skip
  have hi := row_ge c1
  obtain rfl : i = (keysT u).length := by omega
  rw [listTo_end]
  refine W.exit ?_
  refine thenK_e ?_
  refine thenK_e ?_
  refine blockK_x ?_
  refine thenK_n ?_
  refine W.seq ?_
  refine W.freeze (ri := 0) (q := ⟨_, _, _, _, _⟩) [3] rfl (by intro k hk; simp at hk; subst hk; rfl) ?_
  refine W.region ?_
  refine S.pure tOk zOk rfl rfl rfl ?_
  refine S.pure tOk zOk rfl rfl rfl ?_
  refine thenK_n ?_
  refine W.ret ?_
  exact ⟨_, rfl, rfl, LeG.refl _, rfl, rfl, rfl⟩
theorem two_not {r : Rul} {u : Tab} (h : (r.kd == 2) = false) : (r.kd == 2 && badP u r.k r.tu) = false := by rw [h]; rfl
theorem two_is {r : Rul} {u : Tab} (h : (r.kd == 2) = true) : (r.kd == 2 && badP u r.k r.tu) = badP u r.k r.tu := by rw [h]; rfl
theorem one_two {r : Rul} (h : (r.kd == 1) = true) : (r.kd == 2) = false := by have := beq_iff_eq.1 h; rw [this]; rfl
theorem do_pref {r : Rul} {u : Tab} (h : (r.kd == 2) = true) : doT u r = prefT u r.k r.tu := by have := beq_iff_eq.1 h; unfold doT; rw [this]; rfl
def doX (u : Tab) (r : Rul) : Tab := if (r.kd == 2 && badP u r.k r.tu) = true then u else doT u r
theorem doX_f {u : Tab} {r : Rul} (h : (r.kd == 2 && badP u r.k r.tu) = false) : doX u r = doT u r := if_neg (Bool.eq_false_iff.1 h)
theorem do_wit {u tab : Tab} {r : Rul} (hb : (r.kd == 2 && badP u r.k r.tu) = false) (h : EqT tab (doT u r)) : EqT tab (doX u r) := by rw [doX_f hb]; exact h
theorem do_bad {u tab : Tab} {r : Rul} (hb : (r.kd == 2 && badP u r.k r.tu) = true) (h : EqT tab u) : EqT tab (doX u r) := by unfold doX; rw [if_pos hb]; exact h
theorem tabD_len (u : Tab) : ((tabD u).length : Int) = (u.length : Int) := by simp [tabD, mapOf]
theorem pc_do (u : Tab) (r : Rul) (hr : RulB r) (hd : ndT u) (hl : ∀ x ∈ u, x.1.length ≤ 2000000) (hn : u.length ≤ 1000000) :
  HCall Tryz.prog J 66 ([.one (.map 0), .agg [.d (.int .i64 r.kd), .d (.str r.k), .d (.str r.tu), .d (.str r.old), .d (.str r.nu)]]) ([]) ([]) ([tabD u]) (isX (X := Tab) (fun tab => EqT tab (doX u r)) (fun tab => .one (.d (.int .i64 (stepE u r)))) (fun tab => []) (fun tab => []) (fun tab => [tabD tab])) := by
 obtain ⟨hr1, hr2, hr3, hr4⟩ := hr
 refine HCall.ofX tOk (fun _ => ⟨0, 0, 1⟩) (fn := Tryz.f66) Tryz.func66 (by kernel_rfl) rfl (Nat.le_of_ble_eq_true rfl) (fun E => ?_)
 refine W.seq ?_
 refine W.region ?_
 refine S.box rfl rfl rfl rfl ?_
 refine S.pure tOk zOk rfl rfl rfl ?_
 refine thenK_n ?_
 refine W.seq ?_
 refine W.region ?_
 refine S.pure tOk zOk rfl rfl rfl ?_
 refine S.pure tOk zOk rfl rfl rfl ?_
 refine S.pure tOk zOk rfl rfl rfl ?_
 refine S.lookup tOk keyS (fD := fun v : List UInt8 => DV.one (.str v)) [] (u) rfl rfl rfl rfl rfl rfl rfl rfl rfl rfl (show mapV true _ _ = V.tup [_, _] from rfl) ?_
 refine S.pure tOk zOk rfl rfl rfl ?_
 refine S.pure tOk zOk rfl rfl rfl ?_
 refine S.pure tOk zOk rfl rfl rfl ?_
 refine S.pure tOk zOk rfl rfl rfl ?_
 refine S.pure tOk zOk rfl rfl rfl ?_
 refine thenK_n ?_
 refine W.seq ?_
 refine W.seq ?_
 refine W.region ?_
 refine S.pure tOk zOk rfl rfl rfl ?_
 refine S.pure tOk zOk rfl rfl rfl ?_
 refine thenK_n ?_
 refine W.block ?_
 refine W.seq ?_
 refine W.region ?_
 refine S.pure tOk zOk rfl rfl rfl ?_
 refine S.pure tOk zOk rfl rfl rfl ?_
 refine thenK_n ?_
 refine W.cond rfl (fun c1 => ?_) (fun c1 => ?_)
 ·skip
  refine W.seq ?_
  refine W.region ?_
  refine S.pure tOk zOk rfl rfl rfl ?_
  refine thenK_n ?_
  refine W.cond rfl (fun c2 => ?_) (fun c2 => ?_)
  ·skip
   refine W.seq ?_
   refine W.region ?_
   refine S.pure tOk zOk rfl rfl rfl ?_
   refine S.pure tOk zOk rfl rfl rfl ?_
   refine S.pure tOk zOk rfl rfl rfl ?_
   refine S.mapDelete tOk keyS (fD := fun v : List UInt8 => DV.one (.str v)) (u) rfl rfl rfl rfl rfl rfl rfl (show _ = [tabD (delL beqS u r.k)] from rfl) ?_
   refine thenK_n ?_
   refine W.region ?_
   refine S.pure tOk zOk rfl rfl rfl ?_
   refine S.pure tOk zOk rfl rfl rfl ?_
   refine S.pure tOk zOk rfl rfl rfl ?_
   refine S.pure tOk zOk rfl rfl rfl ?_
   refine S.mapUpdate tOk keyS (fD := fun v : List UInt8 => DV.one (.str v)) (getL beqS [] u r.k) (delL beqS u r.k) rfl rfl rfl rfl rfl rfl rfl rfl (show _ = [tabD (setL beqS (delL beqS u r.k) (r.tu) (getL beqS [] u r.k))] from rfl) ?_
   refine blockK_n ?_
   refine thenK_n ?_
   refine W.seq ?_
   refine W.seq ?_
   have hb := two_not (u := u) (one_two c1)
   have hT : EqT (setL beqS (delL beqS u r.k) (r.tu) (getL beqS [] u r.k)) (doT u r) := by unfold doT; simp only [c1, c2, Bool.false_eq_true, if_false, if_true, ↓reduceIte]; exact EqT.refl (by first | exact hd | exact nd_set (nd_del hd _) _ _ | exact nd_set hd _ _ | exact nd_del hd _)
   refine W.region ?_
   refine S.pure tOk zOk rfl rfl rfl ?_
   refine S.mapLen tOk rfl rfl rfl rfl (tabD_len _) ?_
   refine S.pure tOk zOk rfl rfl rfl ?_
   refine thenK_n ?_
   refine W.cond rfl (fun c3 => ?_) (fun c3 => ?_)
   ·skip
    refine W.seq ?_
    refine W.region ?_
    refine S.pure tOk zOk rfl rfl rfl ?_
    refine thenK_n ?_
    refine W.ret ?_
    refine thenK_r ?_
    exact ⟨_, do_wit hb hT, _, rfl, rfl, LeG.of_force rfl (by rw [step_4 hT hb c3]; rfl), rfl, rfl, rfl⟩
   ·skip
    refine W.skip ?_
    refine thenK_n ?_
    refine W.seq ?_
    refine W.region ?_
    refine S.pure tOk zOk rfl rfl rfl ?_
    refine thenK_n ?_
    refine W.ret ?_
    exact ⟨_, do_wit hb hT, _, rfl, rfl, LeG.of_force rfl (by rw [step_0 hT hb c3]; rfl), rfl, rfl, rfl⟩
  ·skip
   refine W.skip ?_
   refine blockK_n ?_
   refine thenK_n ?_
   refine W.seq ?_
   refine W.seq ?_
   have hb := two_not (u := u) (one_two c1)
   have hT : EqT (u) (doT u r) := by unfold doT; simp only [c1, c2, Bool.false_eq_true, if_false, if_true, ↓reduceIte]; exact EqT.refl (by first | exact hd | exact nd_set (nd_del hd _) _ _ | exact nd_set hd _ _ | exact nd_del hd _)
   refine W.region ?_
   refine S.pure tOk zOk rfl rfl rfl ?_
   refine S.mapLen tOk rfl rfl rfl rfl (tabD_len _) ?_
   refine S.pure tOk zOk rfl rfl rfl ?_
   refine thenK_n ?_
   refine W.cond rfl (fun c4 => ?_) (fun c4 => ?_)
   ·skip
    refine W.seq ?_
    refine W.region ?_
    refine S.pure tOk zOk rfl rfl rfl ?_
    refine thenK_n ?_
    refine W.ret ?_
    refine thenK_r ?_
    exact ⟨_, do_wit hb hT, _, rfl, rfl, LeG.of_force rfl (by rw [step_4 hT hb c4]; rfl), rfl, rfl, rfl⟩
   ·skip
    refine W.skip ?_
    refine thenK_n ?_
    refine W.seq ?_
    refine W.region ?_
    refine S.pure tOk zOk rfl rfl rfl ?_
    refine thenK_n ?_
    refine W.ret ?_
    exact ⟨_, do_wit hb hT, _, rfl, rfl, LeG.of_force rfl (by rw [step_0 hT hb c4]; rfl), rfl, rfl, rfl⟩
 ·skip
  refine W.seq ?_
  refine W.region ?_
  refine S.pure tOk zOk rfl rfl rfl ?_
  refine S.pure tOk zOk rfl rfl rfl ?_
  refine thenK_n ?_
  refine W.cond rfl (fun c5 => ?_) (fun c5 => ?_)
  ·skip
   refine W.seq ?_
   refine W.region ?_
   refine S.pure tOk zOk rfl rfl rfl ?_
   refine S.pure tOk zOk rfl rfl rfl ?_
   refine S.pure tOk zOk rfl rfl rfl ?_
   refine S.pure tOk zOk rfl rfl rfl ?_
   refine S.pure tOk zOk rfl rfl rfl ?_
   refine S.hcallX rfl rfl rfl rfl ((pc_prefix u r.k r.tu hd hl (by omega) (by omega)).frameX [] [] [0] rfl rfl rfl rfl rfl (fun _ => rfl) (fun _ => rfl) (fun _ => rfl) (fun _ => rfl)) ?_
   rintro tab1 h1
   refine S.pure tOk zOk rfl rfl rfl ?_
   refine thenK_n ?_
   refine W.cond rfl (fun c6 => ?_) (fun c6 => ?_)
   ·skip
    have hb1 : badP u r.k r.tu = true := by simpa using c6
    have hb := (two_is (u := u) c5).trans hb1
    refine W.seq ?_
    refine W.region ?_
    refine S.pure tOk zOk rfl rfl rfl ?_
    refine thenK_n ?_
    refine W.ret ?_
    refine blockK_r ?_
    refine thenK_r ?_
    exact ⟨tab1, do_bad hb (by rw [if_pos hb1] at h1; exact h1), _, rfl, rfl, LeG.of_force rfl (by rw [step_5 hb]; rfl), rfl, rfl, rfl⟩
   ·skip
    refine W.skip ?_
    refine blockK_n ?_
    refine thenK_n ?_
    refine W.seq ?_
    refine W.seq ?_
    have hb0 : badP u r.k r.tu = false := by simpa using c6
    have hb := (two_is (u := u) c5).trans hb0
    have hT : EqT tab1 (doT u r) := by rw [do_pref c5]; rw [if_neg (Bool.eq_false_iff.1 hb0)] at h1; exact h1
    refine W.region ?_
    refine S.pure tOk zOk rfl rfl rfl ?_
    refine S.mapLen tOk rfl rfl rfl rfl (tabD_len _) ?_
    refine S.pure tOk zOk rfl rfl rfl ?_
    refine thenK_n ?_
    refine W.cond rfl (fun c7 => ?_) (fun c7 => ?_)
    ·skip
     refine W.seq ?_
     refine W.region ?_
     refine S.pure tOk zOk rfl rfl rfl ?_
     refine thenK_n ?_
     refine W.ret ?_
     refine thenK_r ?_
     exact ⟨_, do_wit hb hT, _, rfl, rfl, LeG.of_force rfl (by rw [step_4 hT hb c7]; rfl), rfl, rfl, rfl⟩
    ·skip
     refine W.skip ?_
     refine thenK_n ?_
     refine W.seq ?_
     refine W.region ?_
     refine S.pure tOk zOk rfl rfl rfl ?_
     refine thenK_n ?_
     refine W.ret ?_
     exact ⟨_, do_wit hb hT, _, rfl, rfl, LeG.of_force rfl (by rw [step_0 hT hb c7]; rfl), rfl, rfl, rfl⟩
  ·skip
   refine W.seq ?_
   refine W.region ?_
   refine S.pure tOk zOk rfl rfl rfl ?_
   refine S.pure tOk zOk rfl rfl rfl ?_
   refine thenK_n ?_
   refine W.cond rfl (fun c8 => ?_) (fun c8 => ?_)
   ·skip
    refine W.seq ?_
    refine W.region ?_
    refine S.pure tOk zOk rfl rfl rfl ?_
    refine thenK_n ?_
    refine W.cond rfl (fun c9 => ?_) (fun c9 => ?_)
    ·skip
     refine W.region ?_
     refine S.pure tOk zOk rfl rfl rfl ?_
     refine S.pure tOk zOk rfl rfl rfl ?_
     refine S.pure tOk zOk rfl rfl rfl ?_
     refine S.pure tOk zOk rfl rfl rfl ?_
     refine S.mapUpdate tOk keyS (fD := fun v : List UInt8 => DV.one (.str v)) (getL beqS [] u r.k) (u) rfl rfl rfl rfl rfl rfl rfl rfl (show _ = [tabD (setL beqS (u) (r.tu) (getL beqS [] u r.k))] from rfl) ?_
     refine blockK_n ?_
     refine thenK_n ?_
     refine W.seq ?_
     refine W.seq ?_
     have hb := two_not (u := u) c5
     have hT : EqT (setL beqS (u) (r.tu) (getL beqS [] u r.k)) (doT u r) := by unfold doT; simp only [c1, c5, c8, c9, Bool.false_eq_true, if_false, if_true, ↓reduceIte]; exact EqT.refl (by first | exact hd | exact nd_set (nd_del hd _) _ _ | exact nd_set hd _ _ | exact nd_del hd _)
     refine W.region ?_
     refine S.pure tOk zOk rfl rfl rfl ?_
     refine S.mapLen tOk rfl rfl rfl rfl (tabD_len _) ?_
     refine S.pure tOk zOk rfl rfl rfl ?_
     refine thenK_n ?_
     refine W.cond rfl (fun c10 => ?_) (fun c10 => ?_)
     ·skip
      refine W.seq ?_
      refine W.region ?_
      refine S.pure tOk zOk rfl rfl rfl ?_
      refine thenK_n ?_
      refine W.ret ?_
      refine thenK_r ?_
      exact ⟨_, do_wit hb hT, _, rfl, rfl, LeG.of_force rfl (by rw [step_4 hT hb c10]; rfl), rfl, rfl, rfl⟩
     ·skip
      refine W.skip ?_
      refine thenK_n ?_
      refine W.seq ?_
      refine W.region ?_
      refine S.pure tOk zOk rfl rfl rfl ?_
      refine thenK_n ?_
      refine W.ret ?_
      exact ⟨_, do_wit hb hT, _, rfl, rfl, LeG.of_force rfl (by rw [step_0 hT hb c10]; rfl), rfl, rfl, rfl⟩
    ·skip
     refine W.skip ?_
     refine blockK_n ?_
     refine thenK_n ?_
     refine W.seq ?_
     refine W.seq ?_
     have hb := two_not (u := u) c5
     have hT : EqT (u) (doT u r) := by unfold doT; simp only [c1, c5, c8, c9, Bool.false_eq_true, if_false, if_true, ↓reduceIte]; exact EqT.refl (by first | exact hd | exact nd_set (nd_del hd _) _ _ | exact nd_set hd _ _ | exact nd_del hd _)
     refine W.region ?_
     refine S.pure tOk zOk rfl rfl rfl ?_
     refine S.mapLen tOk rfl rfl rfl rfl (tabD_len _) ?_
     refine S.pure tOk zOk rfl rfl rfl ?_
     refine thenK_n ?_
     refine W.cond rfl (fun c11 => ?_) (fun c11 => ?_)
     ·skip
      refine W.seq ?_
      refine W.region ?_
      refine S.pure tOk zOk rfl rfl rfl ?_
      refine thenK_n ?_
      refine W.ret ?_
      refine thenK_r ?_
      exact ⟨_, do_wit hb hT, _, rfl, rfl, LeG.of_force rfl (by rw [step_4 hT hb c11]; rfl), rfl, rfl, rfl⟩
     ·skip
      refine W.skip ?_
      refine thenK_n ?_
      refine W.seq ?_
      refine W.region ?_
      refine S.pure tOk zOk rfl rfl rfl ?_
      refine thenK_n ?_
      refine W.ret ?_
      exact ⟨_, do_wit hb hT, _, rfl, rfl, LeG.of_force rfl (by rw [step_0 hT hb c11]; rfl), rfl, rfl, rfl⟩
   ·skip
    refine W.seq ?_
    refine W.region ?_
    refine S.pure tOk zOk rfl rfl rfl ?_
    refine S.pure tOk zOk rfl rfl rfl ?_
    refine thenK_n ?_
    refine W.cond rfl (fun c12 => ?_) (fun c12 => ?_)
    ·skip
     refine W.region ?_
     refine S.pure tOk zOk rfl rfl rfl ?_
     refine S.pure tOk zOk rfl rfl rfl ?_
     refine S.pure tOk zOk rfl rfl rfl ?_
     refine S.pure tOk zOk rfl rfl rfl ?_
     refine S.pure tOk zOk rfl rfl rfl ?_
     refine S.mapUpdate tOk keyS (fD := fun v : List UInt8 => DV.one (.str v)) (r.nu) (u) rfl rfl rfl rfl rfl rfl rfl rfl (show _ = [tabD (setL beqS (u) (r.k) (r.nu))] from rfl) ?_
     refine blockK_n ?_
     refine thenK_n ?_
     refine W.seq ?_
     refine W.seq ?_
     have hb := two_not (u := u) c5
     have hT : EqT (setL beqS (u) (r.k) (r.nu)) (doT u r) := by unfold doT; simp only [c1, c5, c8, c12, Bool.false_eq_true, if_false, if_true, ↓reduceIte]; exact EqT.refl (by first | exact hd | exact nd_set (nd_del hd _) _ _ | exact nd_set hd _ _ | exact nd_del hd _)
     refine W.region ?_
     refine S.pure tOk zOk rfl rfl rfl ?_
     refine S.mapLen tOk rfl rfl rfl rfl (tabD_len _) ?_
     refine S.pure tOk zOk rfl rfl rfl ?_
     refine thenK_n ?_
     refine W.cond rfl (fun c13 => ?_) (fun c13 => ?_)
     ·skip
      refine W.seq ?_
      refine W.region ?_
      refine S.pure tOk zOk rfl rfl rfl ?_
      refine thenK_n ?_
      refine W.ret ?_
      refine thenK_r ?_
      exact ⟨_, do_wit hb hT, _, rfl, rfl, LeG.of_force rfl (by rw [step_4 hT hb c13]; rfl), rfl, rfl, rfl⟩
     ·skip
      refine W.skip ?_
      refine thenK_n ?_
      refine W.seq ?_
      refine W.region ?_
      refine S.pure tOk zOk rfl rfl rfl ?_
      refine thenK_n ?_
      refine W.ret ?_
      exact ⟨_, do_wit hb hT, _, rfl, rfl, LeG.of_force rfl (by rw [step_0 hT hb c13]; rfl), rfl, rfl, rfl⟩
    ·skip
     refine W.seq ?_
     refine W.region ?_
     refine S.pure tOk zOk rfl rfl rfl ?_
     refine S.pure tOk zOk rfl rfl rfl ?_
     refine thenK_n ?_
     refine W.cond rfl (fun c14 => ?_) (fun c14 => ?_)
     ·skip
      refine W.seq ?_
      refine W.region ?_
      refine S.pure tOk zOk rfl rfl rfl ?_
      refine S.pure tOk zOk rfl rfl rfl ?_
      refine thenK_n ?_
      refine W.cond rfl (fun c15 => ?_) (fun c15 => ?_)
      ·skip
       refine W.region ?_
       refine S.pure tOk zOk rfl rfl rfl ?_
       refine S.pure tOk zOk rfl rfl rfl ?_
       refine S.pure tOk zOk rfl rfl rfl ?_
       refine S.pure tOk zOk rfl rfl rfl ?_
       refine S.pure tOk zOk rfl rfl rfl ?_
       refine S.mapUpdate tOk keyS (fD := fun v : List UInt8 => DV.one (.str v)) (r.nu) (u) rfl rfl rfl rfl rfl rfl rfl rfl (show _ = [tabD (setL beqS (u) (r.k) (r.nu))] from rfl) ?_
       refine blockK_n ?_
       refine thenK_n ?_
       refine W.seq ?_
       refine W.seq ?_
       have hz : hasL beqS u r.k = false := by simpa using c15
       have hb := two_not (u := u) c5
       have hT : EqT (setL beqS (u) (r.k) (r.nu)) (doT u r) := by unfold doT; simp only [c1, c5, c8, c12, c14, hz, Bool.false_eq_true, if_false, if_true, ↓reduceIte]; exact EqT.refl (by first | exact hd | exact nd_set (nd_del hd _) _ _ | exact nd_set hd _ _ | exact nd_del hd _)
       refine W.region ?_
       refine S.pure tOk zOk rfl rfl rfl ?_
       refine S.mapLen tOk rfl rfl rfl rfl (tabD_len _) ?_
       refine S.pure tOk zOk rfl rfl rfl ?_
       refine thenK_n ?_
       refine W.cond rfl (fun c16 => ?_) (fun c16 => ?_)
       ·skip
        refine W.seq ?_
        refine W.region ?_
        refine S.pure tOk zOk rfl rfl rfl ?_
        refine thenK_n ?_
        refine W.ret ?_
        refine thenK_r ?_
        exact ⟨_, do_wit hb hT, _, rfl, rfl, LeG.of_force rfl (by rw [step_4 hT hb c16]; rfl), rfl, rfl, rfl⟩
       ·skip
        refine W.skip ?_
        refine thenK_n ?_
        refine W.seq ?_
        refine W.region ?_
        refine S.pure tOk zOk rfl rfl rfl ?_
        refine thenK_n ?_
        refine W.ret ?_
        exact ⟨_, do_wit hb hT, _, rfl, rfl, LeG.of_force rfl (by rw [step_0 hT hb c16]; rfl), rfl, rfl, rfl⟩
      ·skip
       refine W.skip ?_
       refine blockK_n ?_
       refine thenK_n ?_
       refine W.seq ?_
       refine W.seq ?_
       have hz : hasL beqS u r.k = true := by simpa using c15
       have hb := two_not (u := u) c5
       have hT : EqT (u) (doT u r) := by unfold doT; simp only [c1, c5, c8, c12, c14, hz, Bool.false_eq_true, if_false, if_true, ↓reduceIte]; exact EqT.refl (by first | exact hd | exact nd_set (nd_del hd _) _ _ | exact nd_set hd _ _ | exact nd_del hd _)
       refine W.region ?_
       refine S.pure tOk zOk rfl rfl rfl ?_
       refine S.mapLen tOk rfl rfl rfl rfl (tabD_len _) ?_
       refine S.pure tOk zOk rfl rfl rfl ?_
       refine thenK_n ?_
       refine W.cond rfl (fun c17 => ?_) (fun c17 => ?_)
       ·skip
        refine W.seq ?_
        refine W.region ?_
        refine S.pure tOk zOk rfl rfl rfl ?_
        refine thenK_n ?_
        refine W.ret ?_
        refine thenK_r ?_
        exact ⟨_, do_wit hb hT, _, rfl, rfl, LeG.of_force rfl (by rw [step_4 hT hb c17]; rfl), rfl, rfl, rfl⟩
       ·skip
        refine W.skip ?_
        refine thenK_n ?_
        refine W.seq ?_
        refine W.region ?_
        refine S.pure tOk zOk rfl rfl rfl ?_
        refine thenK_n ?_
        refine W.ret ?_
        exact ⟨_, do_wit hb hT, _, rfl, rfl, LeG.of_force rfl (by rw [step_0 hT hb c17]; rfl), rfl, rfl, rfl⟩
     ·skip
      refine W.seq ?_
      refine W.region ?_
      refine S.pure tOk zOk rfl rfl rfl ?_
      refine S.pure tOk zOk rfl rfl rfl ?_
      refine thenK_n ?_
      refine W.cond rfl (fun c18 => ?_) (fun c18 => ?_)
      ·skip
       refine W.region ?_
       refine S.pure tOk zOk rfl rfl rfl ?_
       refine S.pure tOk zOk rfl rfl rfl ?_
       refine S.pure tOk zOk rfl rfl rfl ?_
       refine S.mapDelete tOk keyS (fD := fun v : List UInt8 => DV.one (.str v)) (u) rfl rfl rfl rfl rfl rfl rfl (show _ = [tabD (delL beqS u r.k)] from rfl) ?_
       refine blockK_n ?_
       refine thenK_n ?_
       refine W.seq ?_
       refine W.seq ?_
       have hb := two_not (u := u) c5
       have hT : EqT (delL beqS u r.k) (doT u r) := by unfold doT; simp only [c1, c5, c8, c12, c14, c18, Bool.false_eq_true, if_false, if_true, ↓reduceIte]; exact EqT.refl (by first | exact hd | exact nd_set (nd_del hd _) _ _ | exact nd_set hd _ _ | exact nd_del hd _)
       refine W.region ?_
       refine S.pure tOk zOk rfl rfl rfl ?_
       refine S.mapLen tOk rfl rfl rfl rfl (tabD_len _) ?_
       refine S.pure tOk zOk rfl rfl rfl ?_
       refine thenK_n ?_
       refine W.cond rfl (fun c19 => ?_) (fun c19 => ?_)
       ·skip
        refine W.seq ?_
        refine W.region ?_
        refine S.pure tOk zOk rfl rfl rfl ?_
        refine thenK_n ?_
        refine W.ret ?_
        refine thenK_r ?_
        exact ⟨_, do_wit hb hT, _, rfl, rfl, LeG.of_force rfl (by rw [step_4 hT hb c19]; rfl), rfl, rfl, rfl⟩
       ·skip
        refine W.skip ?_
        refine thenK_n ?_
        refine W.seq ?_
        refine W.region ?_
        refine S.pure tOk zOk rfl rfl rfl ?_
        refine thenK_n ?_
        refine W.ret ?_
        exact ⟨_, do_wit hb hT, _, rfl, rfl, LeG.of_force rfl (by rw [step_0 hT hb c19]; rfl), rfl, rfl, rfl⟩
      ·skip
       refine W.block ?_
       refine W.seq ?_
       refine W.region ?_
       refine S.pure tOk zOk rfl rfl rfl ?_
       refine S.pure tOk zOk rfl rfl rfl ?_
       refine S.pureG tOk zOk rfl rfl tg (fun _ => rfl) rfl ?_
       refine S.pureG tOk zOk rfl rfl tg (fun _ => rfl) rfl ?_
       refine S.pureG tOk zOk rfl rfl tg (fun _ => rfl) rfl ?_
       refine S.pureG tOk zOk rfl rfl tg (fun _ => rfl) rfl ?_
       refine S.pickAnd tOk zOk rfl rfl tg ?_
       refine S.pure tOk zOk rfl rfl rfl ?_
       refine thenK_n ?_
       refine W.cond rfl (fun c20 => ?_) (fun c20 => ?_)
       ·skip
        refine W.region ?_
        refine S.pure tOk zOk rfl rfl rfl ?_
        refine S.pure tOk zOk rfl rfl rfl ?_
        refine S.pure tOk zOk rfl rfl rfl ?_
        refine S.pure tOk zOk rfl rfl rfl ?_
        refine S.pure tOk zOk rfl rfl rfl ?_
        refine S.mapUpdate tOk keyS (fD := fun v : List UInt8 => DV.one (.str v)) (r.nu) (u) rfl rfl rfl rfl rfl rfl rfl rfl (show _ = [tabD (setL beqS (u) (r.k) (r.nu))] from rfl) ?_
        refine blockK_n ?_
        refine blockK_n ?_
        refine thenK_n ?_
        refine W.seq ?_
        refine W.seq ?_
        have hb := two_not (u := u) c5
        have hT : EqT (setL beqS (u) (r.k) (r.nu)) (doT u r) := by unfold doT; simp only [c1, c5, c8, c12, c14, c18, c20, Bool.false_eq_true, if_false, if_true, ↓reduceIte]; exact EqT.refl (by first | exact hd | exact nd_set (nd_del hd _) _ _ | exact nd_set hd _ _ | exact nd_del hd _)
        refine W.region ?_
        refine S.pure tOk zOk rfl rfl rfl ?_
        refine S.mapLen tOk rfl rfl rfl rfl (tabD_len _) ?_
        refine S.pure tOk zOk rfl rfl rfl ?_
        refine thenK_n ?_
        refine W.cond rfl (fun c21 => ?_) (fun c21 => ?_)
        ·skip
         refine W.seq ?_
         refine W.region ?_
         refine S.pure tOk zOk rfl rfl rfl ?_
         refine thenK_n ?_
         refine W.ret ?_
         refine thenK_r ?_
         exact ⟨_, do_wit hb hT, _, rfl, rfl, LeG.of_force rfl (by rw [step_4 hT hb c21]; rfl), rfl, rfl, rfl⟩
        ·skip
         refine W.skip ?_
         refine thenK_n ?_
         refine W.seq ?_
         refine W.region ?_
         refine S.pure tOk zOk rfl rfl rfl ?_
         refine thenK_n ?_
         refine W.ret ?_
         exact ⟨_, do_wit hb hT, _, rfl, rfl, LeG.of_force rfl (by rw [step_0 hT hb c21]; rfl), rfl, rfl, rfl⟩
       ·skip
        refine W.seq ?_
        refine W.region ?_
        refine S.pure tOk zOk rfl rfl rfl ?_
        refine S.pure tOk zOk rfl rfl rfl ?_
        refine S.pureG tOk zOk rfl rfl tg (fun _ => rfl) rfl ?_
        refine S.pureG tOk zOk rfl rfl tg (fun _ => rfl) rfl ?_
        refine S.pureG tOk zOk rfl rfl tg (fun _ => rfl) rfl ?_
        refine S.pureG tOk zOk rfl rfl tg (fun _ => rfl) rfl ?_
        refine S.pickAnd tOk zOk rfl rfl tg ?_
        refine S.pure tOk zOk rfl rfl rfl ?_
        refine S.pureG tOk zOk rfl rfl tg (fun _ => rfl) rfl ?_
        refine S.pureG tOk zOk rfl rfl tg (fun _ => rfl) rfl ?_
        refine S.pureG tOk zOk rfl rfl tg (fun _ => rfl) rfl ?_
        refine S.pickAnd tOk zOk rfl rfl tg ?_
        refine S.pure tOk zOk rfl rfl rfl ?_
        refine thenK_n ?_
        refine W.cond rfl (fun c22 => ?_) (fun c22 => ?_)
        ·skip
         refine W.region ?_
         refine S.pure tOk zOk rfl rfl rfl ?_
         refine S.pure tOk zOk rfl rfl rfl ?_
         refine S.pure tOk zOk rfl rfl rfl ?_
         refine S.pure tOk zOk rfl rfl rfl ?_
         refine S.pure tOk zOk rfl rfl rfl ?_
         refine S.mapUpdate tOk keyS (fD := fun v : List UInt8 => DV.one (.str v)) (r.old) (u) rfl rfl rfl rfl rfl rfl rfl rfl (show _ = [tabD (setL beqS (u) (r.k) (r.old))] from rfl) ?_
         refine blockK_n ?_
         refine blockK_n ?_
         refine thenK_n ?_
         refine W.seq ?_
         refine W.seq ?_
         have hb := two_not (u := u) c5
         have hT : EqT (setL beqS (u) (r.k) (r.old)) (doT u r) := by unfold doT; simp only [c1, c5, c8, c12, c14, c18, c20, c22, Bool.false_eq_true, if_false, if_true, ↓reduceIte]; exact EqT.refl (by first | exact hd | exact nd_set (nd_del hd _) _ _ | exact nd_set hd _ _ | exact nd_del hd _)
         refine W.region ?_
         refine S.pure tOk zOk rfl rfl rfl ?_
         refine S.mapLen tOk rfl rfl rfl rfl (tabD_len _) ?_
         refine S.pure tOk zOk rfl rfl rfl ?_
         refine thenK_n ?_
         refine W.cond rfl (fun c23 => ?_) (fun c23 => ?_)
         ·skip
          refine W.seq ?_
          refine W.region ?_
          refine S.pure tOk zOk rfl rfl rfl ?_
          refine thenK_n ?_
          refine W.ret ?_
          refine thenK_r ?_
          exact ⟨_, do_wit hb hT, _, rfl, rfl, LeG.of_force rfl (by rw [step_4 hT hb c23]; rfl), rfl, rfl, rfl⟩
         ·skip
          refine W.skip ?_
          refine thenK_n ?_
          refine W.seq ?_
          refine W.region ?_
          refine S.pure tOk zOk rfl rfl rfl ?_
          refine thenK_n ?_
          refine W.ret ?_
          exact ⟨_, do_wit hb hT, _, rfl, rfl, LeG.of_force rfl (by rw [step_0 hT hb c23]; rfl), rfl, rfl, rfl⟩
        ·skip
         refine W.skip ?_
         refine blockK_n ?_
         refine blockK_n ?_
         refine thenK_n ?_
         refine W.seq ?_
         refine W.seq ?_
         have hb := two_not (u := u) c5
         have hT : EqT (u) (doT u r) := by unfold doT; simp only [c1, c5, c8, c12, c14, c18, c20, c22, Bool.false_eq_true, if_false, if_true, ↓reduceIte]; exact EqT.refl (by first | exact hd | exact nd_set (nd_del hd _) _ _ | exact nd_set hd _ _ | exact nd_del hd _)
         refine W.region ?_
         refine S.pure tOk zOk rfl rfl rfl ?_
         refine S.mapLen tOk rfl rfl rfl rfl (tabD_len _) ?_
         refine S.pure tOk zOk rfl rfl rfl ?_
         refine thenK_n ?_
         refine W.cond rfl (fun c24 => ?_) (fun c24 => ?_)
         ·skip
          refine W.seq ?_
          refine W.region ?_
          refine S.pure tOk zOk rfl rfl rfl ?_
          refine thenK_n ?_
          refine W.ret ?_
          refine thenK_r ?_
          exact ⟨_, do_wit hb hT, _, rfl, rfl, LeG.of_force rfl (by rw [step_4 hT hb c24]; rfl), rfl, rfl, rfl⟩
         ·skip
          refine W.skip ?_
          refine thenK_n ?_
          refine W.seq ?_
          refine W.region ?_
          refine S.pure tOk zOk rfl rfl rfl ?_
          refine thenK_n ?_
          refine W.ret ?_
          exact ⟨_, do_wit hb hT, _, rfl, rfl, LeG.of_force rfl (by rw [step_0 hT hb c24]; rfl), rfl, rfl, rfl⟩
end Go.Proofs.YtcchfmilleffjaaGreatDoor
namespace Go.Proofs.YtcchfmilleffjaaGreatDoor
open Go
open Go.RowKit
attribute [local irreducible] rangeB pathB nameB valueB firstNe tailOf listT ndT badP sortS prefT stepE
theorem anyp_hit {α : Type} {p : α → Bool} {t dn rest : List α} {y : α} (hp : t.Perm (dn ++ y :: rest)) (h : p y = true) : t.any p = true := List.any_eq_true.2 ⟨y, hp.mem_iff.2 (by simp), h⟩
theorem anyp_end {α : Type} {p : α → Bool} {t dn : List α} (hp : t.Perm dn) (h : dn.any p = false) : t.any p = false := (any_perm p hp).trans h
theorem los_1 {u : Tab} {r : Rul} (h : (r.kd == 1) = true) : losesT u r = hasL beqS u r.tu := if_pos h
theorem los_2 {u : Tab} {r : Rul} (h : (r.kd == 1) = false) (h2 : (r.kd == 2) = true) : losesT u r = u.any (fun x => (tailOf x.1 r.tu).isSome) := by unfold losesT; rw [if_neg (Bool.eq_false_iff.1 h), if_pos h2]
theorem los_7 {u : Tab} {r : Rul} (h : (r.kd == 1) = false) (h2 : (r.kd == 2) = false) (h3 : (r.kd == 7) = true) : losesT u r = (hasL beqS u r.k && getL beqS [] u r.k == r.nu) := by unfold losesT; rw [if_neg (Bool.eq_false_iff.1 h), if_neg (Bool.eq_false_iff.1 h2), if_pos h3]
theorem los_0 {u : Tab} {r : Rul} (h : (r.kd == 1) = false) (h2 : (r.kd == 2) = false) (h3 : (r.kd == 7) = false) : losesT u r = false := by unfold losesT; rw [if_neg (Bool.eq_false_iff.1 h), if_neg (Bool.eq_false_iff.1 h2), if_neg (Bool.eq_false_iff.1 h3)]
theorem pc_loses (u : Tab) (r : Rul) (hr : RulB r) (hd : ndT u) (hl : ∀ x ∈ u, x.1.length ≤ 2000000) :
  HCall Tryz.prog J 65 ([.one (.map 0), .agg [.d (.int .i64 r.kd), .d (.str r.k), .d (.str r.tu), .d (.str r.old), .d (.str r.nu)]]) ([]) ([]) ([tabD u]) (isH (.one (.d (.bool (losesT u r)))) ([]) ([]) ([tabD u])) := by
 obtain ⟨hr1, hr2, hr3, hr4⟩ := hr
 refine HCall.ofD tOk ⟨0, 0, 1⟩ (fn := Tryz.f65) Tryz.func65 (by kernel_rfl) rfl (Nat.le_of_ble_eq_true rfl) (fun E => ?_)
 refine W.seq ?_
 refine W.region ?_
 refine S.box rfl rfl rfl rfl ?_
 refine S.pure tOk zOk rfl rfl rfl ?_
 refine thenK_n ?_
 refine W.seq ?_
 refine W.seq ?_
 refine W.region ?_
 refine S.pure tOk zOk rfl rfl rfl ?_
 refine S.pure tOk zOk rfl rfl rfl ?_
 refine thenK_n ?_
 refine W.block ?_
 refine W.seq ?_
 refine W.region ?_
 refine S.pure tOk zOk rfl rfl rfl ?_
 refine S.pure tOk zOk rfl rfl rfl ?_
 refine thenK_n ?_
 refine W.cond rfl (fun c1 => ?_) (fun c1 => ?_)
 ·skip
  refine W.seq ?_
  refine W.region ?_
  refine S.pure tOk zOk rfl rfl rfl ?_
  refine S.pure tOk zOk rfl rfl rfl ?_
  refine S.pure tOk zOk rfl rfl rfl ?_
  refine S.lookup tOk keyS (fD := fun v : List UInt8 => DV.one (.str v)) [] (u) rfl rfl rfl rfl rfl rfl rfl rfl rfl rfl (show mapV true _ _ = V.tup [_, _] from rfl) ?_
  refine S.pure tOk zOk rfl rfl rfl ?_
  refine S.pure tOk zOk rfl rfl rfl ?_
  refine S.pure tOk zOk rfl rfl rfl ?_
  refine S.pure tOk zOk rfl rfl rfl ?_
  refine S.pure tOk zOk rfl rfl rfl ?_
  refine thenK_n ?_
  refine W.seq ?_
  refine W.region ?_
  refine S.pure tOk zOk rfl rfl rfl ?_
  refine S.pure tOk zOk rfl rfl rfl ?_
  refine thenK_n ?_
  refine W.ret ?_
  refine blockK_r ?_
  refine thenK_r ?_
  exact ⟨_, rfl, rfl, LeG.of_force rfl (by rw [los_1 c1]), rfl, rfl, rfl⟩
 ·skip
  refine W.seq ?_
  refine W.region ?_
  refine S.pure tOk zOk rfl rfl rfl ?_
  refine S.pure tOk zOk rfl rfl rfl ?_
  refine thenK_n ?_
  refine W.cond rfl (fun c2 => ?_) (fun c2 => ?_)
  ·skip
   refine W.forMap (enc := D.str) (fD := fun v : List UInt8 => DV.one (.str v)) (l0 := u) (mi := 0) tOk (fun q M dn st => dn.any (fun x => (tailOf x.1 r.tu).isSome) = false ∧ st = ⟨ofL [(25, .one (.d (.raw q))), (0, .one (.map 0)), (3, .one (.ptr 0 0))], [[.d (.int .i64 r.kd), .d (.str r.k), .d (.str r.tu), .d (.str r.old), .d (.str r.nu)]], [], [M]⟩) 1 rfl rfl rfl (by rintro q M dn _ ⟨f1_0, rfl⟩; exact ⟨rfl, rfl⟩) ⟨rfl, rfl, rfl, rfl⟩ ?_ ?_ ?_
   ·skip
    refine S.pure tOk zOk rfl rfl rfl ?_
    refine WL.nil ?_
    exact ⟨rfl, rfl, fun q M => ⟨_, ⟨rfl, rfl⟩, Wk.keep rfl ⟨rfl, rfl, rfl, trivial⟩ rfl⟩⟩
   ·skip
    rintro q M dn _ j1 c1001 born1 y rest E1 ⟨f1_0, rfl⟩ hE1 hst1 hp un1
    refine W.keep [(25, .one (.d (.raw q))), (0, .one (.map 0)), (3, .one (.ptr 0 0))] ⟨rfl, rfl, rfl, trivial⟩ ?_
    have hy := mem_len hl hp
    refine W.block ?_
    refine W.seq ?_
    refine W.region ?_
    refine S.entry hE1 rfl rfl hst1.at ?_
    refine S.pure tOk zOk rfl rfl rfl ?_
    refine S.pure tOk zOk rfl rfl rfl ?_
    refine thenK_n ?_
    refine W.seq ?_
    refine W.region ?_
    refine S.pure tOk zOk rfl rfl rfl ?_
    refine S.pure tOk zOk rfl rfl rfl ?_
    refine S.pure tOk zOk rfl rfl rfl ?_
    refine S.pure tOk zOk rfl rfl rfl ?_
    refine S.pure tOk zOk rfl rfl rfl ?_
    refine S.pureG tOk zOk rfl rfl tg (fun _ => rfl) rfl ?_
    refine S.pureG tOk zOk rfl rfl tg (fun _ => rfl) rfl ?_
    refine S.pureG tOk zOk rfl rfl tg (fun _ => rfl) rfl ?_
    refine S.callG rfl rfl rfl rfl tg rfl rfl (fun _ => pc_mbelow y.1 r.tu (by omega)) ?_
    refine S.pickOr tOk zOk rfl rfl tg ?_
    refine thenK_n ?_
    refine W.cond rfl (fun c3 => ?_) (fun c3 => ?_)
    ·skip
     have hs : (tailOf y.1 r.tu).isSome = true := (tail_is _ _).trans c3
     have ha := anyp_hit (p := fun x : L8 × L8 => (tailOf x.1 r.tu).isSome) hp hs
     refine W.seq ?_
     refine W.region ?_
     refine S.pure tOk zOk rfl rfl rfl ?_
     refine thenK_n ?_
     refine un1 _ _ _ _ _ _ _ rfl rfl ?_
     refine W.ret ?_
     refine blockK_r ?_
     refine thenK_r ?_
     refine blockK_r ?_
     refine blockK_r ?_
     refine thenK_r ?_
     exact ⟨_, rfl, rfl, LeG.of_force rfl (by rw [los_2 c1 c2, ha]; rfl), rfl, rfl, rfl⟩
    ·skip
     have hs : (tailOf y.1 r.tu).isSome = false := (tail_is _ _).trans c3
     refine W.skip ?_
     refine blockK_n ?_
     exact thenK_n ⟨_, ⟨any_snoc f1_0 hs, rfl⟩, Wk.keep rfl ⟨rfl, rfl, rfl, trivial⟩ rfl⟩
   ·skip
    rintro q M dn _ ⟨f1_0, rfl⟩ hp
    have ha := anyp_end hp f1_0
    refine ⟨_, Wk.keep (l := [(25, .one (.d (.raw q))), (0, .one (.map 0)), (3, .one (.ptr 0 0))]) (b1 := [[.d (.int .i64 r.kd), .d (.str r.k), .d (.str r.tu), .d (.str r.old), .d (.str r.nu)]]) (b2 := []) (r1 := []) (r2 := []) (m1 := [mapOf D.str (fun v : List UInt8 => DV.one (.str v)) (u)]) (m2 := []) rfl ⟨rfl, rfl, rfl, trivial⟩ rfl, ?_⟩
    refine blockK_n ?_
    refine thenK_n ?_
    refine W.seq ?_
    refine W.region ?_
    refine S.pure tOk zOk rfl rfl rfl ?_
    refine thenK_n ?_
    refine W.ret ?_
    exact ⟨_, rfl, rfl, LeG.of_force rfl (by rw [los_2 c1 c2, ha]; rfl), rfl, rfl, rfl⟩
  ·skip
   refine W.seq ?_
   refine W.region ?_
   refine S.pure tOk zOk rfl rfl rfl ?_
   refine S.pure tOk zOk rfl rfl rfl ?_
   refine thenK_n ?_
   refine W.cond rfl (fun c4 => ?_) (fun c4 => ?_)
   ·skip
    refine W.seq ?_
    refine W.region ?_
    refine S.pure tOk zOk rfl rfl rfl ?_
    refine S.pure tOk zOk rfl rfl rfl ?_
    refine S.pure tOk zOk rfl rfl rfl ?_
    refine S.lookup tOk keyS (fD := fun v : List UInt8 => DV.one (.str v)) [] (u) rfl rfl rfl rfl rfl rfl rfl rfl rfl rfl (show mapV true _ _ = V.tup [_, _] from rfl) ?_
    refine S.pure tOk zOk rfl rfl rfl ?_
    refine S.pure tOk zOk rfl rfl rfl ?_
    refine S.pure tOk zOk rfl rfl rfl ?_
    refine S.pure tOk zOk rfl rfl rfl ?_
    refine S.pure tOk zOk rfl rfl rfl ?_
    refine thenK_n ?_
    refine W.seq ?_
    refine W.region ?_
    refine S.pure tOk zOk rfl rfl rfl ?_
    refine S.pure tOk zOk rfl rfl rfl ?_
    refine S.pureG tOk zOk rfl rfl tg (fun _ => rfl) rfl ?_
    refine S.pureG tOk zOk rfl rfl tg (fun _ => rfl) rfl ?_
    refine S.pureG tOk zOk rfl rfl tg (fun _ => rfl) rfl ?_
    refine S.pureG tOk zOk rfl rfl tg (fun _ => rfl) rfl ?_
    refine S.pickAnd tOk zOk rfl rfl tg ?_
    refine S.pure tOk zOk rfl rfl rfl ?_
    refine thenK_n ?_
    refine W.ret ?_
    refine blockK_r ?_
    refine thenK_r ?_
    exact ⟨_, rfl, rfl, LeG.of_force rfl (by rw [los_7 c1 c2 c4]), rfl, rfl, rfl⟩
   ·skip
    refine W.skip ?_
    refine blockK_n ?_
    refine thenK_n ?_
    refine W.seq ?_
    refine W.region ?_
    refine S.pure tOk zOk rfl rfl rfl ?_
    refine thenK_n ?_
    refine W.ret ?_
    exact ⟨_, rfl, rfl, LeG.of_force rfl (by rw [los_0 c1 c2 c4]; rfl), rfl, rfl, rfl⟩
end Go.Proofs.YtcchfmilleffjaaGreatDoor
namespace Go.Proofs.YtcchfmilleffjaaGreatDoor
open Go
open Go.RowKit
attribute [local irreducible] rangeB pathB nameB valueB firstNe tailOf listT ndT badP sortS prefT stepE listE ruleC doT runT
theorem pc_migrate_runFault (ss : List Stg) (rs : List Rul) (hn : ss.length ≤ 2000000) (hs : ∀ s ∈ ss, s.k.length < 4294967000 ∧ s.v.length < 4294967000) (hm : rs.length ≤ 2000000) (hrb : ∀ r ∈ rs, RulB r) :
  PureCall Tryz.prog J 67 [.one (.d (.vec 2 (ss.map stgD))), .one (.d (.vec 5 (rs.map rulD)))] (.one (.d (.int .i64 (runF ss rs)))) := by
 refine PureCall.of_body tOk (fn := Tryz.f67) Tryz.func67 (by kernel_rfl) rfl (Nat.le_of_ble_eq_true rfl) (fun E => ?_)
 refine W.seq ?_
 refine W.region ?_
 refine S.pure tOk zOk rfl rfl rfl ?_
 refine thenK_n ?_
 refine W.seq ?_
 refine W.seq ?_
 refine W.region ?_
 refine S.pure tOk zOk rfl rfl rfl ?_
 refine S.call rfl rfl rfl rfl rfl (pc_migrate_settingsFault ss hn hs) ?_
 refine S.pure tOk zOk rfl rfl rfl ?_
 refine thenK_n ?_
 refine W.seq ?_
 refine W.region ?_
 refine S.pure tOk zOk rfl rfl rfl ?_
 refine S.pure tOk zOk rfl rfl rfl ?_
 refine thenK_n ?_
 refine W.cond rfl (fun c1 => ?_) (fun c1 => ?_)
 ·skip
  refine W.seq ?_
  refine W.region ?_
  refine S.pure tOk zOk rfl rfl rfl ?_
  refine S.pure tOk zOk rfl rfl rfl ?_
  refine thenK_n ?_
  refine W.ret ?_
  refine thenK_r ?_
  exact ⟨_, rfl, rfl, LeV.of_force rfl (by rw [runF_1 c1])⟩
 ·skip
  refine W.skip ?_
  refine thenK_n ?_
  refine W.seq ?_
  refine W.seq ?_
  refine W.region ?_
  refine S.pure tOk zOk rfl rfl rfl ?_
  refine S.pure tOk zOk rfl rfl rfl ?_
  refine S.pure tOk zOk rfl rfl rfl ?_
  refine S.pure tOk zOk rfl rfl rfl ?_
  refine S.pureG tOk zOk rfl rfl tg (fun _ => rfl) rfl ?_
  refine S.pureG tOk zOk rfl rfl tg (fun _ => rfl) rfl ?_
  refine S.pureG tOk zOk rfl rfl tg (fun _ => rfl) rfl ?_
  refine S.pickOr tOk zOk rfl rfl tg ?_
  refine thenK_n ?_
  refine W.cond rfl (fun c2 => ?_) (fun c2 => ?_)
  ·skip
   refine W.seq ?_
   refine W.region ?_
   refine S.pure tOk zOk rfl rfl rfl ?_
   refine thenK_n ?_
   refine W.ret ?_
   refine thenK_r ?_
   exact ⟨_, rfl, rfl, LeV.of_force rfl (by rw [runF_2 c1 (by simpa using c2)]; rfl)⟩
  ·skip
   refine W.skip ?_
   refine thenK_n ?_
   refine W.seq ?_
   refine W.seq ?_
   refine W.region ?_
   refine S.pure tOk zOk rfl rfl rfl ?_
   refine S.pure tOk zOk rfl rfl rfl ?_
   refine S.pure tOk zOk rfl rfl rfl ?_
   refine thenK_n ?_
   refine W.block ?_
   refine W.loop (fun k st => ∃ i : Nat, i ≤ rs.length ∧ ((rs.map ruleC).take i).all (· == 0) = true ∧ k = rs.length - i ∧ ∃ t b2 r2 m2, st = ⟨t, [] ++ b2, [] ++ r2, [] ++ m2⟩ ∧ holdsL t [(22, .one (.d (.vec 5 (rs.map rulD)))), (23, .one (.d (.int .i64 ((rs.map rulD).length : Int)))), (24, .one (.d (.int .i64 (i : Int))))]) (rs.length) ⟨0, Nat.zero_le _, by simp, rfl, _, _, _, _, rfl, rfl, rfl, rfl, trivial⟩ ?_
   rintro k0 _ ⟨i, f0_0, f0_1, rfl, t0, bb0, rr0, mm0, rfl, hh0⟩
   refine W.keepR _ _ _ _ _ _ _ hh0 rfl ?_
   refine W.seq ?_
   refine W.region ?_
   refine S.pure tOk zOk rfl rfl rfl ?_
   refine thenK_n ?_
   refine W.seq ?_
   refine W.cond rfl (fun c3 => ?_) (fun c3 => ?_)
   ·skip
    have hi := row_lt c3
    have hri := hrb _ (mem_getD (d := Rul.z) hi)
    refine W.skip ?_
    refine thenK_n ?_
    refine W.seq ?_
    refine W.block ?_
    refine W.seq ?_
    refine W.region ?_
    refine S.pureE tOk zOk rfl (row_ok hi) (row_at Rul.z hi) rfl ?_
    refine S.pure tOk zOk rfl rfl rfl ?_
    refine S.alloc tOk rfl rfl rfl rfl ?_
    refine S.store tOk rfl rfl rfl rfl rfl rfl rfl rfl ?_
    refine thenK_n ?_
    refine W.seq ?_
    refine W.region ?_
    refine S.pure tOk zOk rfl rfl rfl ?_
    refine S.call rfl rfl rfl rfl rfl (pc_CheckRule (rs.getD i Rul.z) hri) ?_
    refine S.pure tOk zOk rfl rfl rfl ?_
    refine thenK_n ?_
    refine W.seq ?_
    refine W.region ?_
    refine S.pure tOk zOk rfl rfl rfl ?_
    refine S.pure tOk zOk rfl rfl rfl ?_
    refine thenK_n ?_
    refine W.cond rfl (fun c4 => ?_) (fun c4 => ?_)
    ·skip
     refine W.seq ?_
     refine W.region ?_
     refine S.pure tOk zOk rfl rfl rfl ?_
     refine S.pure tOk zOk rfl rfl rfl ?_
     refine thenK_n ?_
     refine W.ret ?_
     refine blockK_r ?_
     refine thenK_r ?_
     refine thenK_r ?_
     refine blockK_r ?_
     refine thenK_r ?_
     exact ⟨_, rfl, rfl, LeV.of_force rfl (by rw [runF_3 c1 (by simpa using c2)]; unfold rulesE; rw [fe_hit (d := Rul.z) hi f0_1 c4])⟩
    ·skip
     refine W.skip ?_
     refine blockK_n ?_
     refine thenK_n ?_
     refine W.region ?_
     refine S.pure tOk zOk rfl rfl rfl ?_
     refine S.pure tOk zOk rfl rfl rfl ?_
     refine loop_n (rs.length - (i + 1)) (by omega) ⟨i + 1, hi, fe_next (d := Rul.z) hi f0_1 c4, rfl, _, _, _, _, rfl, rfl, rfl, inc_i64 (by omega), trivial⟩
   ·skip
    have hi := row_ge c3
    obtain rfl : i = rs.length := by omega
    refine W.exit ?_
    refine thenK_e ?_
    refine thenK_e ?_
    refine blockK_x ?_
    refine thenK_n ?_
    refine W.seq ?_
    refine W.region ?_
    refine S.pure tOk zOk rfl rfl rfl ?_
    refine thenK_n ?_
    refine W.ret ?_
    exact ⟨_, rfl, rfl, LeV.of_force rfl (by rw [runF_3 c1 (by simpa using c2)]; unfold rulesE; rw [fe_end hi f0_1]; rfl)⟩
theorem le_runNil {n : Int} {x : List Stg × Int} (h : x = ([], n)) : LeV (.tup [.one (.d .nilsl), .one (.d (.int .i64 n))]) (.tup [.one (.d (.vec 2 (x.1.map stgD))), .one (.d (.int .i64 x.2))]) := by
  subst h; exact LeV.tup2 (LeV.nil 2) (LeV.refl _)
theorem pc_migrate_Run (ss : List Stg) (rs : List Rul) (hn : ss.length ≤ 2000000) (hs : ∀ s ∈ ss, s.k.length < 4294967000 ∧ s.v.length < 4294967000) (hm : rs.length ≤ 2000000) (hrb : ∀ r ∈ rs, RulB r) :
  PureCall Tryz.prog J 18 [.one (.d (.vec 2 (ss.map stgD))), .one (.d (.vec 5 (rs.map rulD)))] (.tup [.one (.d (.vec 2 ((runP ss rs).1.map stgD))), .one (.d (.int .i64 (runP ss rs).2))]) := by
 refine PureCall.of_body tOk (fn := Tryz.f18) Tryz.func18 (by kernel_rfl) rfl (Nat.le_of_ble_eq_true rfl) (fun E => ?_)
 refine W.seq ?_
 refine W.region ?_
 refine S.pure tOk zOk rfl rfl rfl ?_
 refine S.pure tOk zOk rfl rfl rfl ?_
 refine thenK_n ?_
 refine W.seq ?_
 refine W.seq ?_
 refine W.region ?_
 refine S.pure tOk zOk rfl rfl rfl ?_
 refine S.pure tOk zOk rfl rfl rfl ?_
 refine S.call rfl rfl rfl rfl rfl (pc_migrate_runFault ss rs hn hs hm hrb) ?_
 refine S.pure tOk zOk rfl rfl rfl ?_
 refine thenK_n ?_
 refine W.seq ?_
 refine W.region ?_
 refine S.pure tOk zOk rfl rfl rfl ?_
 refine S.pure tOk zOk rfl rfl rfl ?_
 refine thenK_n ?_
 refine W.cond rfl (fun c1 => ?_) (fun c1 => ?_)
 ·skip
  refine W.seq ?_
  refine W.region ?_
  refine S.pure tOk zOk rfl rfl rfl ?_
  refine S.pure tOk zOk rfl rfl rfl ?_
  refine S.pure tOk zOk rfl rfl rfl ?_
  refine thenK_n ?_
  refine W.ret ?_
  refine thenK_r ?_
  exact ⟨_, rfl, rfl, le_runNil (runP_1 c1)⟩
 ·skip
  have hok := run_ok c1
  refine W.skip ?_
  refine thenK_n ?_
  refine W.seq ?_
  refine W.region ?_
  refine S.pure tOk zOk rfl rfl rfl ?_
  refine S.hcallD rfl rfl rfl rfl ((pc_tableOf ss (by omega)).frameD [] [] [] rfl rfl rfl rfl rfl rfl rfl rfl rfl) ?_
  refine S.pure tOk zOk rfl rfl rfl ?_
  refine thenK_n ?_
  refine W.seq ?_
  refine W.seq ?_
  refine W.region ?_
  refine S.pure tOk zOk rfl rfl rfl ?_
  refine S.pure tOk zOk rfl rfl rfl ?_
  refine S.pure tOk zOk rfl rfl rfl ?_
  refine thenK_n ?_
  refine W.block ?_
  refine W.loop (fun k st => ∃ i : Nat, ∃ tab : Tab, i ≤ rs.length ∧ Way ss rs i tab ∧ (((List.range rs.length).map (stepAt ss rs)).take i).all (· == 0) = true ∧ k = rs.length - i ∧ ∃ t b2 r2 m2, st = ⟨t, [] ++ b2, [] ++ r2, [tabD tab] ++ m2⟩ ∧ holdsL t [(7, .one (.map 0)), (19, .one (.d (.vec 5 (rs.map rulD)))), (20, .one (.d (.int .i64 ((rs.map rulD).length : Int)))), (21, .one (.d (.int .i64 (i : Int))))]) (rs.length) ⟨0, _, Nat.zero_le _, way_0 hok, by simp, rfl, _, _, _, _, rfl, rfl, rfl, rfl, rfl, trivial⟩ ?_
  rintro k0 _ ⟨i, tab, f0_0, f0_1, f0_2, rfl, t0, bb0, rr0, mm0, rfl, hh0⟩
  refine W.keepR _ _ _ _ _ _ _ hh0 rfl ?_
  refine W.seq ?_
  refine W.region ?_
  refine S.pure tOk zOk rfl rfl rfl ?_
  refine thenK_n ?_
  refine W.seq ?_
  refine W.cond rfl (fun c2 => ?_) (fun c2 => ?_)
  ·skip
   have hi := row_lt c2
   have hri := hrb _ (mem_getD (d := Rul.z) hi)
   refine W.skip ?_
   refine thenK_n ?_
   refine W.seq ?_
   refine W.block ?_
   refine W.seq ?_
   refine W.region ?_
   refine S.pureE tOk zOk rfl (row_ok hi) (row_at Rul.z hi) rfl ?_
   refine S.pure tOk zOk rfl rfl rfl ?_
   refine S.alloc tOk rfl rfl rfl rfl ?_
   refine S.store tOk rfl rfl rfl rfl rfl rfl rfl rfl ?_
   refine thenK_n ?_
   refine W.seq ?_
   refine W.region ?_
   refine S.pure tOk zOk rfl rfl rfl ?_
   refine S.pure tOk zOk rfl rfl rfl ?_
   refine S.hcallX rfl rfl rfl rfl ((pc_do tab (rs.getD i Rul.z) hri f0_1.eq.l f0_1.key (by have := f0_1.len; omega)).frameX [] [] [0] rfl rfl rfl rfl rfl (fun _ => rfl) (fun _ => rfl) (fun _ => rfl) (fun _ => rfl)) ?_
   rintro tab1 h1
   refine S.pure tOk zOk rfl rfl rfl ?_
   refine thenK_n ?_
   refine W.seq ?_
   refine W.region ?_
   refine S.pure tOk zOk rfl rfl rfl ?_
   refine S.pure tOk zOk rfl rfl rfl ?_
   refine thenK_n ?_
   refine W.cond rfl (fun c3 => ?_) (fun c3 => ?_)
   ·skip
    have hz : stepAt ss rs i ≠ 0 := by rw [← f0_1.at]; simpa using c3
    refine W.seq ?_
    refine W.region ?_
    refine S.pure tOk zOk rfl rfl rfl ?_
    refine S.pure tOk zOk rfl rfl rfl ?_
    refine S.pure tOk zOk rfl rfl rfl ?_
    refine thenK_n ?_
    refine W.ret ?_
    refine blockK_r ?_
    refine thenK_r ?_
    refine thenK_r ?_
    refine blockK_r ?_
    refine thenK_r ?_
    exact ⟨_, rfl, rfl, le_runNil (by rw [f0_1.at]; exact runP_2 c1 _ (se_hit hi f0_2 hz) hz)⟩
   ·skip
    have hz : stepE tab (rs.getD i Rul.z) = 0 := by simpa using c3
    have h2 : EqT tab1 (doT tab (rs.getD i Rul.z)) := by rw [doX_f (step_bad hz)] at h1; exact h1
    refine W.skip ?_
    refine blockK_n ?_
    refine thenK_n ?_
    refine W.region ?_
    refine S.pure tOk zOk rfl rfl rfl ?_
    refine S.pure tOk zOk rfl rfl rfl ?_
    refine loop_n (rs.length - (i + 1)) (by omega) ⟨i + 1, tab1, hi, way_next f0_1 (hok.ok _ (mem_getD hi)) hz h2, se_next hi f0_2 (f0_1.at.symm.trans hz), rfl, _, _, _, _, rfl, rfl, rfl, rfl, inc_i64 (by omega), trivial⟩
  ·skip
   have hi := row_ge c2
   obtain rfl : i = rs.length := by omega
   refine W.exit ?_
   refine thenK_e ?_
   refine thenK_e ?_
   refine blockK_x ?_
   refine thenK_n ?_
   refine W.seq ?_
   refine W.region ?_
   refine S.pure tOk zOk rfl rfl rfl ?_
   refine S.hcallD rfl rfl rfl rfl ((pc_settings tab f0_1.eq.l f0_1.key (by have := f0_1.len; omega)).frameD [] [] [0] rfl rfl rfl rfl rfl rfl rfl rfl rfl) ?_
   refine S.pure tOk zOk rfl rfl rfl ?_
   refine S.pure tOk zOk rfl rfl rfl ?_
   refine thenK_n ?_
   refine W.ret ?_
   exact ⟨_, rfl, rfl, LeV.of_force rfl (by rw [runP_3 c1 (se_end hi f0_2), f0_1.eq.list]; rfl)⟩
end Go.Proofs.YtcchfmilleffjaaGreatDoor
namespace Go.Proofs.YtcchfmilleffjaaGreatDoor
open Go
open Go.RowKit
attribute [local irreducible] rangeB pathB nameB valueB firstNe tailOf listT ndT badP sortS prefT stepE listE ruleC doT runT
end Go.Proofs.YtcchfmilleffjaaGreatDoor
namespace Go.Proofs.YtcchfmilleffjaaGreatDoor
open Go
open Go.RowKit
attribute [local irreducible] rangeB pathB nameB valueB firstNe ruleC invR revTo revMid invTo
theorem pc_Inverse (r : Rul) (hr : RulB r) :
  PureCall Tryz.prog J 69 [.agg [.d (.int .i64 r.kd), .d (.str r.k), .d (.str r.tu), .d (.str r.old), .d (.str r.nu)]] (.tup [.agg [.d (.int .i64 (invR r).1.kd), .d (.str (invR r).1.k), .d (.str (invR r).1.tu), .d (.str (invR r).1.old), .d (.str (invR r).1.nu)], .one (.d (.int .i64 (invR r).2))]) := by
 refine PureCall.of_body tOk (fn := Tryz.f69) Tryz.func69 (by kernel_rfl) rfl (Nat.le_of_ble_eq_true rfl) (fun E => ?_)
 refine W.seq ?_
 refine W.region ?_
 refine S.box rfl rfl rfl rfl ?_
 refine S.alloc tOk rfl rfl rfl rfl ?_
 refine S.pure tOk zOk rfl rfl rfl ?_
 refine thenK_n ?_
 refine W.seq ?_
 refine W.seq ?_
 refine W.region ?_
 refine S.pure tOk zOk rfl rfl rfl ?_
 refine S.call rfl rfl rfl rfl rfl (pc_CheckRule r hr) ?_
 refine S.pure tOk zOk rfl rfl rfl ?_
 refine thenK_n ?_
 refine W.seq ?_
 refine W.region ?_
 refine S.pure tOk zOk rfl rfl rfl ?_
 refine S.pure tOk zOk rfl rfl rfl ?_
 refine thenK_n ?_
 refine W.cond rfl (fun c1 => ?_) (fun c1 => ?_)
 ·skip
  refine W.seq ?_
  refine W.region ?_
  refine S.pure tOk zOk rfl rfl rfl ?_
  refine S.pure tOk zOk rfl rfl rfl ?_
  refine S.store tOk rfl rfl rfl rfl rfl rfl rfl rfl ?_
  refine S.pure tOk zOk rfl rfl rfl ?_
  refine thenK_n ?_
  refine W.ret ?_
  refine thenK_r ?_
  exact ⟨_, rfl, rfl, LeV.of_force rfl (by rw [inv_1 c1]; rfl)⟩
 ·skip
  refine W.skip ?_
  refine thenK_n ?_
  refine W.seq ?_
  refine W.seq ?_
  refine W.region ?_
  refine S.pure tOk zOk rfl rfl rfl ?_
  refine S.pure tOk zOk rfl rfl rfl ?_
  refine thenK_n ?_
  refine W.block ?_
  refine W.seq ?_
  refine W.seq ?_
  refine W.region ?_
  refine S.pure tOk zOk rfl rfl rfl ?_
  refine S.pure tOk zOk rfl rfl rfl ?_
  refine thenK_n ?_
  refine W.cond rfl (fun c2 => ?_) (fun c2 => ?_)
  ·skip
   refine W.skip ?_
   refine thenK_n ?_
   refine W.cond rfl (fun c3 => ?_) (fun c3 => ?_)
   ·skip
    refine W.region ?_
    refine S.pure tOk zOk rfl rfl rfl ?_
    refine S.pure tOk zOk rfl rfl rfl ?_
    refine S.pure tOk zOk rfl rfl rfl ?_
    refine S.pure tOk zOk rfl rfl rfl ?_
    refine S.pure tOk zOk rfl rfl rfl ?_
    refine S.store tOk rfl rfl rfl rfl rfl rfl rfl rfl ?_
    refine S.pure tOk zOk rfl rfl rfl ?_
    refine S.store tOk rfl rfl rfl rfl rfl rfl rfl rfl ?_
    refine blockK_n ?_
    refine thenK_n ?_
    refine W.seq ?_
    refine W.region ?_
    refine S.pure tOk zOk rfl rfl rfl ?_
    refine S.store tOk rfl rfl rfl rfl rfl rfl rfl rfl ?_
    refine S.pure tOk zOk rfl rfl rfl ?_
    refine thenK_n ?_
    refine W.ret ?_
    exact ⟨_, rfl, rfl, LeV.of_force rfl (by rw [inv_2 c1 (two_1 c2)]; rfl)⟩
   ·skip
    exact absurd (c2.symm.trans c3) (by decide)
  ·skip
   refine W.region ?_
   refine S.pure tOk zOk rfl rfl rfl ?_
   refine S.pure tOk zOk rfl rfl rfl ?_
   refine thenK_n ?_
   refine W.cond rfl (fun c4 => ?_) (fun c4 => ?_)
   ·skip
    refine W.region ?_
    refine S.pure tOk zOk rfl rfl rfl ?_
    refine S.pure tOk zOk rfl rfl rfl ?_
    refine S.pure tOk zOk rfl rfl rfl ?_
    refine S.pure tOk zOk rfl rfl rfl ?_
    refine S.pure tOk zOk rfl rfl rfl ?_
    refine S.store tOk rfl rfl rfl rfl rfl rfl rfl rfl ?_
    refine S.pure tOk zOk rfl rfl rfl ?_
    refine S.store tOk rfl rfl rfl rfl rfl rfl rfl rfl ?_
    refine blockK_n ?_
    refine thenK_n ?_
    refine W.seq ?_
    refine W.region ?_
    refine S.pure tOk zOk rfl rfl rfl ?_
    refine S.store tOk rfl rfl rfl rfl rfl rfl rfl rfl ?_
    refine S.pure tOk zOk rfl rfl rfl ?_
    refine thenK_n ?_
    refine W.ret ?_
    exact ⟨_, rfl, rfl, LeV.of_force rfl (by rw [inv_2 c1 (two_2 c4)]; rfl)⟩
   ·skip
    refine W.seq ?_
    refine W.region ?_
    refine S.pure tOk zOk rfl rfl rfl ?_
    refine S.pure tOk zOk rfl rfl rfl ?_
    refine thenK_n ?_
    refine W.cond rfl (fun c5 => ?_) (fun c5 => ?_)
    ·skip
     refine W.region ?_
     refine S.pure tOk zOk rfl rfl rfl ?_
     refine S.pure tOk zOk rfl rfl rfl ?_
     refine S.pure tOk zOk rfl rfl rfl ?_
     refine S.pure tOk zOk rfl rfl rfl ?_
     refine S.pure tOk zOk rfl rfl rfl ?_
     refine S.store tOk rfl rfl rfl rfl rfl rfl rfl rfl ?_
     refine S.pure tOk zOk rfl rfl rfl ?_
     refine S.store tOk rfl rfl rfl rfl rfl rfl rfl rfl ?_
     refine blockK_n ?_
     refine thenK_n ?_
     refine W.seq ?_
     refine W.region ?_
     refine S.pure tOk zOk rfl rfl rfl ?_
     refine S.store tOk rfl rfl rfl rfl rfl rfl rfl rfl ?_
     refine S.pure tOk zOk rfl rfl rfl ?_
     refine thenK_n ?_
     refine W.ret ?_
     exact ⟨_, rfl, rfl, LeV.of_force rfl (by rw [inv_7 c1 (two_or c2 c4) c5]; rfl)⟩
    ·skip
     refine W.seq ?_
     refine W.region ?_
     refine S.pure tOk zOk rfl rfl rfl ?_
     refine S.pure tOk zOk rfl rfl rfl ?_
     refine thenK_n ?_
     refine W.cond rfl (fun c6 => ?_) (fun c6 => ?_)
     ·skip
      refine W.skip ?_
      refine blockK_n ?_
      refine thenK_n ?_
      refine W.seq ?_
      refine W.region ?_
      refine S.pure tOk zOk rfl rfl rfl ?_
      refine S.store tOk rfl rfl rfl rfl rfl rfl rfl rfl ?_
      refine S.pure tOk zOk rfl rfl rfl ?_
      refine thenK_n ?_
      refine W.ret ?_
      exact ⟨_, rfl, rfl, LeV.of_force rfl (by rw [inv_8 c1 (two_or c2 c4) c5 c6]; rfl)⟩
     ·skip
      refine W.seq ?_
      refine W.region ?_
      refine S.pure tOk zOk rfl rfl rfl ?_
      refine S.store tOk rfl rfl rfl rfl rfl rfl rfl rfl ?_
      refine S.pure tOk zOk rfl rfl rfl ?_
      refine thenK_n ?_
      refine W.ret ?_
      refine blockK_r ?_
      refine thenK_r ?_
      exact ⟨_, rfl, rfl, LeV.of_force rfl (by rw [inv_0 c1 (two_or c2 c4) c5 c6]; rfl)⟩
theorem pc_Reverse (xs : List Rul) (al : Bool) (hl : xs.length ≤ 1000000) :
  HCall Tryz.prog J 70 ([.one (.row 0 0 0 xs.length)]) ([]) ([some ⟨al, 0, 5, 79, (xs).map rulD⟩]) ([]) (isH (.tup []) ([]) ([some ⟨al, 0, 5, 79, (xs.reverse).map rulD⟩]) ([])) := by
 refine HCall.ofD tOk ⟨0, 1, 0⟩ (fn := Tryz.f70) Tryz.func70 (by kernel_rfl) rfl (Nat.le_of_ble_eq_true rfl) (fun E => ?_)
 refine W.seq ?_
 refine W.region ?_
 refine S.pure tOk zOk rfl rfl rfl ?_
 refine S.pure tOk zOk rfl rfl rfl ?_
 refine S.pure tOk zOk rfl rfl rfl ?_
 refine S.pure tOk zOk rfl rfl rfl ?_
 refine S.pure tOk zOk rfl rfl rfl ?_
 refine thenK_n ?_
 rw [show xs.map rulD = (revTo xs 0).map rulD from by rw [revTo_0]]
 refine W.block ?_
 refine W.loop (fun k st => ∃ i : Nat, i ≤ xs.length ∧ k = xs.length - i ∧ ∃ t b2 r2 m2, st = ⟨t, [] ++ b2, [some ⟨al, 0, 5, 79, (revTo xs i).map rulD⟩] ++ r2, [] ++ m2⟩ ∧ holdsL t [(0, .one (.row 0 0 0 xs.length)), (2, .one (.d (.int .i64 (i : Int)))), (3, .one (.d (.int .i64 ((xs.length : Int) - 1 - (i : Int)))))]) (xs.length) ⟨0, Nat.zero_le _, rfl, _, _, _, _, rfl, rfl, rfl, rv_start (by omega), trivial⟩ ?_
 rintro k0 _ ⟨i, f0_0, rfl, t0, bb0, rr0, mm0, rfl, hh0⟩
 refine W.keepR _ _ _ _ _ _ _ hh0 rfl ?_
 refine W.seq ?_
 refine W.seq ?_
 refine W.region ?_
 refine S.pure tOk zOk rfl rfl rfl ?_
 refine S.pure tOk zOk rfl rfl rfl ?_
 refine S.pure tOk zOk rfl rfl rfl ?_
 refine thenK_n ?_
 refine W.cond rfl (fun c1 => ?_) (fun c1 => ?_)
 ·skip
  have hi : 2 * i + 1 < xs.length := by simp at c1; omega
  refine W.skip ?_
  refine thenK_n ?_
  refine W.seq ?_
  refine W.block ?_
  refine W.regionS 16 mixed rfl (by kernel_rfl) ?_
  refine AnyZ.eager 0 rfl (by kernel_rfl) (Eag.pure tOk zOk rfl (fun _ _ _ => rfl) rfl rfl) ?_
  refine AnyZ.eager 1 rfl (by kernel_rfl) (Eag.pure tOk zOk rfl (fun _ _ _ => rfl) rfl rfl) ?_
  refine AnyZ.eager 2 rfl (by kernel_rfl) (Eag.pure tOk zOk rfl (fun _ _ _ => rfl) rfl rfl) ?_
  refine AnyZ.eager 3 rfl (by kernel_rfl) (Eag.pure tOk zOk rfl (fun _ _ _ => rfl) rfl rfl) ?_
  refine AnyZ.eager 4 rfl (by kernel_rfl) (Eag.pure tOk zOk rfl (fun _ _ _ => rfl) rfl rfl) ?_
  refine AnyZ.eager 5 rfl (by kernel_rfl) (Eag.pure tOk zOk rfl (fun _ _ _ => rfl) rfl rfl) ?_
  refine AnyZ.eager 8 rfl (by kernel_rfl) (Eag.pure tOk zOk rfl (fun _ _ _ => rfl) rfl rfl) ?_
  refine AnyZ.eager 9 rfl (by kernel_rfl) (Eag.pure tOk zOk rfl (fun _ _ _ => rfl) rfl rfl) ?_
  refine AnyZ.two 6 10 (by kernel_rfl) rfl rfl ?_ ?_
  ·skip
   refine OpZ.d ?_
   refine D.pure tOk zOk rfl rfl (rv_ok2 (n := xs.length) (i := i) (by omega)) rfl ?_
   refine WD.nil ?_
   refine AnyZ.two 7 10 (by kernel_rfl) rfl rfl ?_ ?_
   ·skip
    refine OpZ.d ?_
    refine D.rload tOk rfl rfl rfl (rv_row2 hi) rfl rfl ?_
    refine WD.nil ?_
    refine AnyZ.one 10 (by kernel_rfl) rfl ?_
    refine OpZ.d ?_
    refine D.pure tOk zOk rfl rfl (rv_ok1 (n := xs.length) (i := i) (by omega)) rfl ?_
    refine WD.nil ?_
    refine AnyZ.one 11 (by kernel_rfl) rfl ?_
    refine OpZ.d ?_
    refine D.rload tOk rfl rfl rfl (rv_row1 hi) rfl rfl ?_
    refine WD.nil ?_
    refine AnyZ.one 12 (by kernel_rfl) rfl ?_
    refine OpZ.d ?_
    refine D.pure tOk zOk rfl rfl (rv_ok1 (n := xs.length) (i := i) (by omega)) rfl ?_
    refine WD.nil ?_
    refine AnyZ.one 13 (by kernel_rfl) rfl ?_
    refine OpZ.rstore tOk rfl rfl rfl rfl rfl rfl rfl (rv_set1 hi) rfl ?_
    refine AnyZ.one 14 (by kernel_rfl) rfl ?_
    refine OpZ.d ?_
    refine D.pure tOk zOk rfl rfl (rv_ok2 (n := xs.length) (i := i) (by omega)) rfl ?_
    refine WD.nil ?_
    refine AnyZ.one 15 (by kernel_rfl) rfl ?_
    refine OpZ.rstore tOk rfl rfl rfl rfl rfl rfl rfl (rv_set2 hi) rfl ?_
    refine AnyZ.nil (by kernel_rfl) ?_
    refine blockK_n ?_
    refine thenK_n ?_
    refine W.region ?_
    refine S.pure tOk zOk rfl rfl rfl ?_
    refine S.pure tOk zOk rfl rfl rfl ?_
    refine S.pure tOk zOk rfl rfl rfl ?_
    refine S.pure tOk zOk rfl rfl rfl ?_
    refine S.pure tOk zOk rfl rfl rfl ?_
    refine S.pure tOk zOk rfl rfl rfl ?_
    refine loop_n (xs.length - (i + 1)) (by omega) ⟨i + 1, (by omega), rfl, _, _, _, _, rfl, rfl, inc_i64 (by omega), rv_dec (by omega) (by omega), trivial⟩
   ·skip
    refine OpZ.d ?_
    refine D.pure tOk zOk rfl rfl (rv_ok1 (n := xs.length) (i := i) (by omega)) rfl ?_
    refine WD.nil ?_
    refine AnyZ.two 7 11 (by kernel_rfl) rfl rfl ?_ ?_
    ·skip
     refine OpZ.d ?_
     refine D.rload tOk rfl rfl rfl (rv_row2 hi) rfl rfl ?_
     refine WD.nil ?_
     refine AnyZ.one 11 (by kernel_rfl) rfl ?_
     refine OpZ.d ?_
     refine D.rload tOk rfl rfl rfl (rv_row1 hi) rfl rfl ?_
     refine WD.nil ?_
     refine AnyZ.one 12 (by kernel_rfl) rfl ?_
     refine OpZ.d ?_
     refine D.pure tOk zOk rfl rfl (rv_ok1 (n := xs.length) (i := i) (by omega)) rfl ?_
     refine WD.nil ?_
     refine AnyZ.one 13 (by kernel_rfl) rfl ?_
     refine OpZ.rstore tOk rfl rfl rfl rfl rfl rfl rfl (rv_set1 hi) rfl ?_
     refine AnyZ.one 14 (by kernel_rfl) rfl ?_
     refine OpZ.d ?_
     refine D.pure tOk zOk rfl rfl (rv_ok2 (n := xs.length) (i := i) (by omega)) rfl ?_
     refine WD.nil ?_
     refine AnyZ.one 15 (by kernel_rfl) rfl ?_
     refine OpZ.rstore tOk rfl rfl rfl rfl rfl rfl rfl (rv_set2 hi) rfl ?_
     refine AnyZ.nil (by kernel_rfl) ?_
     refine blockK_n ?_
     refine thenK_n ?_
     refine W.region ?_
     refine S.pure tOk zOk rfl rfl rfl ?_
     refine S.pure tOk zOk rfl rfl rfl ?_
     refine S.pure tOk zOk rfl rfl rfl ?_
     refine S.pure tOk zOk rfl rfl rfl ?_
     refine S.pure tOk zOk rfl rfl rfl ?_
     refine S.pure tOk zOk rfl rfl rfl ?_
     refine loop_n (xs.length - (i + 1)) (by omega) ⟨i + 1, (by omega), rfl, _, _, _, _, rfl, rfl, inc_i64 (by omega), rv_dec (by omega) (by omega), trivial⟩
    ·skip
     refine OpZ.d ?_
     refine D.rload tOk rfl rfl rfl (rv_row1 hi) rfl rfl ?_
     refine WD.nil ?_
     refine AnyZ.one 7 (by kernel_rfl) rfl ?_
     refine OpZ.d ?_
     refine D.rload tOk rfl rfl rfl (rv_row2 hi) rfl rfl ?_
     refine WD.nil ?_
     refine AnyZ.one 12 (by kernel_rfl) rfl ?_
     refine OpZ.d ?_
     refine D.pure tOk zOk rfl rfl (rv_ok1 (n := xs.length) (i := i) (by omega)) rfl ?_
     refine WD.nil ?_
     refine AnyZ.one 13 (by kernel_rfl) rfl ?_
     refine OpZ.rstore tOk rfl rfl rfl rfl rfl rfl rfl (rv_set1 hi) rfl ?_
     refine AnyZ.one 14 (by kernel_rfl) rfl ?_
     refine OpZ.d ?_
     refine D.pure tOk zOk rfl rfl (rv_ok2 (n := xs.length) (i := i) (by omega)) rfl ?_
     refine WD.nil ?_
     refine AnyZ.one 15 (by kernel_rfl) rfl ?_
     refine OpZ.rstore tOk rfl rfl rfl rfl rfl rfl rfl (rv_set2 hi) rfl ?_
     refine AnyZ.nil (by kernel_rfl) ?_
     refine blockK_n ?_
     refine thenK_n ?_
     refine W.region ?_
     refine S.pure tOk zOk rfl rfl rfl ?_
     refine S.pure tOk zOk rfl rfl rfl ?_
     refine S.pure tOk zOk rfl rfl rfl ?_
     refine S.pure tOk zOk rfl rfl rfl ?_
     refine S.pure tOk zOk rfl rfl rfl ?_
     refine S.pure tOk zOk rfl rfl rfl ?_
     refine loop_n (xs.length - (i + 1)) (by omega) ⟨i + 1, (by omega), rfl, _, _, _, _, rfl, rfl, inc_i64 (by omega), rv_dec (by omega) (by omega), trivial⟩
  ·skip
   refine OpZ.d ?_
   refine D.pure tOk zOk rfl rfl (rv_ok1 (n := xs.length) (i := i) (by omega)) rfl ?_
   refine WD.nil ?_
   refine AnyZ.two 6 11 (by kernel_rfl) rfl rfl ?_ ?_
   ·skip
    refine OpZ.d ?_
    refine D.pure tOk zOk rfl rfl (rv_ok2 (n := xs.length) (i := i) (by omega)) rfl ?_
    refine WD.nil ?_
    refine AnyZ.two 7 11 (by kernel_rfl) rfl rfl ?_ ?_
    ·skip
     refine OpZ.d ?_
     refine D.rload tOk rfl rfl rfl (rv_row2 hi) rfl rfl ?_
     refine WD.nil ?_
     refine AnyZ.one 11 (by kernel_rfl) rfl ?_
     refine OpZ.d ?_
     refine D.rload tOk rfl rfl rfl (rv_row1 hi) rfl rfl ?_
     refine WD.nil ?_
     refine AnyZ.one 12 (by kernel_rfl) rfl ?_
     refine OpZ.d ?_
     refine D.pure tOk zOk rfl rfl (rv_ok1 (n := xs.length) (i := i) (by omega)) rfl ?_
     refine WD.nil ?_
     refine AnyZ.one 13 (by kernel_rfl) rfl ?_
     refine OpZ.rstore tOk rfl rfl rfl rfl rfl rfl rfl (rv_set1 hi) rfl ?_
     refine AnyZ.one 14 (by kernel_rfl) rfl ?_
     refine OpZ.d ?_
     refine D.pure tOk zOk rfl rfl (rv_ok2 (n := xs.length) (i := i) (by omega)) rfl ?_
     refine WD.nil ?_
     refine AnyZ.one 15 (by kernel_rfl) rfl ?_
     refine OpZ.rstore tOk rfl rfl rfl rfl rfl rfl rfl (rv_set2 hi) rfl ?_
     refine AnyZ.nil (by kernel_rfl) ?_
     refine blockK_n ?_
     refine thenK_n ?_
     refine W.region ?_
     refine S.pure tOk zOk rfl rfl rfl ?_
     refine S.pure tOk zOk rfl rfl rfl ?_
     refine S.pure tOk zOk rfl rfl rfl ?_
     refine S.pure tOk zOk rfl rfl rfl ?_
     refine S.pure tOk zOk rfl rfl rfl ?_
     refine S.pure tOk zOk rfl rfl rfl ?_
     refine loop_n (xs.length - (i + 1)) (by omega) ⟨i + 1, (by omega), rfl, _, _, _, _, rfl, rfl, inc_i64 (by omega), rv_dec (by omega) (by omega), trivial⟩
    ·skip
     refine OpZ.d ?_
     refine D.rload tOk rfl rfl rfl (rv_row1 hi) rfl rfl ?_
     refine WD.nil ?_
     refine AnyZ.one 7 (by kernel_rfl) rfl ?_
     refine OpZ.d ?_
     refine D.rload tOk rfl rfl rfl (rv_row2 hi) rfl rfl ?_
     refine WD.nil ?_
     refine AnyZ.one 12 (by kernel_rfl) rfl ?_
     refine OpZ.d ?_
     refine D.pure tOk zOk rfl rfl (rv_ok1 (n := xs.length) (i := i) (by omega)) rfl ?_
     refine WD.nil ?_
     refine AnyZ.one 13 (by kernel_rfl) rfl ?_
     refine OpZ.rstore tOk rfl rfl rfl rfl rfl rfl rfl (rv_set1 hi) rfl ?_
     refine AnyZ.one 14 (by kernel_rfl) rfl ?_
     refine OpZ.d ?_
     refine D.pure tOk zOk rfl rfl (rv_ok2 (n := xs.length) (i := i) (by omega)) rfl ?_
     refine WD.nil ?_
     refine AnyZ.one 15 (by kernel_rfl) rfl ?_
     refine OpZ.rstore tOk rfl rfl rfl rfl rfl rfl rfl (rv_set2 hi) rfl ?_
     refine AnyZ.nil (by kernel_rfl) ?_
     refine blockK_n ?_
     refine thenK_n ?_
     refine W.region ?_
     refine S.pure tOk zOk rfl rfl rfl ?_
     refine S.pure tOk zOk rfl rfl rfl ?_
     refine S.pure tOk zOk rfl rfl rfl ?_
     refine S.pure tOk zOk rfl rfl rfl ?_
     refine S.pure tOk zOk rfl rfl rfl ?_
     refine S.pure tOk zOk rfl rfl rfl ?_
     refine loop_n (xs.length - (i + 1)) (by omega) ⟨i + 1, (by omega), rfl, _, _, _, _, rfl, rfl, inc_i64 (by omega), rv_dec (by omega) (by omega), trivial⟩
   ·skip
    refine OpZ.d ?_
    refine D.rload tOk rfl rfl rfl (rv_row1 hi) rfl rfl ?_
    refine WD.nil ?_
    refine AnyZ.one 6 (by kernel_rfl) rfl ?_
    refine OpZ.d ?_
    refine D.pure tOk zOk rfl rfl (rv_ok2 (n := xs.length) (i := i) (by omega)) rfl ?_
    refine WD.nil ?_
    refine AnyZ.one 7 (by kernel_rfl) rfl ?_
    refine OpZ.d ?_
    refine D.rload tOk rfl rfl rfl (rv_row2 hi) rfl rfl ?_
    refine WD.nil ?_
    refine AnyZ.one 12 (by kernel_rfl) rfl ?_
    refine OpZ.d ?_
    refine D.pure tOk zOk rfl rfl (rv_ok1 (n := xs.length) (i := i) (by omega)) rfl ?_
    refine WD.nil ?_
    refine AnyZ.one 13 (by kernel_rfl) rfl ?_
    refine OpZ.rstore tOk rfl rfl rfl rfl rfl rfl rfl (rv_set1 hi) rfl ?_
    refine AnyZ.one 14 (by kernel_rfl) rfl ?_
    refine OpZ.d ?_
    refine D.pure tOk zOk rfl rfl (rv_ok2 (n := xs.length) (i := i) (by omega)) rfl ?_
    refine WD.nil ?_
    refine AnyZ.one 15 (by kernel_rfl) rfl ?_
    refine OpZ.rstore tOk rfl rfl rfl rfl rfl rfl rfl (rv_set2 hi) rfl ?_
    refine AnyZ.nil (by kernel_rfl) ?_
    refine blockK_n ?_
    refine thenK_n ?_
    refine W.region ?_
    refine S.pure tOk zOk rfl rfl rfl ?_
    refine S.pure tOk zOk rfl rfl rfl ?_
    refine S.pure tOk zOk rfl rfl rfl ?_
    refine S.pure tOk zOk rfl rfl rfl ?_
    refine S.pure tOk zOk rfl rfl rfl ?_
    refine S.pure tOk zOk rfl rfl rfl ?_
    refine loop_n (xs.length - (i + 1)) (by omega) ⟨i + 1, (by omega), rfl, _, _, _, _, rfl, rfl, inc_i64 (by omega), rv_dec (by omega) (by omega), trivial⟩
 ·skip
  have hi : xs.length ≤ 2 * i + 1 := by simp at c1; omega
  rw [revTo_end hi]
  refine W.exit ?_
  refine thenK_e ?_
  refine thenK_e ?_
  refine blockK_x ?_
  exact ⟨_, rfl, rfl, LeG.refl _, rfl, rfl, rfl⟩
theorem pc_ReverseM (xs : List Rul) (al : Bool) (hl : xs.length ≤ 1000000) : HCall Tryz.prog J 70 [.one (.row 0 0 0 (xs.map rulD).length)] [] ([some ⟨al, 0, 5, 79, (xs).map rulD⟩]) [] (isH (.tup []) [] ([some ⟨al, 0, 5, 79, (xs.reverse).map rulD⟩]) []) := by
  rw [List.length_map]; exact pc_Reverse xs al hl
end Go.Proofs.YtcchfmilleffjaaGreatDoor
namespace Go.Proofs.YtcchfmilleffjaaGreatDoor
open Go
open Go.RowKit
attribute [local irreducible] rangeB pathB nameB valueB firstNe tailOf listT ndT badP sortS prefT stepE listE ruleC doT runT invR revTo losesT cleanT cleanTo stepsE runF
theorem le_invNil {n : Int} {x : List Rul × Int} (h : x = ([], n)) : LeV (.tup [.one (.d .nilsl), .one (.d (.int .i64 n))]) (.tup [.one (.d (.vec 5 (x.1.map rulD))), .one (.d (.int .i64 x.2))]) := by
  subst h; exact LeV.tup2 (LeV.nil 5) (LeV.refl _)
theorem inv_end {rs : List Rul} (h : ((rs.map fun r => (invR r).2).take rs.length).all (· == 0) = true) : invE rs = 0 := fe_end (Nat.le_refl _) h
theorem pc_InverseAll (rs : List Rul) (hm : rs.length ≤ 2000000) (hrb : ∀ r ∈ rs, RulB r) :
  PureCall Tryz.prog J 19 [.one (.d (.vec 5 (rs.map rulD)))] (.tup [.one (.d (.vec 5 ((invAll rs).1.map rulD))), .one (.d (.int .i64 (invAll rs).2))]) := by
 refine PureCall.of_body tOk (fn := Tryz.f19) Tryz.func19 (by kernel_rfl) rfl (Nat.le_of_ble_eq_true rfl) (fun E => ?_)
 refine W.seq ?_
 refine W.region ?_
 refine S.pure tOk zOk rfl rfl rfl ?_
 refine S.pure tOk zOk rfl rfl rfl ?_
 refine thenK_n ?_
 refine W.seq ?_
 refine W.seq ?_
 refine W.region ?_
 refine S.pure tOk zOk rfl rfl rfl ?_
 refine S.pure tOk zOk rfl rfl rfl ?_
 refine S.pure tOk zOk rfl rfl rfl ?_
 refine thenK_n ?_
 refine W.cond rfl (fun c1 => ?_) (fun c1 => ?_)
 ·skip
  have c1 : decide ((rs.length : Int) > 100) = true := by simpa using c1
  refine W.seq ?_
  refine W.region ?_
  refine S.pure tOk zOk rfl rfl rfl ?_
  refine S.pure tOk zOk rfl rfl rfl ?_
  refine thenK_n ?_
  refine W.ret ?_
  refine thenK_r ?_
  exact ⟨_, rfl, rfl, le_invNil (ia_1 c1)⟩
 ·skip
  have c1 : decide ((rs.length : Int) > 100) = false := by simpa using c1
  have hlen : rs.length ≤ 100 := by simp at c1; omega
  refine W.skip ?_
  refine thenK_n ?_
  refine W.seq ?_
  refine W.region ?_
  refine S.pure tOk zOk rfl rfl rfl ?_
  refine thenK_n ?_
  refine W.seq ?_
  refine W.seq ?_
  refine W.region ?_
  refine S.pure tOk zOk rfl rfl rfl ?_
  refine S.pure tOk zOk rfl rfl rfl ?_
  refine S.pure tOk zOk rfl rfl rfl ?_
  refine thenK_n ?_
  refine W.newRow 4 5 79 rfl ?_
  refine W.block ?_
  refine W.loop (fun k st => ∃ i : Nat, ∃ v : Nat, ∃ al : Bool, i ≤ rs.length ∧ ((rs.map fun r => (invR r).2).take i).all (· == 0) = true ∧ k = rs.length - i ∧ ∃ t b2 r2 m2, st = ⟨t, [] ++ b2, [some ⟨al, v, 5, 79, (invTo rs i).map rulD⟩] ++ r2, [] ++ m2⟩ ∧ holdsL t [(4, .one (.row 0 v 0 ((invTo rs i).map rulD).length)), (12, .one (.d (.vec 5 (rs.map rulD)))), (13, .one (.d (.int .i64 ((rs.map rulD).length : Int)))), (14, .one (.d (.int .i64 (i : Int))))]) (rs.length) ⟨0, _, _, Nat.zero_le _, by simp, rfl, _, _, _, _, rfl, rfl, rfl, rfl, rfl, trivial⟩ ?_
  rintro k0 _ ⟨i, v, al, f0_0, f0_1, rfl, t0, bb0, rr0, mm0, rfl, hh0⟩
  refine W.keepR _ _ _ _ _ _ _ hh0 rfl ?_
  refine W.reVer (l := [(4, .one (.row 0 0 0 ((invTo rs i).map rulD).length)), (12, .one (.d (.vec 5 (rs.map rulD)))), (13, .one (.d (.int .i64 ((rs.map rulD).length : Int)))), (14, .one (.d (.int .i64 (i : Int))))]) (b := []) 0 rfl rfl rfl rfl rfl ?_
  refine W.seq ?_
  refine W.region ?_
  refine S.pure tOk zOk rfl rfl rfl ?_
  refine thenK_n ?_
  refine W.seq ?_
  refine W.cond rfl (fun c2 => ?_) (fun c2 => ?_)
  ·skip
   have hi := row_lt c2
   have hri := hrb _ (mem_getD (d := Rul.z) hi)
   refine W.skip ?_
   refine thenK_n ?_
   refine W.seq ?_
   refine W.block ?_
   refine W.seq ?_
   refine W.region ?_
   refine S.pureE tOk zOk rfl (row_ok hi) (row_at Rul.z hi) rfl ?_
   refine S.pure tOk zOk rfl rfl rfl ?_
   refine S.alloc tOk rfl rfl rfl rfl ?_
   refine S.store tOk rfl rfl rfl rfl rfl rfl rfl rfl ?_
   refine thenK_n ?_
   refine W.seq ?_
   refine W.region ?_
   refine S.pure tOk zOk rfl rfl rfl ?_
   refine S.call rfl rfl rfl rfl rfl (pc_Inverse (rs.getD i Rul.z) hri) ?_
   refine S.pure tOk zOk rfl rfl rfl ?_
   refine S.pure tOk zOk rfl rfl rfl ?_
   refine S.pure tOk zOk rfl rfl rfl ?_
   refine S.alloc tOk rfl rfl rfl rfl ?_
   refine S.store tOk rfl rfl rfl rfl rfl rfl rfl rfl ?_
   refine S.pure tOk zOk rfl rfl rfl ?_
   refine thenK_n ?_
   refine W.seq ?_
   refine W.seq ?_
   refine W.region ?_
   refine S.pure tOk zOk rfl rfl rfl ?_
   refine S.pure tOk zOk rfl rfl rfl ?_
   refine thenK_n ?_
   refine W.cond rfl (fun c3 => ?_) (fun c3 => ?_)
   ·skip
    refine W.seq ?_
    refine W.region ?_
    refine S.pure tOk zOk rfl rfl rfl ?_
    refine S.pure tOk zOk rfl rfl rfl ?_
    refine S.pure tOk zOk rfl rfl rfl ?_
    refine thenK_n ?_
    refine W.ret ?_
    refine thenK_r ?_
    refine blockK_r ?_
    refine thenK_r ?_
    refine thenK_r ?_
    refine blockK_r ?_
    refine thenK_r ?_
    exact ⟨_, rfl, rfl, le_invNil (ia_2 c1 _ (fe_hit (d := Rul.z) hi f0_1 c3) c3)⟩
   ·skip
    refine W.skip ?_
    refine thenK_n ?_
    refine W.region ?_
    refine S.pure tOk zOk rfl rfl rfl ?_
    refine S.pure tOk zOk rfl rfl rfl ?_
    refine S.slice tOk rfl rfl ?_
    refine S.append tOk rfl rfl rfl rfl rfl rfl rfl rfl rfl rfl rfl rfl (by have hq := invTo_len rs (Nat.le_of_lt hi); show _ + 1 ≤ _; rw [List.length_map]; omega) rfl (invTo_succ hi) rfl ?_
    refine S.pure tOk zOk rfl rfl rfl ?_
    refine blockK_n ?_
    refine thenK_n ?_
    refine W.region ?_
    refine S.pure tOk zOk rfl rfl rfl ?_
    refine S.pure tOk zOk rfl rfl rfl ?_
    refine loop_n (rs.length - (i + 1)) (by omega) ⟨i + 1, _, _, hi, fe_next (d := Rul.z) hi f0_1 c3, rfl, _, _, _, _, rfl, rfl, rfl, rfl, inc_i64 (by omega), trivial⟩
  ·skip
   have hi := row_ge c2
   obtain rfl : i = rs.length := by omega
   refine W.exit ?_
   refine thenK_e ?_
   refine thenK_e ?_
   refine blockK_x ?_
   refine thenK_n ?_
   refine W.seq ?_
   refine W.region ?_
   refine S.pure tOk zOk rfl rfl rfl ?_
   refine S.hcallD rfl rfl rfl rfl (pc_ReverseM (invTo rs rs.length) _ (by rw [invTo_len rs (Nat.le_refl _)]; omega)) ?_
   refine thenK_n ?_
   refine W.seq ?_
   refine W.freeze (ri := 0) (q := ⟨_, _, _, _, _⟩) [4] rfl (by intro k hk; simp at hk; subst hk; exact congrArg (fun z => V.one (.row 0 0 0 z)) (by simp)) ?_
   refine W.region ?_
   refine S.pure tOk zOk rfl rfl rfl ?_
   refine S.pure tOk zOk rfl rfl rfl ?_
   refine S.pure tOk zOk rfl rfl rfl ?_
   refine thenK_n ?_
   refine W.ret ?_
   exact ⟨_, rfl, rfl, LeV.of_force rfl (by rw [ia_3 c1 (inv_end f0_1), invTo_end]; rfl)⟩
theorem stgV_at {l : List Stg} {i : Nat} (h : i < l.length) : V.one (.eptr ((l.map stgD).getD ((i : Int)).toNat [])) = V.one (.eptr (stgD (l.getD i Stg.z))) := row_at (f := stgD) Stg.z h
theorem pc_EqualS (l : List Stg) (hl : l.length ≤ 1000000000) :
  PureCall Tryz.prog J 20 [.one (.d (.vec 2 (l.map stgD))), .one (.d (.vec 2 (l.map stgD)))] (.one (.d (.bool true))) := by
 refine PureCall.of_body tOk (fn := Tryz.f20) Tryz.func20 (by kernel_rfl) rfl (Nat.le_of_ble_eq_true rfl) (fun E => ?_)
 refine W.seq ?_
 refine W.region ?_
 refine S.pure tOk zOk rfl rfl rfl ?_
 refine thenK_n ?_
 refine W.seq ?_
 refine W.seq ?_
 refine W.region ?_
 refine S.pure tOk zOk rfl rfl rfl ?_
 refine S.pure tOk zOk rfl rfl rfl ?_
 refine S.pure tOk zOk rfl rfl rfl ?_
 refine S.pure tOk zOk rfl rfl rfl ?_
 refine S.pure tOk zOk rfl rfl rfl ?_
 refine thenK_n ?_
 refine W.cond rfl (fun c1 => ?_) (fun c1 => ?_)
 ·skip
  exact absurd c1 (by simp)
 ·skip
  refine W.skip ?_
  refine thenK_n ?_
  refine W.seq ?_
  refine W.seq ?_
  refine W.region ?_
  refine S.pure tOk zOk rfl rfl rfl ?_
  refine S.pure tOk zOk rfl rfl rfl ?_
  refine S.pure tOk zOk rfl rfl rfl ?_
  refine thenK_n ?_
  refine W.block ?_
  refine W.loop (fun k st => ∃ i : Nat, i ≤ l.length ∧ k = l.length - i ∧ ∃ t b2 r2 m2, st = ⟨t, [] ++ b2, [] ++ r2, [] ++ m2⟩ ∧ holdsL t [(0, .one (.d (.vec 2 (l.map stgD)))), (1, .one (.d (.vec 2 (l.map stgD)))), (12, .one (.d (.int .i64 ((l.map stgD).length : Int)))), (13, .one (.d (.int .i64 (i : Int))))]) (l.length) ⟨0, Nat.zero_le _, rfl, _, _, _, _, rfl, rfl, rfl, rfl, rfl, trivial⟩ ?_
  rintro k0 _ ⟨i, f0_0, rfl, t0, bb0, rr0, mm0, rfl, hh0⟩
  refine W.keepR _ _ _ _ _ _ _ hh0 rfl ?_
  refine W.seq ?_
  refine W.region ?_
  refine S.pure tOk zOk rfl rfl rfl ?_
  refine thenK_n ?_
  refine W.seq ?_
  refine W.cond rfl (fun c2 => ?_) (fun c2 => ?_)
  ·skip
   have hi := row_lt c2
   refine W.skip ?_
   refine thenK_n ?_
   refine W.seq ?_
   refine W.block ?_
   refine W.seq ?_
   refine W.region ?_
   refine S.pure tOk zOk rfl rfl rfl ?_
   refine S.pure tOk zOk rfl rfl rfl ?_
   refine thenK_n ?_
   refine W.seq ?_
   refine W.regionD mixed (by kernel_rfl) ?_
   refine D.pure tOk zOk rfl rfl rfl rfl ?_
   refine D.pure tOk zOk rfl rfl rfl rfl ?_
   refine D.pureE tOk zOk rfl rfl (row_ok hi) (stgV_at hi) rfl ?_
   refine D.pure tOk zOk rfl rfl rfl rfl ?_
   refine D.pure tOk zOk rfl rfl rfl rfl ?_
   refine D.pure tOk zOk rfl rfl rfl rfl ?_
   refine D.pureE tOk zOk rfl rfl (row_ok hi) (stgV_at hi) rfl ?_
   refine D.pure tOk zOk rfl rfl rfl rfl ?_
   refine D.pure tOk zOk rfl rfl rfl rfl ?_
   refine thenK_n ?_
   refine W.cond rfl (fun c3 => ?_) (fun c3 => ?_)
   ·skip
    exact absurd c3 (by simp)
   ·skip
    refine W.skip ?_
    refine blockK_n ?_
    refine thenK_n ?_
    refine W.region ?_
    refine S.pure tOk zOk rfl rfl rfl ?_
    refine S.pure tOk zOk rfl rfl rfl ?_
    refine loop_n (l.length - (i + 1)) (by omega) ⟨i + 1, hi, rfl, _, _, _, _, rfl, rfl, rfl, rfl, inc_i64 (by omega), trivial⟩
  ·skip
   refine W.exit ?_
   refine thenK_e ?_
   refine thenK_e ?_
   refine blockK_x ?_
   refine thenK_n ?_
   refine W.seq ?_
   refine W.region ?_
   refine S.pure tOk zOk rfl rfl rfl ?_
   refine thenK_n ?_
   refine W.ret ?_
   exact ⟨_, rfl, rfl, LeV.refl _⟩
theorem pc_migrate_Clean (ss : List Stg) (rs : List Rul) (hn : ss.length ≤ 2000000) (hs : ∀ s ∈ ss, s.k.length < 4294967000 ∧ s.v.length < 4294967000) (hm : rs.length ≤ 2000000) (hrb : ∀ r ∈ rs, RulB r) :
  PureCall Tryz.prog J 17 [.one (.d (.vec 2 (ss.map stgD))), .one (.d (.vec 5 (rs.map rulD)))] (.tup [.one (.d (.bool (cleanP ss rs).1)), .one (.d (.int .i64 (cleanP ss rs).2))]) := by
 refine PureCall.of_body tOk (fn := Tryz.f17) Tryz.func17 (by kernel_rfl) rfl (Nat.le_of_ble_eq_true rfl) (fun E => ?_)
 refine W.seq ?_
 refine W.region ?_
 refine S.pure tOk zOk rfl rfl rfl ?_
 refine S.pure tOk zOk rfl rfl rfl ?_
 refine thenK_n ?_
 refine W.seq ?_
 refine W.seq ?_
 refine W.region ?_
 refine S.pure tOk zOk rfl rfl rfl ?_
 refine S.pure tOk zOk rfl rfl rfl ?_
 refine S.call rfl rfl rfl rfl rfl (pc_migrate_Run ss rs hn hs hm hrb) ?_
 refine S.pure tOk zOk rfl rfl rfl ?_
 refine S.pure tOk zOk rfl rfl rfl ?_
 refine S.pure tOk zOk rfl rfl rfl ?_
 refine S.pure tOk zOk rfl rfl rfl ?_
 refine S.pure tOk zOk rfl rfl rfl ?_
 refine thenK_n ?_
 refine W.seq ?_
 refine W.region ?_
 refine S.pure tOk zOk rfl rfl rfl ?_
 refine S.pure tOk zOk rfl rfl rfl ?_
 refine thenK_n ?_
 refine W.cond rfl (fun c1 => ?_) (fun c1 => ?_)
 ·skip
  refine W.seq ?_
  refine W.region ?_
  refine S.pure tOk zOk rfl rfl rfl ?_
  refine S.pure tOk zOk rfl rfl rfl ?_
  refine S.pure tOk zOk rfl rfl rfl ?_
  refine thenK_n ?_
  refine W.ret ?_
  refine thenK_r ?_
  exact ⟨_, rfl, rfl, LeV.of_force rfl (by rw [cp_a c1]; rfl)⟩
 ·skip
  obtain ⟨hrf, hse⟩ := run_zero c1
  have hok := run_ok hrf
  refine W.skip ?_
  refine thenK_n ?_
  refine W.seq ?_
  refine W.seq ?_
  refine W.region ?_
  refine S.pure tOk zOk rfl rfl rfl ?_
  refine S.call rfl rfl rfl rfl rfl (pc_InverseAll rs hm hrb) ?_
  refine S.pure tOk zOk rfl rfl rfl ?_
  refine S.pure tOk zOk rfl rfl rfl ?_
  refine S.pure tOk zOk rfl rfl rfl ?_
  refine S.pure tOk zOk rfl rfl rfl ?_
  refine S.pure tOk zOk rfl rfl rfl ?_
  refine thenK_n ?_
  refine W.seq ?_
  refine W.region ?_
  refine S.pure tOk zOk rfl rfl rfl ?_
  refine S.pure tOk zOk rfl rfl rfl ?_
  refine thenK_n ?_
  refine W.cond rfl (fun c2 => ?_) (fun c2 => ?_)
  ·skip
   refine W.seq ?_
   refine W.region ?_
   refine S.pure tOk zOk rfl rfl rfl ?_
   refine S.pure tOk zOk rfl rfl rfl ?_
   refine S.pure tOk zOk rfl rfl rfl ?_
   refine thenK_n ?_
   refine W.ret ?_
   refine thenK_r ?_
   exact ⟨_, rfl, rfl, LeV.of_force rfl (by rw [cp_b c1 c2]; rfl)⟩
  ·skip
   refine W.skip ?_
   refine thenK_n ?_
   refine W.seq ?_
   refine W.region ?_
   refine S.pure tOk zOk rfl rfl rfl ?_
   refine S.hcallD rfl rfl rfl rfl ((pc_tableOf ss (by omega)).frameD [] [] [] rfl rfl rfl rfl rfl rfl rfl rfl rfl) ?_
   refine S.pure tOk zOk rfl rfl rfl ?_
   refine thenK_n ?_
   refine W.seq ?_
   refine W.seq ?_
   refine W.region ?_
   refine S.pure tOk zOk rfl rfl rfl ?_
   refine S.pure tOk zOk rfl rfl rfl ?_
   refine S.pure tOk zOk rfl rfl rfl ?_
   refine thenK_n ?_
   refine W.block ?_
   refine W.loop (fun k st => ∃ i : Nat, ∃ tab : Tab, i ≤ rs.length ∧ Way ss rs i tab ∧ cleanTo ss rs i = true ∧ k = rs.length - i ∧ ∃ t b2 r2 m2, st = ⟨t, [] ++ b2, [] ++ r2, [tabD tab] ++ m2⟩ ∧ holdsL t [(10, .one (.map 0)), (32, .one (.d (.vec 5 (rs.map rulD)))), (33, .one (.d (.int .i64 ((rs.map rulD).length : Int)))), (34, .one (.d (.int .i64 (i : Int))))]) (rs.length) ⟨0, _, Nat.zero_le _, way_0 hok, cl_0 _ _, rfl, _, _, _, _, rfl, rfl, rfl, rfl, rfl, trivial⟩ ?_
   rintro k0 _ ⟨i, tab, f0_0, f0_1, f0_2, rfl, t0, bb0, rr0, mm0, rfl, hh0⟩
   refine W.keepR _ _ _ _ _ _ _ hh0 rfl ?_
   refine W.seq ?_
   refine W.region ?_
   refine S.pure tOk zOk rfl rfl rfl ?_
   refine thenK_n ?_
   refine W.seq ?_
   refine W.cond rfl (fun c3 => ?_) (fun c3 => ?_)
   ·skip
    have hi := row_lt c3
    have hri := hrb _ (mem_getD (d := Rul.z) hi)
    have hz : stepE tab (rs.getD i Rul.z) = 0 := f0_1.at.trans (steps_at hse hi)
    refine W.skip ?_
    refine thenK_n ?_
    refine W.seq ?_
    refine W.block ?_
    refine W.seq ?_
    refine W.region ?_
    refine S.pureE tOk zOk rfl (row_ok hi) (row_at Rul.z hi) rfl ?_
    refine S.pure tOk zOk rfl rfl rfl ?_
    refine S.alloc tOk rfl rfl rfl rfl ?_
    refine S.store tOk rfl rfl rfl rfl rfl rfl rfl rfl ?_
    refine thenK_n ?_
    refine W.seq ?_
    refine W.region ?_
    refine S.pure tOk zOk rfl rfl rfl ?_
    refine S.pure tOk zOk rfl rfl rfl ?_
    refine S.hcallD rfl rfl rfl rfl ((pc_loses tab (rs.getD i Rul.z) hri f0_1.eq.l f0_1.key).frameD [] [] [0] rfl rfl rfl rfl rfl rfl rfl rfl rfl) ?_
    refine S.pure tOk zOk rfl rfl rfl ?_
    refine S.pureG tOk zOk rfl rfl tg (fun _ => rfl) rfl ?_
    refine S.pureG tOk zOk rfl rfl tg (fun _ => rfl) rfl ?_
    refine S.hcallXG rfl rfl rfl rfl tg rfl (fun hgd => (pc_do tab (rs.getD i Rul.z) hri f0_1.eq.l f0_1.key (by have := f0_1.len; omega)).frameX [] [] [0] rfl rfl rfl rfl rfl (fun _ => rfl) (fun _ => rfl) (fun _ => rfl) (fun _ => rfl)) (tab) rfl rfl rfl ?_
    rintro tab1 hg1 hg0
    refine S.pureG tOk zOk rfl rfl tg (fun _ => rfl) rfl ?_
    refine S.pickOr tOk zOk rfl rfl tg ?_
    refine thenK_n ?_
    refine W.cond rfl (fun c4 => ?_) (fun c4 => ?_)
    ·skip
     have hlo : losesT tab (rs.getD i Rul.z) = true := by rw [hz] at c4; simpa using c4
     refine W.seq ?_
     refine W.region ?_
     refine S.pure tOk zOk rfl rfl rfl ?_
     refine S.pure tOk zOk rfl rfl rfl ?_
     refine thenK_n ?_
     refine W.ret ?_
     refine blockK_r ?_
     refine thenK_r ?_
     refine thenK_r ?_
     refine blockK_r ?_
     refine thenK_r ?_
     exact ⟨_, rfl, rfl, LeV.of_force rfl (by rw [cp_c c1 c2, cl_hit hi ((f0_1.eq.loses _).symm.trans hlo)]; rfl)⟩
    ·skip
     have hlo : losesT tab (rs.getD i Rul.z) = false := by rw [hz] at c4; simpa using c4
     have h2 : EqT tab1 (doT tab (rs.getD i Rul.z)) := by have hq := hg1 (by rw [hlo]; rfl); rw [doX_f (step_bad hz)] at hq; exact hq
     refine W.skip ?_
     refine blockK_n ?_
     refine thenK_n ?_
     refine W.region ?_
     refine S.pure tOk zOk rfl rfl rfl ?_
     refine S.pure tOk zOk rfl rfl rfl ?_
     refine loop_n (rs.length - (i + 1)) (by omega) ⟨i + 1, tab1, hi, way_next f0_1 (hok.ok _ (mem_getD hi)) hz h2, cl_next f0_2 ((f0_1.eq.loses _).symm.trans hlo), rfl, _, _, _, _, rfl, rfl, rfl, rfl, inc_i64 (by omega), trivial⟩
   ·skip
    have hi := row_ge c3
    obtain rfl : i = rs.length := by omega
    refine W.exit ?_
    refine thenK_e ?_
    refine thenK_e ?_
    refine blockK_x ?_
    refine thenK_n ?_
    refine W.seq ?_
    refine W.region ?_
    refine S.pure tOk zOk rfl rfl rfl ?_
    refine S.pure tOk zOk rfl rfl rfl ?_
    refine thenK_n ?_
    refine W.ret ?_
    exact ⟨_, rfl, rfl, LeV.of_force rfl (by rw [cp_c c1 c2, cl_end f0_2]; rfl)⟩
end Go.Proofs.YtcchfmilleffjaaGreatDoor
namespace Go.Proofs.YtcchfmilleffjaaGreatDoor
open Go
open Go.RowKit
attribute [local irreducible] rangeB pathB nameB valueB firstNe tailOf listT ndT badP sortS prefT stepE listE ruleC doT runT invR revTo losesT cleanT stepsE runF runP invAll cleanP
end Go.Proofs.YtcchfmilleffjaaGreatDoor
namespace Go.Proofs.YtcchfmilleffjaaGreatDoor
open Go
structure RulC (r : Rul) : Prop extends RulOk r where
  ne : usTu r.kd = true → r.k ≠ r.tu
  ap : r.kd = 2 → belowB r.k r.tu = false ∧ belowB r.tu r.k = false
  nv : usOld r.kd = true → r.old ≠ r.nu
theorem rul_c {r : Rul} : ruleC r = 0 ↔ RulC r := by
  constructor
  · intro h
    refine ⟨rul_ok h, fun hu he => ?_, fun hk => ?_, fun hu he => ?_⟩
    all_goals (unfold ruleC at h; repeat' split at h)
    all_goals first | (cases h; done) | skip
    · rename_i h1 h2 h3 h4 h5 h6; exact h4 (by rw [hu]; simpa using he)
    · rename_i h1 h2 h3 h4 h5 h6
      have : (belowB r.k r.tu || belowB r.tu r.k) = false := by
        rw [hk] at h5; simpa using h5
      exact Bool.or_eq_false_iff.1 this
    · rename_i h1 h2 h3 h4 h5 h6; exact h6 (by rw [hu]; simpa using he)
  · intro h
    have e1 : (decide (r.kd < 1) || decide (r.kd > 8)) = false := by simp; exact ⟨h.lo, h.hi⟩
    have e2 : (!pathB r.k || usTu r.kd && !pathB r.tu) = false := by
      rw [h.k]
      cases hu : usTu r.kd with
      | true => rw [h.tu hu]; rfl
      | false => rfl
    have e3 : (!usTu r.kd && !(r.tu == []) || !usOld r.kd && !(r.old == []) || !usNew r.kd && !(r.nu == []) || !valueB r.old || !valueB r.nu) = false := by
      rw [h.vo, h.vn]
      cases hu : usTu r.kd with
      | true =>
        cases ho : usOld r.kd with
        | true =>
          cases hn : usNew r.kd with
          | true => rfl
          | false => rw [h.nu0 hn]; rfl
        | false =>
          rw [h.old0 ho]
          cases hn : usNew r.kd with
          | true => rfl
          | false => rw [h.nu0 hn]; rfl
      | false =>
        rw [h.tu0 hu]
        cases ho : usOld r.kd with
        | true =>
          cases hn : usNew r.kd with
          | true => rfl
          | false => rw [h.nu0 hn]; rfl
        | false =>
          rw [h.old0 ho]
          cases hn : usNew r.kd with
          | true => rfl
          | false => rw [h.nu0 hn]; rfl
    have e4 : (usTu r.kd && r.k == r.tu) = false := by
      cases hu : usTu r.kd with
      | true => simpa using h.ne hu
      | false => rfl
    have e5 : (r.kd == 2 && (belowB r.k r.tu || belowB r.tu r.k)) = false := by
      by_cases hk : r.kd = 2
      · rw [(h.ap hk).1, (h.ap hk).2]; simp
      · rw [beq_eq_false_iff_ne.2 hk]; rfl
    have e6 : (usOld r.kd && r.old == r.nu) = false := by
      cases hu : usOld r.kd with
      | true => simpa using h.nv hu
      | false => rfl
    unfold ruleC
    rw [e1, e2, e3, e4, e5, e6]; rfl
def backR (r : Rul) : Rul := (invR r).1
theorem inv_kinds {r : Rul} (h : ruleC r = 0) (h2 : (invR r).2 = 0) : r.kd = 1 ∨ r.kd = 2 ∨ r.kd = 7 ∨ r.kd = 8 := by
  have h0 : (ruleC r != 0) = false := by simpa using h
  by_cases c : (r.kd == 1 || r.kd == 2) = true
  · have : r.kd = 1 ∨ r.kd = 2 := by simpa using c
    omega
  · have c := Bool.eq_false_iff.2 c
    by_cases c7 : (r.kd == 7) = true
    · have : r.kd = 7 := by simpa using c7
      omega
    · have c7 := Bool.eq_false_iff.2 c7
      by_cases c8 : (r.kd == 8) = true
      · have : r.kd = 8 := by simpa using c8
        omega
      · rw [inv_0 h0 c c7 (Bool.eq_false_iff.2 c8)] at h2; cases h2
theorem back_1 {r : Rul} (h : ruleC r = 0) (hk : r.kd = 1 ∨ r.kd = 2) : backR r = ⟨r.kd, r.tu, r.k, r.old, r.nu⟩ := by
  have h0 : (ruleC r != 0) = false := by simpa using h
  unfold backR; rw [inv_2 h0 (by rcases hk with e | e <;> rw [e] <;> rfl)]
theorem back_7 {r : Rul} (h : ruleC r = 0) (hk : r.kd = 7) : backR r = ⟨r.kd, r.k, r.tu, r.nu, r.old⟩ := by
  have h0 : (ruleC r != 0) = false := by simpa using h
  unfold backR; rw [inv_7 h0 (by rw [hk]; rfl) (by rw [hk]; rfl)]
theorem back_8 {r : Rul} (h : ruleC r = 0) (hk : r.kd = 8) : backR r = r := by
  have h0 : (ruleC r != 0) = false := by simpa using h
  unfold backR; rw [inv_8 h0 (by rw [hk]; rfl) (by rw [hk]; rfl) (by rw [hk]; rfl)]
theorem back_ok {r : Rul} (h : ruleC r = 0) (h2 : (invR r).2 = 0) : ruleC (backR r) = 0 := by
  have hc := rul_c.1 h
  rcases inv_kinds h h2 with hk | hk | hk | hk
  · have hu : usTu r.kd = true := by rw [hk]; rfl
    rw [back_1 h (.inl hk)]
    exact rul_c.2 { lo := hc.lo, hi := hc.hi, k := hc.tu hu, tu := fun _ => hc.k, tu0 := fun e => absurd (e.symm.trans hu) (by decide), old0 := hc.old0, nu0 := hc.nu0, vo := hc.vo, vn := hc.vn, ne := fun _ e => hc.ne hu e.symm, ap := fun e => absurd (hk.symm.trans e) (by decide), nv := hc.nv }
  · have hu : usTu r.kd = true := by rw [hk]; rfl
    rw [back_1 h (.inr hk)]
    exact rul_c.2 { lo := hc.lo, hi := hc.hi, k := hc.tu hu, tu := fun _ => hc.k, tu0 := fun e => absurd (e.symm.trans hu) (by decide), old0 := hc.old0, nu0 := hc.nu0, vo := hc.vo, vn := hc.vn, ne := fun _ e => hc.ne hu e.symm, ap := fun e => ⟨(hc.ap hk).2, (hc.ap hk).1⟩, nv := hc.nv }
  · have ho : usOld r.kd = true := by rw [hk]; rfl
    have hn : usNew r.kd = true := by rw [hk]; rfl
    rw [back_7 h hk]
    exact rul_c.2 { lo := hc.lo, hi := hc.hi, k := hc.k, tu := hc.tu, tu0 := hc.tu0, old0 := fun e => absurd (e.symm.trans ho) (by decide), nu0 := fun e => absurd (e.symm.trans hn) (by decide), vo := hc.vn, vn := hc.vo, ne := hc.ne, ap := hc.ap, nv := fun _ e => hc.nv ho e.symm }
  · rw [back_8 h hk]; exact h
theorem lk_has {t : Tab} {k : L8} (h : hasL beqS t k = false) : lk t k = none := by
  rw [has_lk] at h
  cases hq : lk t k with
  | none => rfl
  | some v => rw [hq] at h; cases h
theorem lk_get {t : Tab} {k : L8} (h : hasL beqS t k = true) : lk t k = some (getL beqS [] t k) := by
  rw [has_lk] at h
  rw [get_lk]
  cases hq : lk t k with
  | none => rw [hq] at h; cases h
  | some v => rfl
theorem eqT_lk {t u : Tab} (h1 : ndT t) (h2 : ndT u) (h : ∀ q, lk t q = lk u q) : EqT t u := ⟨h1, h2, funext h⟩
theorem tail_apart {n k tu s z : L8} (hne : k ≠ tu) (h1 : belowB k tu = false) (h2 : belowB tu k = false) (hk : tailOf n k = some s) (ht : tailOf n tu = some z) : False := by
  obtain ⟨e1, p1⟩ := tail_some.1 hk
  obtain ⟨e2, p2⟩ := tail_some.1 ht
  have hx : k ++ s = tu ++ z := e1.symm.trans e2
  have key : ∀ {a b : L8} {s z : L8}, a ++ s = b ++ z → (s = [] ∨ s.head? = some 47) → a.length ≤ b.length → a ≠ b → belowB b a = true := fun {a b s z} he hs hl hn => by
    obtain ⟨c, rfl⟩ : ∃ c, b = a ++ c := by
      have := List.append_eq_append_iff.1 he
      rcases this with ⟨c, hb, hc⟩ | ⟨c, ha, hc⟩
      · exact ⟨c, hb⟩
      · have : c = [] := by
          have := congrArg List.length ha
          simp at this
          exact List.length_eq_zero_iff.1 (by omega)
        subst this
        exact ⟨[], by simpa using ha.symm⟩
    have hc : c ≠ [] := fun h => hn (by rw [h]; simp)
    rw [List.append_assoc] at he
    have hs' := List.append_cancel_left he
    cases c with
    | nil => exact absurd rfl hc
    | cons x c =>
      rcases hs with h | h
      · rw [h] at hs'; cases hs'
      · rw [hs'] at h
        have : x = 47 := by simpa using h
        subst this
        unfold belowB
        exact hasPrefix_iff.2 ⟨c, by simp⟩
  rcases Nat.le_total k.length tu.length with hl | hl
  · have := key hx p1 hl hne
    rw [h2] at this; cases this
  · have := key hx.symm p2 hl (Ne.symm hne)
    rw [h1] at this; cases this
theorem pref_back {f : Fm} {k tu : L8} (hne : k ≠ tu) (h1 : belowB k tu = false) (h2 : belowB tu k = false) (hf : ∀ n, (tailOf n tu).isSome = true → f n = none) : prefF (prefF f k tu) tu k = f := by
  funext n
  unfold prefF
  cases hk : tailOf n k with
  | some s =>
    have hn := (tail_some.1 hk).1
    have hts : tailOf (tu ++ s) tu = some s := tail_some.2 ⟨rfl, (tail_some.1 hk).2⟩
    have htn : tailOf n tu = none := by
      cases ht : tailOf n tu with
      | none => rfl
      | some z => exact (tail_apart hne h1 h2 hk ht).elim
    have hg : orF (movF f k tu) (offF f k) (tu ++ s) = f n := by
      unfold orF movF offF
      rw [hts]
      simp only
      rw [← hn]
      cases hfn : f n with
      | some v => rfl
      | none =>
        simp only
        split
        · rfl
        · exact hf _ (by rw [hts]; rfl)
    unfold orF at hg ⊢
    unfold movF at hg ⊢
    rw [hk]
    simp only at hg ⊢
    rw [hg]
    cases hfn : f n with
    | some v => rfl
    | none =>
      simp only [offF, htn, hk, Option.isSome_none, Bool.false_eq_true, if_false, Option.isSome_some, if_true]
  | none =>
    unfold orF movF offF
    rw [hk]
    simp only
    cases ht : tailOf n tu with
    | some z => simp only [Option.isSome_some, if_true]; exact (hf n (by rw [ht]; rfl)).symm
    | none => simp only [hk, Option.isSome_none, Bool.false_eq_true, if_false]
end Go.Proofs.YtcchfmilleffjaaGreatDoor
namespace Go.Proofs.YtcchfmilleffjaaGreatDoor
open Go
theorem do_1 {t : Tab} {r : Rul} (h : r.kd = 1) : doT t r = if hasL beqS t r.k then setL beqS (delL beqS t r.k) r.tu (getL beqS [] t r.k) else t := by unfold doT; rw [h]; rfl
theorem do_2 {t : Tab} {r : Rul} (h : r.kd = 2) : doT t r = prefT t r.k r.tu := by unfold doT; rw [h]; rfl
theorem do_7 {t : Tab} {r : Rul} (h : r.kd = 7) : doT t r = if (hasL beqS t r.k && getL beqS [] t r.k == r.old) = true then setL beqS t r.k r.nu else t := by
  unfold doT; rw [h]
  have e : (hasL beqS t r.k && getL beqS [] t r.k == r.nu && (7 : Int) == 8) = false := by rw [show ((7 : Int) == 8) = false from rfl, Bool.and_false]
  rw [e]; rfl
theorem do_8 {t : Tab} {r : Rul} (h : r.kd = 8) : doT t r = if (hasL beqS t r.k && getL beqS [] t r.k == r.old) = true then setL beqS t r.k r.nu else if (hasL beqS t r.k && getL beqS [] t r.k == r.nu) = true then setL beqS t r.k r.old else t := by
  unfold doT; rw [h]
  have e : (hasL beqS t r.k && getL beqS [] t r.k == r.nu && (8 : Int) == 8) = (hasL beqS t r.k && getL beqS [] t r.k == r.nu) := by rw [show ((8 : Int) == 8) = true from rfl, Bool.and_true]
  rw [e]; rfl
theorem set_has (t : Tab) (k v : L8) : hasL beqS (setL beqS t k v) k = true := by rw [has_lk, lk_set]; unfold setF; simp
theorem set_get (t : Tab) (k v : L8) : getL beqS [] (setL beqS t k v) k = v := by rw [get_lk, lk_set]; unfold setF; simp
theorem set_set (t : Tab) (h : ndT t) (k v w : L8) (hk : lk t k = some w) : EqT (setL beqS (setL beqS t k v) k w) t :=
  eqT_lk (nd_set (nd_set h _ _) _ _) h fun q => by
    rw [lk_set, lk_set]
    unfold setF
    by_cases hq : (q == k) = true
    · rw [if_pos hq, beq_iff_eq.1 hq, hk]
    · rw [if_neg hq, if_neg hq]
theorem do_back {t : Tab} {r : Rul} (hd : ndT t) (hr : ruleC r = 0) (hi : (invR r).2 = 0) (hl : losesT t r = false) : EqT (doT (doT t r) (backR r)) t := by
  have hc := rul_c.1 hr
  rcases inv_kinds hr hi with hk | hk | hk | hk
  · -- rename
    have hb := back_1 hr (.inl hk)
    have hl' : hasL beqS t r.tu = false := by unfold losesT at hl; rw [hk] at hl; exact hl
    have hu : usTu r.kd = true := by rw [hk]; rfl
    have hne := hc.ne hu
    rw [do_1 (r := backR r) (by rw [hb]; exact hk), hb]
    simp only
    rw [do_1 hk]
    by_cases hh : hasL beqS t r.k = true
    · rw [if_pos hh, set_has, if_pos rfl, set_get]
      refine eqT_lk (nd_set (nd_del (nd_set (nd_del hd _) _ _) _) _ _) hd fun q => ?_
      rw [lk_set, lk_del (nd_set (nd_del hd _) _ _), lk_set, lk_del hd]
      unfold setF delF
      by_cases h1 : (q == r.k) = true
      · rw [if_pos h1, beq_iff_eq.1 h1, lk_get hh]
      · rw [if_neg h1]
        by_cases h2 : (q == r.tu) = true
        · rw [if_pos h2, beq_iff_eq.1 h2, lk_has hl']
        · simp only [h1, h2, if_false, Bool.false_eq_true]
    · rw [if_neg hh, if_neg (by rw [hl']; simp)]
      exact EqT.refl hd
  · -- prefix
    have hb := back_1 hr (.inr hk)
    have hu : usTu r.kd = true := by rw [hk]; rfl
    have hl' : t.any (fun x => (tailOf x.1 r.tu).isSome) = false := by unfold losesT at hl; rw [hk] at hl; exact hl
    rw [do_2 (r := backR r) (by rw [hb]; exact hk), hb]
    simp only
    rw [do_2 hk]
    refine ⟨nd_pref (nd_pref hd _ _) _ _, hd, ?_⟩
    rw [lk_pref (nd_pref hd _ _), lk_pref hd]
    refine pref_back (hc.ne hu) (hc.ap hk).1 (hc.ap hk).2 fun n hn => ?_
    refine lk_none.2 fun hm => ?_
    obtain ⟨x, hx, rfl⟩ := List.mem_map.1 hm
    rw [← Bool.not_eq_true, List.any_eq_true] at hl'
    exact hl' ⟨x, hx, hn⟩
  · -- map
    have hb := back_7 hr hk
    have ho : usOld r.kd = true := by rw [hk]; rfl
    have hnv := hc.nv ho
    have hl' : (hasL beqS t r.k && getL beqS [] t r.k == r.nu) = false := by unfold losesT at hl; rw [hk] at hl; exact hl
    rw [do_7 (r := backR r) (by rw [hb]; exact hk), hb]
    simp only
    rw [do_7 hk]
    by_cases hh : (hasL beqS t r.k && getL beqS [] t r.k == r.old) = true
    · rw [if_pos hh, set_has, set_get, if_pos (by simp)]
      rw [Bool.and_eq_true] at hh
      exact set_set t hd _ _ _ (by rw [lk_get hh.1, beq_iff_eq.1 hh.2])
    · rw [if_neg hh, if_neg (Bool.eq_false_iff.1 hl')]
      exact EqT.refl hd
  · -- swap
    have hb := back_8 hr hk
    have ho : usOld r.kd = true := by rw [hk]; rfl
    have hnv := hc.nv ho
    rw [hb, do_8 hk, do_8 hk]
    by_cases hh : (hasL beqS t r.k && getL beqS [] t r.k == r.old) = true
    · rw [if_pos hh, set_has, set_get]
      rw [if_neg (by simpa using Ne.symm hnv), if_pos (by simp)]
      rw [Bool.and_eq_true] at hh
      exact set_set t hd _ _ _ (by rw [lk_get hh.1, beq_iff_eq.1 hh.2])
    · rw [if_neg hh]
      by_cases h2 : (hasL beqS t r.k && getL beqS [] t r.k == r.nu) = true
      · rw [if_pos h2, set_has, set_get, if_pos (by simp)]
        rw [Bool.and_eq_true] at h2
        exact set_set t hd _ _ _ (by rw [lk_get h2.1, beq_iff_eq.1 h2.2])
      · rw [if_neg h2, if_neg hh, if_neg h2]
        exact EqT.refl hd
theorem step_back {t : Tab} {r : Rul} (hd : ndT t) (hp : allP t = true) (hlen : t.length ≤ 2000) (hr : ruleC r = 0) (hi : (invR r).2 = 0) (hl : losesT t r = false) (hs : stepE t r = 0) : stepE (doT t r) (backR r) = 0 := by
  have hb := do_back hd hr hi hl
  have hk2 : allP (doT (doT t r) (backR r)) = true := by rw [hb.allP]; exact hp
  have ho := rul_ok (back_ok hr hi)
  have h1 := step_all hp (rul_ok hr) hs
  have h2 := do_all h1.1 ho
  rw [hk2] at h2
  have h3 : ((backR r).kd == 2 && badP (doT t r) (backR r).k (backR r).tu) = false := by
    cases hq : ((backR r).kd == 2 && badP (doT t r) (backR r).k (backR r).tu) with
    | false => rfl
    | true => rw [hq] at h2; cases h2
  unfold stepE
  rw [if_neg (Bool.eq_false_iff.1 h3), hb.len, if_neg (by simp; omega)]
theorem tab_lk {l : List Stg} (hd : (l.map (·.k)).Nodup) : ∀ i, i ≤ l.length → ∀ q, lk (tabTo l i) q = ((l.take i).find? (fun s => s.k == q)).map (·.v)
  | 0, _, q => rfl
  | i + 1, hi, q => by
    have hi' : i < l.length := by omega
    show lk (setL beqS (tabTo l i) (l.getD i Stg.z).k (l.getD i Stg.z).v) q = _
    rw [lk_set, take_getD (d := Stg.z) hi', List.find?_append]
    unfold setF
    have ih := tab_lk hd i (by omega) q
    by_cases hq : (q == (l.getD i Stg.z).k) = true
    · rw [if_pos hq]
      have hq' := beq_iff_eq.1 hq
      have : (l.take i).find? (fun s => s.k == q) = none := by
        rw [List.find?_eq_none]
        intro s hs hsk
        have hsk := beq_iff_eq.1 hsk
        obtain ⟨j, hj, hje⟩ := List.getElem_of_mem hs
        have hj2 : j < i := by simp at hj; omega
        have e1 : (l.map (·.k))[j]? = some q := by
          rw [List.getElem?_map, List.getElem?_eq_getElem (by omega)]
          have : l[j] = s := by rw [← hje, List.getElem_take]
          rw [this, ← hsk]; rfl
        have e2 : (l.map (·.k))[i]? = some q := by
          rw [List.getElem?_map, List.getElem?_eq_getElem hi', hq', List.getD_eq_getElem?_getD, List.getElem?_eq_getElem hi']; rfl
        have := (List.getElem?_inj (List.getElem?_eq_some_iff.1 e1).1 hd).1 (e1.trans e2.symm)
        omega
      rw [this]
      simp [hq', List.find?]
    · rw [if_neg hq, ih]
      have h2 : ((l.getD i Stg.z).k == q) = false := by
        rw [beq_eq_false_iff_ne]; intro h; exact hq (by rw [h]; exact beq_self_eq_true _)
      cases (l.take i).find? (fun s => s.k == q) with
      | some s => rfl
      | none =>
        have e : [l.getD i Stg.z].find? (fun s => s.k == q) = none := by rw [List.find?_cons, h2]; rfl
        rw [e]; rfl
theorem stg_rise {l : List Stg} (h : listE pathB l = 0) : l.Pairwise fun a b => a.k < b.k := by
  have hz := firstNe_zero h
  have step : ∀ i, i + 1 < l.length → (l.getD i Stg.z).k < (l.getD (i + 1) Stg.z).k := fun i hi => by
    have h2 := hz (stgAt pathB l (i + 1)) (List.mem_map.2 ⟨i + 1, List.mem_range.2 hi, rfl⟩)
    unfold stgAt at h2
    split at h2
    · cases h2
    · split at h2
      · cases h2
      · split at h2
        · cases h2
        · rename_i hh
          have hle : leS (l.getD (i + 1) Stg.z).k (l.getD i Stg.z).k = false := by
            cases hq : leS (l.getD (i + 1) Stg.z).k (l.getD i Stg.z).k with
            | false => rfl
            | true => exact absurd (by rw [Nat.add_sub_cancel, hq, Bool.and_true, decide_eq_true_eq]; omega) hh
          unfold leS at hle
          rw [bytesLess_eq, Bool.or_eq_false_iff] at hle
          have h3 : ¬ (l.getD (i + 1) Stg.z).k < (l.getD i Stg.z).k := of_decide_eq_false hle.1
          have h4 : (l.getD (i + 1) Stg.z).k ≠ (l.getD i Stg.z).k := by simpa using hle.2
          by_cases hlt : (l.getD i Stg.z).k < (l.getD (i + 1) Stg.z).k
          · exact hlt
          · exact absurd (List.le_antisymm (List.not_lt.1 hlt) (List.not_lt.1 h3)) h4
  refine List.pairwise_iff_getElem.2 fun i j hi hj hij => ?_
  have go : ∀ d i, i + d + 1 < l.length → (l.getD i Stg.z).k < (l.getD (i + d + 1) Stg.z).k := fun d => by
    induction d with
    | zero => intro i h; exact step i h
    | succ d ih => intro i h; exact List.lt_trans (ih i (by omega)) (step (i + d + 1) h)
  have := go (j - i - 1) i (by omega)
  rw [show i + (j - i - 1) + 1 = j by omega] at this
  simpa [List.getD_eq_getElem?_getD, hi, hj] using this
theorem list_tab {l : List Stg} (h : listE pathB l = 0) : listT (tabOf l) = l := by
  have hr := stg_rise h
  have hnd : (l.map (·.k)).Nodup := by
    rw [List.nodup_iff_pairwise_ne]
    exact List.pairwise_map.2 (hr.imp fun hlt he => by rw [he] at hlt; exact List.lt_irrefl _ hlt)
  have hlk : ∀ q, lk (tabOf l) q = (l.find? (fun s => s.k == q)).map (·.v) := fun q => by
    have := tab_lk hnd l.length (Nat.le_refl _) q
    rwa [List.take_length] at this
  have hfind : ∀ s ∈ l, l.find? (fun x => x.k == s.k) = some s := fun s hs => by
    cases hf : l.find? (fun x => x.k == s.k) with
    | none =>
      rw [List.find?_eq_none] at hf
      exact absurd (by simp) (hf s hs)
    | some x =>
      have h1 := List.mem_of_find?_eq_some hf
      have h2 := List.find?_some hf
      have h2 : x.k = s.k := by simpa using h2
      obtain ⟨i, hi, hie⟩ := List.getElem_of_mem h1
      obtain ⟨j, hj, hje⟩ := List.getElem_of_mem hs
      have e1 : (l.map (·.k))[i]? = some s.k := by rw [List.getElem?_map, List.getElem?_eq_getElem hi, hie, ← h2]; rfl
      have e2 : (l.map (·.k))[j]? = some s.k := by rw [List.getElem?_map, List.getElem?_eq_getElem hj, hje]; rfl
      have := (List.getElem?_inj (List.getElem?_eq_some_iff.1 e1).1 hnd).1 (e1.trans e2.symm)
      subst this
      rw [← hie, hje]
  -- the keys
  have hkeys : keysT (tabOf l) = l.map (·.k) := by
    have hp : ((tabOf l).map (·.1)).Perm (l.map (·.k)) := by
      refine (List.perm_ext_iff_of_nodup (tabTo_nd l _) hnd).2 fun q => ?_
      have h1 := lk_none (t := tabOf l) (k := q)
      rw [hlk] at h1
      constructor
      · intro hq
        cases hf : l.find? (fun s => s.k == q) with
        | none => rw [hf] at h1; exact absurd hq (h1.1 rfl)
        | some s =>
          have h2 := List.find?_some hf
          exact List.mem_map.2 ⟨s, List.mem_of_find?_eq_some hf, by simpa using h2⟩
      · intro hq
        obtain ⟨s, hs, rfl⟩ := List.mem_map.1 hq
        by_cases hm : s.k ∈ (tabOf l).map (·.1)
        · exact hm
        · have := h1.2 hm
          rw [hfind s hs] at this; cases this
    unfold keysT sortS
    rw [mergeSort_of_perm hp]
    refine List.mergeSort_of_pairwise ?_
    exact List.pairwise_map.2 (hr.imp fun hlt => by simp only [leB, decide_eq_true_eq]; exact List.le_of_lt hlt)
  show ((keysT (tabOf l)).map fun k => (⟨k, getL beqS [] (tabOf l) k⟩ : Stg)) = l
  rw [hkeys, List.map_map]
  conv => rhs; rw [← List.map_id l]
  refine List.map_congr_left fun s hs => ?_
  show (⟨s.k, getL beqS [] (tabOf l) s.k⟩ : Stg) = s
  rw [get_lk, hlk, hfind s hs]
  rfl
end Go.Proofs.YtcchfmilleffjaaGreatDoor
namespace Go.Proofs.YtcchfmilleffjaaGreatDoor
open Go
theorem listT_inj {t u : Tab} (ht : ndT t) (hu : ndT u) (h : listT t = listT u) : EqT t u := by
  have hk : keysT t = keysT u := by
    have := congrArg (List.map (·.k)) h
    have e : ∀ w : Tab, (listT w).map (·.k) = keysT w := fun w => by
      show ((keysT w).map fun k => (⟨k, getL beqS [] w k⟩ : Stg)).map (·.k) = _
      rw [List.map_map]
      conv => rhs; rw [← List.map_id (keysT w)]
      rfl
    rwa [e, e] at this
  have hv : ∀ q ∈ keysT u, getL beqS [] t q = getL beqS [] u q := fun q hq => by
    have h2 : (keysT t).map (fun k => (⟨k, getL beqS [] t k⟩ : Stg)) = (keysT u).map (fun k => (⟨k, getL beqS [] u k⟩ : Stg)) := h
    rw [hk] at h2
    have := List.map_inj_left.1 h2 q hq
    exact congrArg Stg.v this
  refine eqT_lk ht hu fun q => ?_
  by_cases hq : q ∈ keysT u
  · have h1 : hasL beqS t q = true := by
      rw [has_lk]
      cases hl : lk t q with
      | some v => rfl
      | none => exact absurd (keys_mem.1 (hk ▸ hq)) (lk_none.1 hl)
    have h2 : hasL beqS u q = true := by
      rw [has_lk]
      cases hl : lk u q with
      | some v => rfl
      | none => exact absurd (keys_mem.1 hq) (lk_none.1 hl)
    rw [lk_get h1, lk_get h2, hv q hq]
  · rw [lk_none.2 (fun hm => hq (hk ▸ keys_mem.2 hm)), lk_none.2 (fun hm => hq (keys_mem.2 hm))]
theorem back_at {rs : List Rul} {j : Nat} (hj : j < rs.length) : ((rs.map backR).reverse).getD j Rul.z = backR (rs.getD (rs.length - 1 - j) Rul.z) := by
  rw [List.getD_eq_getElem?_getD, List.getElem?_reverse (by simpa using hj), List.getElem?_map, List.length_map, List.getElem?_eq_getElem (by omega : rs.length - 1 - j < rs.length), List.getD_eq_getElem?_getD, List.getElem?_eq_getElem (by omega : rs.length - 1 - j < rs.length)]
  rfl
theorem inv_zero {rs : List Rul} (h : ((invAll rs).2 != 0) = false) : (invAll rs).1 = (rs.map backR).reverse ∧ ∀ r ∈ rs, (invR r).2 = 0 := by
  by_cases h1 : decide ((rs.length : Int) > 100) = true
  · rw [ia_1 h1] at h; cases h
  · have h1 := Bool.eq_false_iff.2 h1
    by_cases h2 : invE rs = 0
    · rw [ia_3 h1 h2]
      exact ⟨rfl, fun r hr => firstNe_zero h2 _ (List.mem_map.2 ⟨r, hr, rfl⟩)⟩
    · rw [ia_2 h1 _ rfl (by simpa using h2)] at h
      simp at h
      exact absurd h h2
theorem clean_at {ss : List Stg} {rs : List Rul} (h : cleanT ss rs = true) {i : Nat} (hi : i < rs.length) : losesT (runT ss rs i) (rs.getD i Rul.z) = false := by
  have := List.all_eq_true.1 (show ((List.range rs.length).all fun j => !losesT (runT ss rs j) (rs.getD j Rul.z)) = true from h) i (List.mem_range.2 hi)
  simpa using this
theorem runs_back {ss : List Stg} {rs : List Rul} (h : ((runP ss rs).2 != 0) = false) (hi : ((invAll rs).2 != 0) = false) (hc : cleanT ss rs = true) : runP (runP ss rs).1 (invAll rs).1 = (ss, 0) := by
  obtain ⟨h1, h2⟩ := run_zero h
  have hok := run_ok h1
  have hlist := runF_list h1
  have hway := way_all hok h2
  obtain ⟨hb, hz⟩ := inv_zero hi
  obtain ⟨hs, _, hs0⟩ := runP_ok h
  have hr0 : ∀ r ∈ rs, ruleC r = 0 := fun r hr => by
    have e4 := firstNe_zero (by simpa using h1 : runF ss rs = 0) (rulesE rs) (by simp)
    exact firstNe_zero e4 _ (List.mem_map.2 ⟨r, hr, rfl⟩)
  rw [hb]
  obtain ⟨s, hse⟩ : ∃ s, s = (runP ss rs).1 := ⟨_, rfl⟩
  obtain ⟨bs, hbe⟩ : ∃ bs, bs = (rs.map backR).reverse := ⟨_, rfl⟩
  rw [← hse] at hs hs0 ⊢
  rw [← hbe]
  have hbl : bs.length = rs.length := by rw [hbe]; simp
  have hsl : s.length ≤ 2000 := by rw [hs, listT_len]; exact (hway rs.length (Nat.le_refl _)).len
  have hF : runF s bs = 0 := by
    have e1 : rulesE bs = 0 := by
      unfold rulesE
      refine firstNe_none (i := bs.length) (by simp) (List.all_eq_true.2 fun x hx => ?_)
      obtain ⟨r, hr, rfl⟩ := List.mem_map.1 (List.mem_of_mem_take hx)
      rw [hbe, List.mem_reverse] at hr
      obtain ⟨q, hq, rfl⟩ := List.mem_map.1 hr
      rw [back_ok (hr0 q hq) (hz q hq)]; rfl
    have hm := hok.many
    rw [runF_3 (by rw [hs0]; rfl) (by simp; omega), e1]
  have key : ∀ j, j ≤ rs.length → EqT (runT s bs j) (runT ss rs (rs.length - j)) := fun j => by
    induction j with
    | zero =>
      intro _
      refine listT_inj (tabTo_nd _ _) (run_nd _ _ _) ?_
      rw [Nat.sub_zero, ← hs]
      exact list_tab hs0
    | succ j ih =>
      intro hj
      have h5 := ih (by omega)
      have hm := mem_getD (d := Rul.z) (show rs.length - 1 - j < rs.length by omega)
      have e1 : rs.length - j = (rs.length - 1 - j) + 1 := by omega
      rw [e1] at h5
      have h6 : bs.getD j Rul.z = backR (rs.getD (rs.length - 1 - j) Rul.z) := by rw [hbe]; exact back_at (by omega)
      show EqT (doT (runT s bs j) (bs.getD j Rul.z)) _
      rw [h6, show rs.length - (j + 1) = rs.length - 1 - j by omega]
      exact (h5.do _).trans (do_back (run_nd _ _ _) (hr0 _ hm) (hz _ hm) (clean_at hc (by omega)))
  have hst : stepsE s bs = 0 := by
    unfold stepsE
    refine firstNe_none (i := bs.length) (by simp) (List.all_eq_true.2 fun x hx => ?_)
    obtain ⟨j, hj, rfl⟩ := List.mem_map.1 (List.mem_of_mem_take hx)
    have hj : j < rs.length := by rw [← hbl]; exact List.mem_range.1 hj
    have hm := mem_getD (d := Rul.z) (show rs.length - 1 - j < rs.length by omega)
    have h5 := key j (by omega)
    have e1 : rs.length - j = (rs.length - 1 - j) + 1 := by omega
    rw [e1] at h5
    have h6 : bs.getD j Rul.z = backR (rs.getD (rs.length - 1 - j) Rul.z) := by rw [hbe]; exact back_at hj
    have hw := hway (rs.length - 1 - j) (by omega)
    rw [h6, h5.stepE]
    have := step_back (run_nd ss rs (rs.length - 1 - j)) hw.all hw.len (hr0 _ hm) (hz _ hm) (clean_at hc (by omega)) (steps_at h2 (by omega))
    show ((stepE (doT (runT ss rs (rs.length - 1 - j)) (rs.getD (rs.length - 1 - j) Rul.z)) _) == 0) = true
    rw [this]; rfl
  rw [runP_3 (by rw [hF]; rfl) hst]
  have h7 := key rs.length (Nat.le_refl _)
  rw [Nat.sub_self] at h7
  rw [hbl, h7.list]
  show (listT (tabOf ss), (0 : Int)) = _
  rw [list_tab hlist]
end Go.Proofs.YtcchfmilleffjaaGreatDoor
namespace Go.Proofs.YtcchfmilleffjaaGreatDoor
open Go
theorem prEnd_ok (r : Rul) (s : L8) : (prEnd r s).1 = Rul.z ∨ ruleC (prEnd r s).1 = 0 := by
  unfold prEnd
  split
  · exact .inl rfl
  · split
    · exact .inl rfl
    · rename_i h; exact .inr (by simpa using h)
theorem prNew_ok (r : Rul) (s : L8) : (prNew r s).1 = Rul.z ∨ ruleC (prNew r s).1 = 0 := by
  unfold prNew
  split
  · split
    · exact .inl rfl
    · exact prEnd_ok _ _
  · exact prEnd_ok _ _
theorem prOld_ok (r : Rul) (s : L8) : (prOld r s).1 = Rul.z ∨ ruleC (prOld r s).1 = 0 := by
  unfold prOld
  split
  · split
    · exact .inl rfl
    · exact prNew_ok _ _
  · exact prNew_ok _ _
theorem prTo_ok (r : Rul) (s : L8) : (prTo r s).1 = Rul.z ∨ ruleC (prTo r s).1 = 0 := by
  unfold prTo
  split
  · split
    · exact .inl rfl
    · exact prOld_ok _ _
  · exact prOld_ok _ _
theorem parK_ok (k : Int) (s : L8) : (parK k s).1 = Rul.z ∨ ruleC (parK k s).1 = 0 := by
  unfold parK
  split
  · exact .inl rfl
  · exact prTo_ok _ _
theorem parR_ok (s : L8) : (parR s).1 = Rul.z ∨ ruleC (parR s).1 = 0 := by
  unfold parR
  split
  · exact .inl rfl
  · split
    · exact .inl rfl
    · exact parK_ok _ _
theorem parR_B (s : L8) : RulB (parR s).1 := by
  rcases parR_ok s with h | h
  · rw [h]; exact RulB.z
  · have ho := rul_ok h
    exact ⟨Nat.le_trans ho.len.1 (by decide), Nat.le_trans ho.len.2 (by decide), Nat.le_trans (value_len ho.vo) (by decide), Nat.le_trans (value_len ho.vn) (by decide)⟩
theorem readM_B (l : List L8) : ∀ r ∈ (readM l).1, RulB r := fun r hr => by
  unfold readM at hr
  split at hr
  · cases hr
  · obtain ⟨s, _, rfl⟩ := List.mem_map.1 (show r ∈ (l.take l.length).map fun s => (parR s).1 from hr)
    exact parR_B s
theorem readM_len (l : List L8) : (readM l).1.length ≤ l.length := by
  unfold readM
  split
  · exact Nat.zero_le _
  · exact Nat.le_of_eq (readTo_len (Nat.le_refl _))
theorem landed_t : nameB [97] = true := by decide
def carS (l : List Mv) (ss : List Stg) (ks : List Nat) : Nat → List Stg × Int
  | 0 => runP ss []
  | j + 1 => if (carS l ss ks j).2 != 0 then carS l ss ks j else runP (carS l ss ks j).1 (readM (l.getD (ks.getD j 0) Mv.z).rs).1
def carE (l : List Mv) (ss : List Stg) (ks : List Nat) : List Stg × Int :=
  if (carS l ss ks ks.length).2 != 0 then ([], (carS l ss ks ks.length).2) else ((carS l ss ks ks.length).1, 0)
def carryP (ss : List Stg) (l : List Mv) (v w : Ver) : List Stg × Int :=
  if (wayP l v w).2 != 0 then ([], (wayP l v w).2) else carE l ss (wayP l v w).1
theorem carS_len (l : List Mv) (ss : List Stg) (ks : List Nat) : ∀ j, (carS l ss ks j).1.length ≤ 2000 ∧ ∀ s ∈ (carS l ss ks j).1, s.k.length < 4294967000 ∧ s.v.length < 4294967000
  | 0 => runP_len _ _
  | j + 1 => by
    unfold carS
    split
    · exact carS_len l ss ks j
    · exact runP_len _ _
theorem carE_len (l : List Mv) (ss : List Stg) (ks : List Nat) : (carE l ss ks).1.length ≤ 2000 ∧ ∀ s ∈ (carE l ss ks).1, s.k.length < 4294967000 ∧ s.v.length < 4294967000 := by
  unfold carE
  split
  · exact ⟨Nat.zero_le _, fun s hs => by cases hs⟩
  · exact carS_len _ _ _ _
theorem carryP_len (ss : List Stg) (l : List Mv) (v w : Ver) : (carryP ss l v w).1.length ≤ 2000 ∧ ∀ s ∈ (carryP ss l v w).1, s.k.length < 4294967000 ∧ s.v.length < 4294967000 := by
  unfold carryP
  split
  · exact ⟨Nat.zero_le _, fun s hs => by cases hs⟩
  · exact carE_len _ _ _
theorem carS_stop {l : List Mv} {ss : List Stg} {ks : List Nat} {j : Nat} (h : ((carS l ss ks j).2 != 0) = true) : ∀ i, carS l ss ks (j + i) = carS l ss ks j
  | 0 => rfl
  | i + 1 => by
    have ih := carS_stop h i
    show (if (carS l ss ks (j + i)).2 != 0 then carS l ss ks (j + i) else _) = _
    rw [ih, if_pos h]
theorem carS_hit {l : List Mv} {ss : List Stg} {ks : List Nat} {j : Nat} (hj : j ≤ ks.length) (h : ((carS l ss ks j).2 != 0) = true) : carS l ss ks ks.length = carS l ss ks j := by
  have := carS_stop h (ks.length - j)
  rwa [show j + (ks.length - j) = ks.length by omega] at this
theorem carS_zero {l : List Mv} {ss : List Stg} {ks : List Nat} (h : ((carS l ss ks ks.length).2 != 0) = false) {j : Nat} (hj : j ≤ ks.length) : ((carS l ss ks j).2 != 0) = false := by
  cases hc : ((carS l ss ks j).2 != 0) with
  | false => rfl
  | true => rw [carS_hit hj hc] at h; rw [h] at hc; exact hc.symm
theorem carS_next {l : List Mv} {ss : List Stg} {ks : List Nat} {j : Nat} (h : ((carS l ss ks j).2 != 0) = false) : carS l ss ks (j + 1) = runP (carS l ss ks j).1 (readM (l.getD (ks.getD j 0) Mv.z).rs).1 := by
  show (if _ then _ else _) = _
  rw [if_neg (Bool.eq_false_iff.1 h)]
theorem run_nil {s : List Stg} (h : listE pathB s = 0) (hl : s.length ≤ 2000) : runP s [] = (s, 0) := by
  have h1 : runF s [] = 0 := by
    rw [runF_3 (by rw [h]; rfl) (by simp; omega)]; rfl
  rw [runP_3 (by rw [h1]; rfl) rfl]
  show (listT (tabOf s), (0 : Int)) = _
  rw [list_tab h]
theorem run_again {s : List Stg} {rs : List Rul} (h : ((runP s rs).2 != 0) = false) : runP (runP s rs).1 [] = ((runP s rs).1, 0) := run_nil (runP_ok h).2.2 (runP_len _ _).1
theorem carS_again {l : List Mv} {ss : List Stg} {ks : List Nat} : ∀ {j : Nat}, ((carS l ss ks j).2 != 0) = false → runP (carS l ss ks j).1 [] = ((carS l ss ks j).1, 0)
  | 0, h => run_again h
  | j + 1, h => by
    cases hc : ((carS l ss ks j).2 != 0) with
    | true => unfold carS at h; rw [if_pos hc, hc] at h; cases h
    | false => rw [carS_next hc] at h ⊢; exact run_again h
theorem carS_0 {l : List Mv} {ss : List Stg} {ks : List Nat} (h : ((carS l ss ks 0).2 != 0) = false) : carS l ss ks 0 = (ss, 0) := by
  have hr : ((runP ss []).2 != 0) = false := h
  obtain ⟨h1, h2⟩ := run_zero hr
  exact run_nil (runF_list h1) (run_ok h1).len
theorem one_way {m : Mv} {v : Ver} (hm : moveE m = 0) (hv : v.check = 0) (hh : hasM m v = true) (hne : m.t ≠ v) : wayP [m] v m.t = ([0], 0) := by
  have ht : m.t.check = 0 := by
    unfold moveE at hm
    split at hm
    · rename_i c; rw [hm] at c; cases c
    · split at hm
      · rename_i c; rw [hm] at c; cases c
      · rename_i c; simpa using c
  have hb : beqV m.t v = false := by
    cases hc : beqV m.t v with
    | false => rfl
    | true => exact absurd ((beqV_iff _ _).1 hc) hne
  have ho : (orderB v m.t == 0) = false := by
    cases hc : (orderB v m.t == 0) with
    | false => rfl
    | true => exact absurd (order_0 (by simpa using hc)).symm hne
  have hf : firstNe ([m].map moveE) = 0 := firstNe_none (i := 1) (by simp) (by simp [hm])
  unfold wayP
  rw [if_neg (by simp), hf, if_neg (by simp), hv, if_neg (by simp), ht, if_neg (by simp)]
  show bfs [m] m.t 2 [(v, true)] [(v, [])] = _
  unfold bfs
  rw [if_neg (by rw [ho]; simp)]
  have hs : scanW [m] (v, []) ([(v, true)], [(v, [])]) [m].length = ([(v, true), (m.t, true)], [(v, []), (m.t, [0])]) := by
    show stepW [m] (v, []) ([(v, true)], [(v, [])]) 0 = _
    have hg : getL beqV false [(v, true)] m.t = false := by unfold getL; simp only [hb, cond_false]; rfl
    have hset : setL beqV [(v, true)] m.t true = [(v, true), (m.t, true)] := by unfold setL; simp only [hb, cond_false]; rfl
    unfold stepW
    rw [if_pos (by
      show (hasM m v && !getL beqV false [(v, true)] m.t) = true
      rw [hh, hg]; rfl)]
    show (setL beqV [(v, true)] m.t true, [(v, ([] : List Nat))] ++ [(m.t, [] ++ [0])]) = _
    rw [hset]; rfl
  rw [hs]
  show bfs [m] m.t 1 [(v, true), (m.t, true)] [(m.t, [0])] = _
  unfold bfs
  rw [if_pos (by rw [order_refl]; rfl)]
def vAt (l : List Mv) (v : Ver) (ks : List Nat) : Nat → Ver
  | 0 => v
  | j + 1 => (l.getD (ks.getD j 0) Mv.z).t
theorem vAt_cons (l : List Mv) (v : Ver) (k : Nat) (ks : List Nat) : ∀ j, vAt l v (k :: ks) (j + 1) = vAt l (l.getD k Mv.z).t ks j
  | 0 => rfl
  | j + 1 => by show (l.getD ((k :: ks).getD (j + 1) 0) Mv.z).t = (l.getD (ks.getD j 0) Mv.z).t; rw [List.getD_cons_succ]
theorem chain_at {l : List Mv} : ∀ {v : Ver} {ks : List Nat}, Chain l v ks → ∀ {j : Nat}, j < ks.length → ks.getD j 0 < l.length ∧ hasM (l.getD (ks.getD j 0) Mv.z) (vAt l v ks j) = true ∧ (l.getD (ks.getD j 0) Mv.z).t ≠ vAt l v ks j
  | v, [], _, j, h => absurd h (Nat.not_lt_zero _)
  | v, k :: ks, ⟨a, b, c, d⟩, 0, _ => ⟨a, b, c⟩
  | v, k :: ks, ⟨a, b, c, d⟩, j + 1, h => by
    rw [vAt_cons, List.getD_cons_succ]
    exact chain_at d (by simpa using h)
theorem vAt_end (l : List Mv) : ∀ (v : Ver) (ks : List Nat), vAt l v ks ks.length = wEnd l v ks
  | v, [] => rfl
  | v, k :: ks => by
    show vAt l v (k :: ks) (ks.length + 1) = wEnd l (l.getD k Mv.z).t ks
    rw [vAt_cons]; exact vAt_end l _ ks
theorem carry_zero {ss : List Stg} {l : List Mv} {v w : Ver} (h : ((carryP ss l v w).2 != 0) = false) (hw : ((wayP l v w).2 != 0) = false) : ((carS l ss (wayP l v w).1 (wayP l v w).1.length).2 != 0) = false ∧ (carryP ss l v w).1 = (carS l ss (wayP l v w).1 (wayP l v w).1.length).1 := by
  unfold carryP at h ⊢
  rw [if_neg (Bool.eq_false_iff.1 hw)] at h ⊢
  unfold carE at h ⊢
  cases hc : ((carS l ss (wayP l v w).1 (wayP l v w).1.length).2 != 0) with
  | true => rw [if_pos hc, hc] at h; cases h
  | false => rw [if_neg (by simp)]; exact ⟨rfl, rfl⟩
theorem move_t {m : Mv} (hm : moveE m = 0) : m.t.check = 0 := by
  unfold moveE at hm
  split at hm
  · rename_i c; rw [hm] at c; cases c
  · split at hm
    · rename_i c; rw [hm] at c; cases c
    · rename_i c; simpa using c
theorem vAt_check {l : List Mv} {v w : Ver} {ks : List Nat} (h : WayOk l v w ks) : ∀ {j : Nat}, j ≤ ks.length → (vAt l v ks j).check = 0
  | 0, _ => h.v0
  | j + 1, hj => move_t (h.mv _ (mem_getD (chain_at h.ch (show j < ks.length by omega)).1))
theorem carry_one {ss : List Stg} {l : List Mv} {v w : Ver} {ks : List Nat} (h : WayOk l v w ks) (hc : ((carS l ss ks ks.length).2 != 0) = false) {j : Nat} (hj : j < ks.length) :
    carryP (carS l ss ks j).1 [l.getD (ks.getD j 0) Mv.z] (vAt l v ks j) (l.getD (ks.getD j 0) Mv.z).t = ((carS l ss ks (j + 1)).1, 0) := by
  obtain ⟨h1, h2, h3⟩ := chain_at h.ch hj
  have hm := h.mv _ (mem_getD (d := Mv.z) h1)
  have hw := one_way hm (vAt_check h (Nat.le_of_lt hj)) h2 h3
  have hz := carS_zero hc (Nat.le_of_lt hj)
  have hz1 := carS_zero hc (show j + 1 ≤ ks.length from hj)
  have e0 : carS [l.getD (ks.getD j 0) Mv.z] (carS l ss ks j).1 [0] 0 = ((carS l ss ks j).1, 0) := carS_again hz
  have e1 : carS [l.getD (ks.getD j 0) Mv.z] (carS l ss ks j).1 [0] 1 = carS l ss ks (j + 1) := by
    rw [carS_next (by rw [e0]; rfl), e0, carS_next hz]; rfl
  unfold carryP
  rw [hw, if_neg (by simp)]
  show carE _ _ [0] = _
  unfold carE
  show (if (carS _ _ [0] 1).2 != 0 then _ else _) = _
  rw [show ([0] : List Nat).length = 1 from rfl, e1, if_neg (Bool.eq_false_iff.1 hz1)]
theorem car_0 (l : List Mv) (ss : List Stg) (ks : List Nat) : carS l ss ks 0 = runP ss [] := by unfold carS; rfl
theorem carry_1 {ss : List Stg} {l : List Mv} {v w : Ver} (h : ((wayP l v w).2 != 0) = true) : carryP ss l v w = ([], (wayP l v w).2) := if_pos h
theorem carry_2 {ss : List Stg} {l : List Mv} {v w : Ver} {x : List Stg × Int} (h : ((wayP l v w).2 != 0) = false) (hx : carS l ss (wayP l v w).1 (wayP l v w).1.length = x) (c : (x.2 != 0) = true) : carryP ss l v w = ([], x.2) := by
  subst hx; unfold carryP; rw [if_neg (Bool.eq_false_iff.1 h)]; unfold carE; exact if_pos c
theorem carry_3 {ss : List Stg} {l : List Mv} {v w : Ver} {x : List Stg × Int} (h : ((wayP l v w).2 != 0) = false) (hx : carS l ss (wayP l v w).1 (wayP l v w).1.length = x) (c : (x.2 != 0) = false) : carryP ss l v w = (x.1, 0) := by
  subst hx; unfold carryP; rw [if_neg (Bool.eq_false_iff.1 h)]; unfold carE; exact if_neg (Bool.eq_false_iff.1 c)
theorem ks_lt {l : List Mv} {v w : Ver} (h : ((wayP l v w).2 != 0) = false) {i : Nat} (hi : i < (wayP l v w).1.length) : (wayP l v w).1.getD i 0 < l.length := (chain_at (way_ok h).ch hi).1
end Go.Proofs.YtcchfmilleffjaaGreatDoor
namespace Go.Proofs.YtcchfmilleffjaaGreatDoor
open Go Go.RowKit
inductive LeVs : List V → List V → Prop where
  | nil : LeVs [] []
  | cons {a b : V} {xs ys : List V} : LeV a b → LeVs xs ys → LeVs (a :: xs) (b :: ys)
theorem LeVs.len {xs ys : List V} (h : LeVs xs ys) : xs.length = ys.length := by
  induction h with
  | nil => rfl
  | cons _ _ ih => simp [ih]
theorem LeVs.get {xs ys : List V} (h : LeVs xs ys) : ∀ {i : Nat} {u : V}, ys[i]? = some u → ∃ u', xs[i]? = some u' ∧ LeV u' u := by
  induction h with
  | nil => intro i u h; simp at h
  | cons h1 _ ih =>
    intro i u h
    cases i with
    | zero => simp at h; subst h; exact ⟨_, rfl, h1⟩
    | succ i => simp at h; simpa using ih h
theorem PureCall.le {P : Program} {J : Inv} {f : FuncId} {args args' : List V} {r : V} (pc : PureCall P J f args r) (h : LeVs args' args) : PureCall P J f args' r :=
  ⟨pc.enter, fun im w vs hJ hi hl hx => pc.calls im w vs hJ hi (hl.trans h.len) (fun i u v hu hv => by
    obtain ⟨u', h1, h2⟩ := h.get hu
    exact h2 im w v (hx i u' v h1 hv))⟩
theorem OpZ.alloc {J : Inv} {k0 : Lens} {E : Env J k0} {P : Program} {T : TypeId → Option TI} {n : Nat} {t : Nat → V} {b : List (List C)} {r : List (Option RowO)} {m : List (List (DV × DV))} {ops : Array Oper} {K : St → Prop} {i : Nat} {ty : TypeId} {pos : String} {after : Array Edge}
    (hT : TabOk P T) {te : TypeId} {ti : TI} {cs cs' : List C} {b' : List (List C)} (hi : T te = some ti) (hz : zeroC ti = some cs) (hf : forceL cs = some cs') (hb : forceL (appL b [cs']) = some b')
    (k : K ⟨upd t i (.one (.ptr b.length 0)), b', r, m⟩) : OpZ E P n ops ⟨some i, .alloc te, ty, pos, after, none⟩ K ⟨t, b, r, m⟩ :=
  ⟨fun v1 b1 r1 m1 => v1 = .one (.ptr b.length 0) ∧ b1 = b' ∧ r1 = r ∧ m1 = m, fun t' ht => S.alloc (t := t') (l := []) (K := fun s1 => ∃ v b2 r2 m2, s1 = ⟨updO t' (some i) v, b2, r2, m2⟩ ∧ (v = .one (.ptr b.length 0) ∧ b2 = b' ∧ r2 = r ∧ m2 = m)) hT hi hz hf hb ⟨_, _, _, _, rfl, rfl, rfl, rfl, rfl⟩,
    fun v1 b1 r1 m1 ⟨e0, e1, e2, e3⟩ => by subst e0; subst e1; subst e2; subst e3; exact k⟩
end Go.Proofs.YtcchfmilleffjaaGreatDoor
