/- Part 4 of a proof: W37, V28, W38, W39, A38, W40, W41, V29, W42, V40, V41, W43, A15, A16, Z1, D2, D3, BCondsRead. -/
import Derived.Test.YtjibdoagpegniaaGreatDoorRows
import Derived.Lib.LaidTab
import Derived.Carry
import Derived.ChangeSame
import Derived.OpenVars
import Derived.OpenShut
import Derived.WalkKit
import Derived.ProofKit
import Derived.Deep.DeepHandedRow
import Derived.Test.YtjibdoagpegniaaGreatDoorCards
import Derived.Test.YtjibdoagpegniaaGreatDoorTie
import Derived.Lib.LaidU8
import Derived.Shelf.Vars
import Derived.Deep.DeepLaidRun
import Derived.Test.YtjibdoagpegniaaGreatDoorMCCondsRead3
set_option linter.unusedVariables false
set_option linter.unusedSimpArgs false
set_option maxRecDepth 100000
set_option maxHeartbeats 4000000
namespace Go.Proofs.YtjibdoagpegniaaGreatDoor
open Go
open Go.RowKit
attribute [local irreducible] rangeB pathB nameB valueB visit visits checkP quoteL qAt nextT skipB wordE toks refL noR nxR isR
theorem pc_outref2_quotedAt (s : List UInt8) (f : Nat) (hs : s.length ≤ 4000) (hf : f < s.length) :
  PureCall Tryz.prog J 53 [.one (.d (.str s)), .one (.d (.int .i64 (f : Int)))] (.tup [.one (.d (.str (qT (qAt s f)))), .one (.d (.int .i64 (qE (qAt s f) : Int))), .one (.d (.bool (qAt s f).isSome))]) := by
 refine PureCall.of_body tOk (fn := Tryz.f53) Tryz.func53 (by kernel_rfl) rfl (Nat.le_of_ble_eq_true rfl) (fun E => ?_)
 refine W.seq ?_
 refine W.region ?_
 refine S.pure tOk zOk rfl rfl rfl ?_
 refine S.pure tOk zOk rfl rfl rfl ?_
 refine S.pure tOk zOk rfl rfl rfl ?_
 refine thenK_n ?_
 refine W.seq ?_
 refine W.region ?_
 refine S.pure tOk zOk rfl rfl rfl ?_
 refine thenK_n ?_
 refine W.seq ?_
 refine W.seq ?_
 refine W.region ?_
 refine S.pure tOk zOk rfl rfl rfl ?_
 refine S.pureE tOk zOk rfl rfl (inc_i64 (by omega)) rfl ?_
 refine S.pure tOk zOk rfl rfl rfl ?_
 refine thenK_n ?_
 refine W.block ?_
 refine W.loop (fun k st => ∃ i : Nat, ∃ o : List UInt8, i ≤ s.length ∧ quoteL (s.drop i) o i = (qAt s f) ∧ o.length ≤ i ∧ k = s.length - i ∧ ∃ t b2 r2 m2, st = ⟨t, [] ++ b2, [] ++ r2, [] ++ m2⟩ ∧ holdsL t [(0, .one (.d (.str s))), (7, .one (.d (.str o))), (8, .one (.d (.int .i64 (i : Int))))]) (s.length - (f + 1)) ⟨f + 1, [], hf, q_start, Nat.zero_le _, rfl, _, _, _, _, rfl, rfl, rfl, rfl, trivial⟩ ?_
 rintro k0 _ ⟨i, o, f0_0, f0_1, f0_2, rfl, t0, bb0, rr0, mm0, rfl, hh0⟩
 refine W.keepR _ _ _ _ _ _ _ hh0 rfl ?_
 refine W.seq ?_
 refine W.seq ?_
 refine W.region ?_
 refine S.pure tOk zOk rfl rfl rfl ?_
 refine S.pure tOk zOk rfl rfl rfl ?_
 refine S.pure tOk zOk rfl rfl rfl ?_
 refine S.pure tOk zOk rfl rfl rfl ?_
 refine thenK_n ?_
 refine W.cond rfl (fun c1 => ?_) (fun c1 => ?_)
 ·skip
  have hi : i < s.length := by simpa using c1
  refine W.skip ?_
  refine thenK_n ?_
  refine W.seq ?_
  refine W.block ?_
  refine W.seq ?_
  refine W.seq ?_
  refine W.region ?_
  refine S.pure tOk zOk rfl rfl rfl ?_
  refine S.pure tOk zOk rfl rfl rfl ?_
  refine S.pure tOk zOk rfl (str_ok hi) rfl ?_
  refine thenK_n ?_
  refine W.block ?_
  refine W.seq ?_
  refine W.region ?_
  refine S.pure tOk zOk rfl rfl rfl ?_
  refine S.pure tOk zOk rfl rfl rfl ?_
  refine thenK_n ?_
  refine W.cond rfl (fun c2 => ?_) (fun c2 => ?_)
  ·skip
   have hq := qL_q hi (u8i (k := 34) c2) f0_1
   refine W.seq ?_
   refine W.region ?_
   refine S.pure tOk zOk rfl rfl rfl ?_
   refine S.pure tOk zOk rfl rfl rfl ?_
   refine S.pureE tOk zOk rfl rfl (inc_i64 (by omega)) rfl ?_
   refine S.pure tOk zOk rfl rfl rfl ?_
   refine S.pure tOk zOk rfl rfl rfl ?_
   refine S.pure tOk zOk rfl rfl rfl ?_
   refine thenK_n ?_
   refine W.ret ?_
   refine blockK_r ?_
   refine thenK_r ?_
   refine blockK_r ?_
   refine thenK_r ?_
   refine thenK_r ?_
   refine blockK_r ?_
   refine thenK_r ?_
   exact ⟨_, rfl, rfl, LeV.of_force rfl (by rw [hq]; rfl)⟩
  ·skip
   have hc := u8i (c := s.getD i 0) (k := 34) c2
   refine W.seq ?_
   refine W.region ?_
   refine S.pure tOk zOk rfl rfl rfl ?_
   refine S.pure tOk zOk rfl rfl rfl ?_
   refine thenK_n ?_
   refine W.cond rfl (fun c3 => ?_) (fun c3 => ?_)
   ·skip
    have hb := u8i (c := s.getD i 0) (k := 92) c3
    refine W.seq ?_
    refine W.region ?_
    refine S.pure tOk zOk rfl rfl rfl ?_
    refine S.pureE tOk zOk rfl rfl (inc_i64 (by omega)) rfl ?_
    refine S.pure tOk zOk rfl rfl rfl ?_
    refine thenK_n ?_
    refine W.seq ?_
    refine W.region ?_
    refine S.pure tOk zOk rfl rfl rfl ?_
    refine S.pure tOk zOk rfl rfl rfl ?_
    refine S.pure tOk zOk rfl rfl rfl ?_
    refine S.pure tOk zOk rfl rfl rfl ?_
    refine S.pure tOk zOk rfl rfl rfl ?_
    refine S.pureG tOk zOk rfl rfl tg (fun _ => rfl) rfl ?_
    refine S.pureG tOk zOk rfl rfl tg (fun _ => rfl) rfl ?_
    refine S.pureG tOk zOk rfl rfl tg (fun h => qidx hi h) rfl ?_
    refine S.pureG tOk zOk rfl rfl tg (fun _ => rfl) rfl ?_
    refine S.pureG tOk zOk rfl rfl tg (fun _ => rfl) rfl ?_
    refine S.pureG tOk zOk rfl rfl tg (fun _ => rfl) rfl ?_
    refine S.pureG tOk zOk rfl rfl tg (fun _ => rfl) rfl ?_
    refine S.pureG tOk zOk rfl rfl tg (fun h => qidx hi (andl h)) rfl ?_
    refine S.pureG tOk zOk rfl rfl tg (fun _ => rfl) rfl ?_
    refine S.pickAndG tOk zOk rfl rfl rfl tg tg ?_
    refine S.pickOr tOk zOk rfl rfl tg ?_
    refine thenK_n ?_
    refine W.cond rfl (fun c4 => ?_) (fun c4 => ?_)
    ·skip
     have hq := qL_bad hi hc hb (qbad c4) f0_1
     refine W.seq ?_
     refine W.region ?_
     refine S.pure tOk zOk rfl rfl rfl ?_
     refine S.pure tOk zOk rfl rfl rfl ?_
     refine S.pure tOk zOk rfl rfl rfl ?_
     refine thenK_n ?_
     refine W.ret ?_
     refine blockK_r ?_
     refine thenK_r ?_
     refine blockK_r ?_
     refine thenK_r ?_
     refine thenK_r ?_
     refine blockK_r ?_
     refine thenK_r ?_
     exact ⟨_, rfl, rfl, LeV.of_force rfl (by rw [hq]; rfl)⟩
    ·skip
     have hi1 : i + 1 < s.length := qok1 hi c4
     have hd := qok2 c4
     refine W.skip ?_
     refine blockK_n ?_
     refine thenK_n ?_
     refine W.region ?_
     refine S.pure tOk zOk rfl rfl rfl ?_
     refine S.pure tOk zOk rfl rfl rfl ?_
     refine S.pure tOk zOk rfl rfl rfl ?_
     refine S.pure tOk zOk rfl rfl rfl ?_
     refine S.pureE tOk zOk rfl rfl (inc_i64 (by omega)) rfl ?_
     refine S.pure tOk zOk rfl (sl_ok (by omega) (by omega) (by omega)) rfl ?_
     refine S.pureE tOk zOk rfl (cat_ok (by simp; omega)) (by first | exact qcat hi1 | exact qcat hi) rfl ?_
     refine S.pure tOk zOk rfl rfl rfl ?_
     refine blockK_n ?_
     refine thenK_n ?_
     refine W.region ?_
     refine S.pure tOk zOk rfl rfl rfl ?_
     refine S.pure tOk zOk rfl rfl rfl ?_
     refine S.pure tOk zOk rfl rfl rfl ?_
     refine loop_n (s.length - _) (by first | exact qm2 hi | exact qm1 hi) ⟨i + 1 + 1, _, hi1, qL_esc hi1 hc hb hd f0_1, (by simp; omega), rfl, _, _, _, _, rfl, rfl, rfl, inc_i64 (by omega), trivial⟩
   ·skip
    have hb := u8i (c := s.getD i 0) (k := 92) c3
    refine W.skip ?_
    refine blockK_n ?_
    refine thenK_n ?_
    refine W.region ?_
    refine S.pure tOk zOk rfl rfl rfl ?_
    refine S.pure tOk zOk rfl rfl rfl ?_
    refine S.pure tOk zOk rfl rfl rfl ?_
    refine S.pure tOk zOk rfl rfl rfl ?_
    refine S.pureE tOk zOk rfl rfl (inc_i64 (by omega)) rfl ?_
    refine S.pure tOk zOk rfl (sl_ok (by omega) (by omega) (by omega)) rfl ?_
    refine S.pureE tOk zOk rfl (cat_ok (by simp; omega)) (by first | exact qcat hi1 | exact qcat hi) rfl ?_
    refine S.pure tOk zOk rfl rfl rfl ?_
    refine blockK_n ?_
    refine thenK_n ?_
    refine W.region ?_
    refine S.pure tOk zOk rfl rfl rfl ?_
    refine S.pure tOk zOk rfl rfl rfl ?_
    refine S.pure tOk zOk rfl rfl rfl ?_
    refine loop_n (s.length - _) (by first | exact qm2 hi | exact qm1 hi) ⟨i + 1, _, hi, qL_c hi hc hb f0_1, (by simp; omega), rfl, _, _, _, _, rfl, rfl, rfl, inc_i64 (by omega), trivial⟩
 ·skip
  have hi : s.length ≤ i := by simpa using c1
  have hq := qL_end hi f0_1
  refine W.exit ?_
  refine thenK_e ?_
  refine thenK_e ?_
  refine blockK_x ?_
  refine thenK_n ?_
  refine W.seq ?_
  refine W.region ?_
  refine S.pure tOk zOk rfl rfl rfl ?_
  refine S.pure tOk zOk rfl rfl rfl ?_
  refine S.pure tOk zOk rfl rfl rfl ?_
  refine thenK_n ?_
  refine W.ret ?_
  exact ⟨_, rfl, rfl, LeV.of_force rfl (by rw [hq]; rfl)⟩
theorem pc_special (c : Int) :
  PureCall Tryz.prog J 52 [.one (.d (.int .u8 c))] (.one (.d (.bool (spI c)))) := by
 refine PureCall.of_body tOk (fn := Tryz.f52) Tryz.func52 (by kernel_rfl) rfl (Nat.le_of_ble_eq_true rfl) (fun E => ?_)
 refine W.seq ?_
 refine W.region ?_
 refine S.pure tOk zOk rfl rfl rfl ?_
 refine thenK_n ?_
 refine W.seq ?_
 refine W.region ?_
 refine S.pure tOk zOk rfl rfl rfl ?_
 refine S.pure tOk zOk rfl rfl rfl ?_
 refine S.pure tOk zOk rfl rfl rfl ?_
 refine S.pureG tOk zOk rfl rfl tg (fun _ => rfl) rfl ?_
 refine S.pureG tOk zOk rfl rfl tg (fun _ => rfl) rfl ?_
 refine S.pickOr tOk zOk rfl rfl tg ?_
 refine S.pure tOk zOk rfl rfl rfl ?_
 refine S.pureG tOk zOk rfl rfl tg (fun _ => rfl) rfl ?_
 refine S.pureG tOk zOk rfl rfl tg (fun _ => rfl) rfl ?_
 refine S.pickOr tOk zOk rfl rfl tg ?_
 refine S.pure tOk zOk rfl rfl rfl ?_
 refine S.pureG tOk zOk rfl rfl tg (fun _ => rfl) rfl ?_
 refine S.pureG tOk zOk rfl rfl tg (fun _ => rfl) rfl ?_
 refine S.pickOr tOk zOk rfl rfl tg ?_
 refine S.pure tOk zOk rfl rfl rfl ?_
 refine S.pureG tOk zOk rfl rfl tg (fun _ => rfl) rfl ?_
 refine S.pureG tOk zOk rfl rfl tg (fun _ => rfl) rfl ?_
 refine S.pickOr tOk zOk rfl rfl tg ?_
 refine S.pure tOk zOk rfl rfl rfl ?_
 refine S.pureG tOk zOk rfl rfl tg (fun _ => rfl) rfl ?_
 refine S.pureG tOk zOk rfl rfl tg (fun _ => rfl) rfl ?_
 refine S.pickOr tOk zOk rfl rfl tg ?_
 refine S.pure tOk zOk rfl rfl rfl ?_
 refine thenK_n ?_
 refine W.ret ?_
 exact ⟨_, rfl, rfl, LeV.of_force rfl rfl⟩
theorem pc_outref2_condWords (s : List UInt8) (hs : s.length ≤ 4000) :
  PureCall Tryz.prog J 18 [.one (.d (.str s))] (.one (.d (.vec 4 ((refL s (toks s)).map wdD)))) := by
 refine PureCall.of_body tOk (fn := Tryz.f18) Tryz.func18 (by kernel_rfl) rfl (Nat.le_of_ble_eq_true rfl) (fun E => ?_)
 refine W.seq ?_
 refine W.region ?_
 refine S.pure tOk zOk rfl rfl rfl ?_
 refine thenK_n ?_
 refine W.seq ?_
 refine W.region ?_
 refine S.pure tOk zOk rfl rfl rfl ?_
 refine thenK_n ?_
 refine W.seq ?_
 refine W.region ?_
 refine S.pure tOk zOk rfl rfl rfl ?_
 refine thenK_n ?_
 refine W.seq ?_
 refine W.seq ?_
 refine W.region ?_
 refine S.pure tOk zOk rfl rfl rfl ?_
 refine thenK_n ?_
 refine W.newRow 3 4 53 rfl ?_
 refine W.block ?_
 refine W.loop (fun k st => ∃ i : Nat, ∃ T : List Tok, ∃ l : List Wd, ∃ v : Nat, ∃ al : Bool, i ≤ s.length ∧ Good s T ∧ hd T = nextT s i ∧ l ++ refL s T = refL s (toks s) ∧ k = s.length - i ∧ ∃ t b2 r2 m2, st = ⟨t, [] ++ b2, [some ⟨al, v, 4, 53, l.map wdD⟩] ++ r2, [] ++ m2⟩ ∧ holdsL t [(0, .one (.d (.str s))), (3, .one (.row 0 v 0 (l.map wdD).length)), (4, .one (.d (.fn 52))), (5, .one (.d (.int .i64 (i : Int))))]) (s.length) ⟨0, toks s, [], 0, false, Nat.zero_le _, (toks_gd hs).1, hd_toks s, rfl, rfl, _, _, _, _, rfl, rfl, rfl, rfl, rfl, trivial⟩ ?_
 rintro k0 _ ⟨i, T, l, v, al, f0_0, f0_1, f0_2, f0_3, rfl, t0, bb0, rr0, mm0, rfl, hh0⟩
 refine W.keepR _ _ _ _ _ _ _ hh0 rfl ?_
 refine W.seq ?_
 refine W.seq ?_
 refine W.region ?_
 refine S.pure tOk zOk rfl rfl rfl ?_
 refine S.pure tOk zOk rfl rfl rfl ?_
 refine S.pure tOk zOk rfl rfl rfl ?_
 refine S.pure tOk zOk rfl rfl rfl ?_
 refine thenK_n ?_
 refine W.cond rfl (fun c1 => ?_) (fun c1 => ?_)
 ·skip
  have hi : i < s.length := by simpa using c1
  refine W.skip ?_
  refine thenK_n ?_
  refine W.block ?_
  refine W.seq ?_
  refine W.region ?_
  refine S.pure tOk zOk rfl rfl rfl ?_
  refine S.pure tOk zOk rfl rfl rfl ?_
  refine S.pure tOk zOk rfl (str_ok hi) rfl ?_
  refine S.pure tOk zOk rfl rfl rfl ?_
  refine thenK_n ?_
  refine W.block ?_
  refine W.seq ?_
  refine W.region ?_
  refine S.pure tOk zOk rfl rfl rfl ?_
  refine S.pure tOk zOk rfl rfl rfl ?_
  refine S.pure tOk zOk rfl rfl rfl ?_
  refine S.pureG tOk zOk rfl rfl tg (fun _ => rfl) rfl ?_
  refine S.pureG tOk zOk rfl rfl tg (fun _ => rfl) rfl ?_
  refine S.pickOr tOk zOk rfl rfl tg ?_
  refine S.pure tOk zOk rfl rfl rfl ?_
  refine thenK_n ?_
  refine W.cond rfl (fun c2 => ?_) (fun c2 => ?_)
  ·skip
   refine W.region ?_
   refine S.pure tOk zOk rfl rfl rfl ?_
   refine S.pureE tOk zOk rfl rfl (inc_i64 (by omega)) rfl ?_
   refine S.pure tOk zOk rfl rfl rfl ?_
   refine blockK_n ?_
   refine blockK_n ?_
   refine loop_n (s.length - _) (by first | exact qm1 hi | exact hmu) ⟨i + 1, T, _, _, _, hi, f0_1, f0_2.trans (cwd_blank hi c2), f0_3, rfl, _, _, _, _, rfl, rfl, rfl, rfl, rfl, trivial⟩
  ·skip
   have hsk := cwd_skip hi c2
   refine W.seq ?_
   refine W.region ?_
   refine S.pure tOk zOk rfl rfl rfl ?_
   refine S.pure tOk zOk rfl rfl rfl ?_
   refine S.pure tOk zOk rfl rfl rfl ?_
   refine thenK_n ?_
   refine W.cond rfl (fun c3 => ?_) (fun c3 => ?_)
   ·skip
    have hq := u8i (c := s.getD i 0) (k := 34) c3
    have hns := sgn_34 hq
    refine W.seq ?_
    refine W.region ?_
    refine S.pure tOk zOk rfl rfl rfl ?_
    refine S.pure tOk zOk rfl rfl rfl ?_
    refine S.call rfl rfl rfl rfl rfl (pc_outref2_quotedAt s i hs hi) ?_
    refine S.pure tOk zOk rfl rfl rfl ?_
    refine S.pure tOk zOk rfl rfl rfl ?_
    refine S.pure tOk zOk rfl rfl rfl ?_
    refine S.pure tOk zOk rfl rfl rfl ?_
    refine S.pure tOk zOk rfl rfl rfl ?_
    refine S.pure tOk zOk rfl rfl rfl ?_
    refine S.pure tOk zOk rfl rfl rfl ?_
    refine thenK_n ?_
    refine W.seq ?_
    refine W.region ?_
    refine S.pure tOk zOk rfl rfl rfl ?_
    refine thenK_n ?_
    refine W.seq ?_
    refine W.seq ?_
    refine W.region ?_
    refine S.pure tOk zOk rfl rfl rfl ?_
    refine S.pure tOk zOk rfl rfl rfl ?_
    refine thenK_n ?_
    refine W.cond rfl (fun c4 => ?_) (fun c4 => ?_)
    ·skip
     have hqn : qT (qAt s i) = [] := by
      have : qAt s i = none := by simpa using c4
      rw [this]; rfl
     have hx := f0_2.trans (nx_bad hsk (nlen hi) hns hq (by simpa using c4))
     have hmu : s.length - s.length < s.length - i := by omega
     refine W.region ?_
     refine S.pure tOk zOk rfl rfl rfl ?_
     refine S.pure tOk zOk rfl rfl rfl ?_
     refine S.pure tOk zOk rfl rfl rfl ?_
     refine S.pure tOk zOk rfl rfl rfl ?_
     refine thenK_n ?_
     refine W.seq ?_
     refine W.region ?_
     refine S.pure tOk zOk rfl rfl rfl ?_
     refine S.pure tOk zOk rfl rfl rfl ?_
     refine S.pure tOk zOk rfl rfl rfl ?_
     refine S.pure tOk zOk rfl rfl rfl ?_
     refine S.pure tOk zOk rfl rfl rfl ?_
     refine S.slice tOk rfl rfl ?_
     refine S.append tOk rfl rfl rfl rfl rfl rfl rfl rfl rfl rfl rfl rfl (by show (l.map wdD).length + 1 ≤ _; rw [List.length_map]; have := cwd_len f0_3 (toks_ref hs); omega) rfl (wd_snoc (w := wOf (hd T)) (by rw [hx, hqn]; rfl)) rfl ?_
     refine S.pure tOk zOk rfl rfl rfl ?_
     refine thenK_n ?_
     refine W.region ?_
     refine S.pure tOk zOk rfl rfl rfl ?_
     refine S.pure tOk zOk rfl rfl rfl ?_
     refine blockK_n ?_
     refine blockK_n ?_
     refine loop_n (s.length - _) (by first | exact qm1 hi | exact hmu) ⟨s.length, [nextT s s.length], _, _, _, Nat.le_refl _, end_good, rfl, cwd_bad f0_3 f0_1 (by rw [hx]; rfl), rfl, _, _, _, _, rfl, rfl, rfl, rfl, rfl, trivial⟩
    ·skip
     have hso : (qAt s i).isSome = true := by simpa using c4
     have hx := f0_2.trans (nx_text hsk (nlen hi) hns hq hso)
     have hk : ((hd T).k == 0 || (hd T).k == 4) = false := by rw [hx]; rfl
     have hqq := qAt_le hi hso
     have hle := hqq.2.1
     have hmu : s.length - qE (qAt s i) < s.length - i := by omega
     refine W.skip ?_
     refine thenK_n ?_
     refine W.seq ?_
     refine W.region ?_
     refine S.pure tOk zOk rfl rfl rfl ?_
     refine S.pure tOk zOk rfl rfl rfl ?_
     refine S.pure tOk zOk rfl rfl rfl ?_
     refine S.pure tOk zOk rfl rfl rfl ?_
     refine S.pure tOk zOk rfl rfl rfl ?_
     refine S.slice tOk rfl rfl ?_
     refine S.append tOk rfl rfl rfl rfl rfl rfl rfl rfl rfl rfl rfl rfl (by show (l.map wdD).length + 1 ≤ _; rw [List.length_map]; have := cwd_len f0_3 (toks_ref hs); omega) rfl (wd_snoc (w := wOf (hd T)) (by rw [hx]; rfl)) rfl ?_
     refine S.pure tOk zOk rfl rfl rfl ?_
     refine thenK_n ?_
     refine W.region ?_
     refine S.pure tOk zOk rfl rfl rfl ?_
     refine S.pure tOk zOk rfl rfl rfl ?_
     refine blockK_n ?_
     refine blockK_n ?_
     refine loop_n (s.length - _) (by first | exact qm1 hi | exact hmu) ⟨qE (qAt s i), adv T, _, _, _, hle, good_adv f0_1, (ref_step f0_1 hk).2.1.trans (by rw [hx]), cwd_go f0_3 f0_1 hk, rfl, _, _, _, _, rfl, rfl, rfl, rfl, rfl, trivial⟩
   ·skip
    have hq := u8i (c := s.getD i 0) (k := 34) c3
    refine W.seq ?_
    refine W.region ?_
    refine S.pure tOk zOk rfl rfl rfl ?_
    refine S.pure tOk zOk rfl rfl rfl ?_
    refine S.call rfl rfl rfl rfl rfl (pc_special _) ?_
    refine S.pure tOk zOk rfl rfl rfl ?_
    refine thenK_n ?_
    refine W.cond rfl (fun c5 => ?_) (fun c5 => ?_)
    ·skip
     have hsg := cwd_sgn c2 hq c5
     have hx := f0_2.trans (nx_sign hsk (nlen hi) hsg)
     have hk : ((hd T).k == 0 || (hd T).k == 4) = false := by rw [hx]; rfl
     refine W.seq ?_
     refine W.region ?_
     refine S.pure tOk zOk rfl rfl rfl ?_
     refine S.pure tOk zOk rfl rfl rfl ?_
     refine S.pure tOk zOk rfl rfl rfl ?_
     refine S.pure tOk zOk rfl rfl rfl ?_
     refine S.pureE tOk zOk rfl rfl (enc_sg hsg) rfl ?_
     refine S.pure tOk zOk rfl rfl rfl ?_
     refine S.slice tOk rfl rfl ?_
     refine S.append tOk rfl rfl rfl rfl rfl rfl rfl rfl rfl rfl rfl rfl (by show (l.map wdD).length + 1 ≤ _; rw [List.length_map]; have := cwd_len f0_3 (toks_ref hs); omega) rfl (wd_snoc (w := wOf (hd T)) (by rw [hx]; rfl)) rfl ?_
     refine S.pure tOk zOk rfl rfl rfl ?_
     refine thenK_n ?_
     refine W.region ?_
     refine S.pure tOk zOk rfl rfl rfl ?_
     refine S.pureE tOk zOk rfl rfl (inc_i64 (by omega)) rfl ?_
     refine S.pure tOk zOk rfl rfl rfl ?_
     refine blockK_n ?_
     refine blockK_n ?_
     refine loop_n (s.length - _) (by first | exact qm1 hi | exact hmu) ⟨i + 1, adv T, _, _, _, hi, good_adv f0_1, (ref_step f0_1 hk).2.1.trans (by rw [hx]), cwd_go f0_3 f0_1 hk, rfl, _, _, _, _, rfl, rfl, rfl, rfl, rfl, trivial⟩
    ·skip
     have hns := cwd_nsg c5
     refine W.seq ?_
     refine W.region ?_
     refine S.pure tOk zOk rfl rfl rfl ?_
     refine S.pure tOk zOk rfl rfl rfl ?_
     refine thenK_n ?_
     refine W.seq ?_
     refine W.block ?_
     refine W.loop (fun k st => ∃ j : Nat, i ≤ j ∧ j ≤ s.length ∧ wordE s j = wordE s i ∧ k = s.length - j ∧ ∃ t b2 r2 m2, st = ⟨t, [] ++ b2, [some ⟨al, v, 4, 53, l.map wdD⟩] ++ r2, [] ++ m2⟩ ∧ holdsL t [(0, .one (.d (.str s))), (3, .one (.row 0 v 0 (l.map wdD).length)), (4, .one (.d (.fn 52))), (5, .one (.d (.int .i64 (i : Int)))), (11, .one (.d (.int .i64 (j : Int))))]) (s.length - i) ⟨i, Nat.le_refl _, f0_0, rfl, rfl, _, _, _, _, rfl, rfl, rfl, rfl, rfl, rfl, trivial⟩ ?_
     rintro k3 _ ⟨j, f3_0, f3_1, f3_2, rfl, t3, bb3, rr3, mm3, rfl, hh3⟩
     refine W.keepR _ _ _ _ _ _ _ hh3 rfl ?_
     refine W.seq ?_
     refine W.seq ?_
     refine W.region ?_
     refine S.pure tOk zOk rfl rfl rfl ?_
     refine S.pure tOk zOk rfl rfl rfl ?_
     refine S.pure tOk zOk rfl rfl rfl ?_
     refine S.pure tOk zOk rfl rfl rfl ?_
     refine S.pure tOk zOk rfl rfl rfl ?_
     refine S.pureG tOk zOk rfl rfl tg (fun _ => rfl) rfl ?_
     refine S.pureG tOk zOk rfl rfl tg (fun _ => rfl) rfl ?_
     refine S.pureG tOk zOk rfl rfl tg (fun _ => rfl) rfl ?_
     refine S.pureG tOk zOk rfl rfl tg (fun h => gx (s := s) (i := j) h) rfl ?_
     refine S.callG rfl rfl rfl rfl tg rfl rfl (fun h => pc_special _) ?_
     refine S.pureG tOk zOk rfl rfl tg (fun _ => rfl) rfl ?_
     refine S.pickAnd tOk zOk rfl rfl tg ?_
     refine thenK_n ?_
     refine W.cond rfl (fun c6 => ?_) (fun c6 => ?_)
     ·skip
      have hj := blk_lt c6
      have hgo := word_go hj (cwd_t c6) f3_2
      refine W.skip ?_
      refine thenK_n ?_
      refine W.block ?_
      refine W.region ?_
      refine S.pure tOk zOk rfl rfl rfl ?_
      refine S.pureE tOk zOk rfl rfl (inc_i64 (by omega)) rfl ?_
      refine S.pure tOk zOk rfl rfl rfl ?_
      refine blockK_n ?_
      refine loop_n (s.length - (j + 1)) (by omega) ⟨j + 1, by omega, hj, hgo, rfl, _, _, _, _, rfl, rfl, rfl, rfl, rfl, rfl, trivial⟩
     ·skip
      have hwe : wordE s i = j := cwd_end f3_1 f3_2 c6
      have hx := f0_2.trans (nx_word hsk (nlen hi) hns.1 hq hwe)
      have hk : ((hd T).k == 0 || (hd T).k == 4) = false := by rw [hx]; rfl
      have hij := word_ge (s := s) (p := i + 1)
      rw [word_go hi hns.2 rfl, hwe] at hij
      have hmu : s.length - j < s.length - i := by omega
      refine W.exit ?_
      refine thenK_e ?_
      refine thenK_e ?_
      refine blockK_x ?_
      refine thenK_n ?_
      refine W.seq ?_
      refine W.region ?_
      refine S.pure tOk zOk rfl rfl rfl ?_
      refine S.pure tOk zOk rfl rfl rfl ?_
      refine S.pure tOk zOk rfl rfl rfl ?_
      refine S.pure tOk zOk rfl rfl rfl ?_
      refine S.pure tOk zOk rfl rfl rfl ?_
      refine S.pure tOk zOk rfl (sl_ok (by omega) (by omega) (by omega)) rfl ?_
      refine S.pure tOk zOk rfl rfl rfl ?_
      refine S.slice tOk rfl rfl ?_
      refine S.append tOk rfl rfl rfl rfl rfl rfl rfl rfl rfl rfl rfl rfl (by show (l.map wdD).length + 1 ≤ _; rw [List.length_map]; have := cwd_len f0_3 (toks_ref hs); omega) rfl (wd_snoc (w := wOf (hd T)) (by rw [hx]; rfl)) rfl ?_
      refine S.pure tOk zOk rfl rfl rfl ?_
      refine thenK_n ?_
      refine W.region ?_
      refine S.pure tOk zOk rfl rfl rfl ?_
      refine S.pure tOk zOk rfl rfl rfl ?_
      refine blockK_n ?_
      refine blockK_n ?_
      refine loop_n (s.length - _) (by first | exact qm1 hi | exact hmu) ⟨j, adv T, _, _, _, f3_1, good_adv f0_1, (ref_step f0_1 hk).2.1.trans (by rw [hx]), cwd_go f0_3 f0_1 hk, rfl, _, _, _, _, rfl, rfl, rfl, rfl, rfl, trivial⟩
 ·skip
  obtain rfl : i = s.length := by simp at c1; omega
  have hx := f0_2.trans end_tok
  refine W.exit ?_
  refine thenK_e ?_
  refine thenK_e ?_
  refine blockK_x ?_
  refine thenK_n ?_
  refine W.seq ?_
  refine W.region ?_
  refine S.pure tOk zOk rfl rfl rfl ?_
  refine S.pure tOk zOk rfl rfl rfl ?_
  refine S.pure tOk zOk rfl rfl rfl ?_
  refine S.pure tOk zOk rfl rfl rfl ?_
  refine S.slice tOk rfl rfl ?_
  refine S.append tOk rfl rfl rfl rfl rfl rfl rfl rfl rfl rfl rfl rfl (by show (l.map wdD).length + 1 ≤ _; rw [List.length_map]; have := cwd_len f0_3 (toks_ref hs); omega) rfl (wd_snoc (w := wOf (hd T)) (by rw [hx]; rfl)) rfl ?_
  refine S.pure tOk zOk rfl rfl rfl ?_
  refine thenK_n ?_
  refine W.freeze (q := ⟨_, _, _, _, _⟩) [2] rfl (by intro k hk; simp at hk; subst hk; rfl) ?_
  refine W.ret ?_
  exact ⟨_, rfl, rfl, LeV.of_force rfl (congrArg (fun x => V.one (C.d (D.vec 4 (List.map wdD x)))) (cwd_all f0_3 f0_1 (by rw [hx]; rfl)))⟩
end Go.Proofs.YtjibdoagpegniaaGreatDoor

/- Plain words: the reference's reader, case by case. -/
set_option linter.unusedVariables false
set_option linter.unusedSimpArgs false
namespace Go.Proofs.YtjibdoagpegniaaGreatDoor
open Go
theorem lvb {n lv : Nat} (h : lv + n = 100) : ((lv : Int) == 100) = (n == 0) := by
  by_cases h0 : n = 0
  · subst h0
    have : lv = 100 := by omega
    subst this; rfl
  · have h1 : ((lv : Int) == 100) = false := by simp; omega
    have h2 : (n == 0) = false := by simpa using h0
    rw [h1, h2]
theorem n_deep {n : Nat} {a : Bool} (h : (a && (n == 0)) = true) : n = 0 := by
  have := (Bool.and_eq_true_iff.1 h).2; simpa using this
theorem n_more {n : Nat} {a : Bool} (h : (a && (n == 0)) = false) (ha : a = true) : ∃ m, n = m + 1 := by
  rw [ha] at h; exact ⟨n - 1, by simp at h; omega⟩
theorem or_l {a b : Bool} (h : a = true) : (a || b) = true := by rw [h]; rfl
theorem or_r {a b : Bool} (h : (!b) = false) : (a || b) = true := by simp at h; rw [h]; simp
section
variable {b : Bool} {f : PS → CT × PS} {q : PS}
theorem cr_deep (h : ((isR 40 [] q || isR 119 wNot q) && b) = true) : condRG b f q = (CT.z, ⟨q.T, (hd q.T).a⟩) := if_pos h
variable (h : ((isR 40 [] q || isR 119 wNot q) && b) = false)
include h
theorem cr_group (h1 : isR 40 [] q = true) : condRG b f q = groupR f q := by
  unfold condRG; rw [if_neg (by rw [h]; simp), if_pos h1]
variable (h1 : isR 40 [] q = false)
include h1
theorem cr_always (h2 : (!(isR 119 wAlways q)) = false) : condRG b f q = (.mk 1 [] [] [], (nxR 119 wAlways q).2) := by
  unfold condRG; rw [if_neg (by rw [h]; simp), if_neg (by rw [h1]; simp), if_pos (by simpa using h2)]
variable (h2 : (!(isR 119 wAlways q)) = true)
include h2
theorem cr_fact (h3 : (!(isR 119 wFact q)) = false) : condRG b f q = factR 2 (nxR 119 wFact q).2 := by
  unfold condRG; rw [if_neg (by rw [h]; simp), if_neg (by rw [h1]; simp), if_neg (by simpa using h2), if_pos (by simpa using h3)]
variable (h3 : (!(isR 119 wFact q)) = true)
include h3
theorem cr_setting (h4 : (!(isR 119 wSetting q)) = false) : condRG b f q = factR 3 (nxR 119 wSetting q).2 := by
  unfold condRG; rw [if_neg (by rw [h]; simp), if_neg (by rw [h1]; simp), if_neg (by simpa using h2), if_neg (by simpa using h3), if_pos (by simpa using h4)]
variable (h4 : (!(isR 119 wSetting q)) = true)
include h4
theorem cr_has (h5 : (!(isR 119 wHas q)) = false) : condRG b f q = haveR (nxR 119 wHas q).2 := by
  unfold condRG; rw [if_neg (by rw [h]; simp), if_neg (by rw [h1]; simp), if_neg (by simpa using h2), if_neg (by simpa using h3), if_neg (by simpa using h4), if_pos (by simpa using h5)]
variable (h5 : (!(isR 119 wHas q)) = true)
include h5
theorem cr_version (h6 : (!(isR 119 wVersion q)) = false) : condRG b f q = versionR (nxR 119 wVersion q).2 := by
  unfold condRG; rw [if_neg (by rw [h]; simp), if_neg (by rw [h1]; simp), if_neg (by simpa using h2), if_neg (by simpa using h3), if_neg (by simpa using h4), if_neg (by simpa using h5), if_pos (by simpa using h6)]
variable (h6 : (!(isR 119 wVersion q)) = true)
include h6
theorem cr_not (h7 : (!(isR 119 wNot q)) = false) : condRG b f q = (.mk 6 [] [] [(f (nxR 119 wNot q).2).1], (f (nxR 119 wNot q).2).2) := by
  unfold condRG; rw [if_neg (by rw [h]; simp), if_neg (by rw [h1]; simp), if_neg (by simpa using h2), if_neg (by simpa using h3), if_neg (by simpa using h4), if_neg (by simpa using h5), if_neg (by simpa using h6), if_pos (by simpa using h7)]
theorem cr_else (h7 : (!(isR 119 wNot q)) = true) : condRG b f q = (CT.z, stopR q) := by
  unfold condRG; rw [if_neg (by rw [h]; simp), if_neg (by rw [h1]; simp), if_neg (by simpa using h2), if_neg (by simpa using h3), if_neg (by simpa using h4), if_neg (by simpa using h5), if_neg (by simpa using h6), if_neg (by simpa using h7)]
end
theorem stop_1 {q : PS} (h : decide (q.w < 0) = true) : stopR q = ⟨q.T, (hd q.T).a⟩ := if_pos h
theorem stop_0 {q : PS} (h : decide (q.w < 0) = false) : stopR q = q := if_neg (by rw [h]; simp)
section
variable {f : PS → CT × PS} {q : PS}
theorem gr_and (h : isR 119 wAnd (nxR 40 [] q).2 = true) : groupR f q = shortR f 7 (nxR 119 wAnd (nxR 40 [] q).2).2 := if_pos h
theorem gr_or (h : isR 119 wAnd (nxR 40 [] q).2 = false) (h2 : isR 119 wOr (nxR 40 [] q).2 = true) : groupR f q = shortR f 8 (nxR 119 wOr (nxR 40 [] q).2).2 := by
  unfold groupR; rw [if_neg (by rw [h]; simp), if_pos h2]
theorem gr_long (h : isR 119 wAnd (nxR 40 [] q).2 = false) (h2 : isR 119 wOr (nxR 40 [] q).2 = false) : groupR f q = longR f (nxR 40 [] q).2 := by
  unfold groupR; rw [if_neg (by rw [h]; simp), if_neg (by rw [h2]; simp)]
theorem shr_1 {k : Int} (h : (!(isR 41 [] q)) = true) : shortR f k q = (.mk k [] [] [(f q).1], (nxR 41 [] (f q).2).2) := if_pos h
theorem shr_0 {k : Int} (h : (!(isR 41 [] q)) = false) : shortR f k q = (.mk k [] [] [], (nxR 41 [] q).2) := if_neg (by rw [h]; simp)
theorem sr_1 (h : isR 119 wOr q = true) : signR q = wOr := if_pos h
theorem sr_0 (h : isR 119 wOr q = false) : signR q = wAnd := if_neg (by rw [h]; simp)
variable {x : List UInt8} {n : Nat} {b : Bool} {l : List CT} {M : List CT × PS} (hm : moreR f x n b l q = M)
include hm
theorem mr_end (h : decide (q.w < 0) = false) : M = (l, q) := by
  cases n with
  | zero => exact hm.symm
  | succ n => unfold moreR at hm; rw [if_neg (by rw [h]; simp)] at hm; exact hm.symm
theorem mr_close (hn : 0 < n) (h : decide (q.w < 0) = true) (h2 : (b && isR 41 [] q) = true) : M = (l, (nxR 41 [] q).2) := by
  obtain ⟨m, rfl⟩ : ∃ m, n = m + 1 := ⟨n - 1, by omega⟩
  unfold moreR at hm; rw [if_pos h, if_pos h2] at hm; exact hm.symm
theorem mr_go (hn : 0 < n) (h : decide (q.w < 0) = true) (h2 : (b && isR 41 [] q) = false) : moreR f x (n - 1) true (l ++ [(f (nxR 119 x q).2).1]) (f (nxR 119 x q).2).2 = M := by
  obtain ⟨m, rfl⟩ : ∃ m, n = m + 1 := ⟨n - 1, by omega⟩
  unfold moreR at hm; rw [if_pos h, if_neg (by rw [h2]; simp)] at hm; exact hm
end
theorem longr_eq {f : PS → CT × PS} {q : PS} {l : List CT} {p : PS} (h : moreR f (signR (f q).2) ((f q).2.T.length + 1) false [(f q).1] (f q).2 = (l, p)) : longR f q = (.mk (kindT (signR (f q).2)) [] [] l, p) := by
  unfold longR; dsimp only; rw [h]
/-- A state in error stays. -/
theorem nxR_old {k : Int} {x : List UInt8} {q : PS} (h : decide (q.w < 0) = false) : nxR k x q = (Wd.z, q) := by
  refine nx_old ?_ h
  unfold noR
  have : decide (q.w ≥ 0) = true := by simp at h ⊢; omega
  rw [this]; rfl
theorem isR_old {k : Int} {x : List UInt8} {q : PS} (h : decide (q.w < 0) = false) : isR k x q = false := by unfold isR; rw [h]; rfl
theorem condRG_old {b : Bool} {f : PS → CT × PS} {q : PS} (h : decide (q.w < 0) = false) : (condRG b f q).2 = q := by
  have i (k : Int) (x : List UInt8) : (!(isR k x q)) = true := by rw [isR_old h]; rfl
  rw [cr_else (by rw [isR_old h, isR_old h]; rfl) (isR_old h) (i _ _) (i _ _) (i _ _) (i _ _) (i _ _) (i _ _)]
  exact stop_0 h
theorem condR_old (n : Nat) {q : PS} (h : decide (q.w < 0) = false) : (condR n q).2 = q := by rw [condR_eq]; exact condRG_old h
theorem nx_less {s : List UInt8} {x : List UInt8} {p : PS} (g : Good s p.T) (h : decide ((nxR 119 x p).2.w < 0) = true) : (nxR 119 x p).2.T.length < p.T.length := by
  cases hn : noR 119 x p with
  | true =>
    cases hw : decide (p.w < 0) with
    | true => rw [nx_err hn hw] at h; simp at h; omega
    | false => rw [nx_old hn hw] at h; rw [hw] at h; cases h
  | false =>
    have h1 : (wOf (hd p.T)).k = 119 := by unfold noR at hn; simp only [Bool.or_eq_false_iff] at hn; simpa using hn.1.2
    have h2 : ((wOf (hd p.T)).k != 101) = true := by rw [h1]; rfl
    have hk := no_kind (by decide) hn h2
    rw [nx_go hn h2]
    obtain ⟨T, w⟩ := p
    match T, g, hk with
    | [y], g, hk => have := g.2; rw [show (y.k == 0 || y.k == 4) = false from hk] at this; cases this
    | y :: z :: l, g, hk => simp [advS, adv]
theorem more_less {s : List UInt8} {x : List UInt8} {p : PS} {m u : Nat} (g : Good s p.T) (hu : p.T.length < u) (h : decide ((condR m (nxR 119 x p).2).2.w < 0) = true) : (condR m (nxR 119 x p).2).2.T.length < u - 1 := by
  cases hw : decide ((nxR 119 x p).2.w < 0) with
  | false => rw [condR_old m hw, hw] at h; cases h
  | true =>
    have h1 := nx_less g hw
    have h2 := (rch_condR m (nxR 119 x p).2).len
    omega
end Go.Proofs.YtjibdoagpegniaaGreatDoor

set_option linter.unusedVariables false
set_option linter.unusedSimpArgs false
set_option maxRecDepth 100000
set_option maxHeartbeats 4000000
namespace Go.Proofs.YtjibdoagpegniaaGreatDoor
open Go
open Go.RowKit
attribute [local irreducible] rangeB pathB nameB valueB visit visits checkP quoteL qAt nextT skipB wordE toks refL noR nxR isR condR condRG groupR shortR longR moreR signR stopR condT condG listG
theorem pc_isR (s : List UInt8) (q : PS) (hg : Gd s q.T) (kd : Int) (x : List UInt8) :
  HCall Tryz.prog J 54 ([.one (.ptr 0 0), .one (.d (.int .u8 kd)), .one (.d (.str x))]) ([[.d (.vec 4 ((refL s (q).T).map wdD)), .d (.int .i64 (q).w)]]) ([]) ([]) (isH (.one (.d (.bool (isR kd x q)))) ([[.d (.vec 4 ((refL s (q).T).map wdD)), .d (.int .i64 (q).w)]]) ([]) ([])) := by
 refine HCall.ofD tOk ⟨1, 0, 0⟩ (fn := Tryz.f54) Tryz.func54 (by kernel_rfl) rfl (Nat.le_of_ble_eq_true rfl) (fun E => ?_)
 refine W.seq ?_
 refine W.region ?_
 refine S.pure tOk zOk rfl rfl rfl ?_
 refine thenK_n ?_
 refine W.seq ?_
 refine W.region ?_
 refine S.pure tOk zOk rfl rfl rfl ?_
 refine S.pure tOk zOk rfl rfl rfl ?_
 refine S.pure tOk zOk rfl rfl rfl ?_
 refine S.pure tOk zOk rfl rfl rfl ?_
 refine S.pure tOk zOk rfl rfl rfl ?_
 refine S.pure tOk zOk rfl rfl rfl ?_
 refine S.pureG tOk zOk rfl rfl tg (fun _ => rfl) rfl ?_
 refine S.pureG tOk zOk rfl rfl tg (fun _ => rfl) rfl ?_
 refine S.pureG tOk zOk rfl rfl tg (fun _ => rfl) rfl ?_
 refine S.pureG tOk zOk rfl rfl tg (fun _ => rfl) rfl ?_
 refine S.pureEG tOk zOk rfl rfl tg (fun h => r0_ok hg.1) (r0_at hg.1) rfl ?_
 refine S.pureG tOk zOk rfl rfl tg (fun _ => rfl) rfl ?_
 refine S.pureG tOk zOk rfl rfl tg (fun _ => rfl) rfl ?_
 refine S.pureG tOk zOk rfl rfl tg (fun _ => rfl) rfl ?_
 refine S.pureG tOk zOk rfl rfl tg (fun _ => rfl) rfl ?_
 refine S.pickAnd tOk zOk rfl rfl tg ?_
 refine S.pure tOk zOk rfl rfl rfl ?_
 refine S.pureG tOk zOk rfl rfl tg (fun _ => rfl) rfl ?_
 refine S.pureG tOk zOk rfl rfl tg (fun _ => rfl) rfl ?_
 refine S.pureG tOk zOk rfl rfl tg (fun _ => rfl) rfl ?_
 refine S.pureG tOk zOk rfl rfl tg (fun _ => rfl) rfl ?_
 refine S.pureG tOk zOk rfl rfl tg (fun _ => rfl) rfl ?_
 refine S.pureG tOk zOk rfl rfl tg (fun _ => rfl) rfl ?_
 refine S.pureG tOk zOk rfl rfl tg (fun _ => rfl) rfl ?_
 refine S.pureEG tOk zOk rfl rfl tg (fun h => r0_ok hg.1) (r0_at hg.1) rfl ?_
 refine S.pureG tOk zOk rfl rfl tg (fun _ => rfl) rfl ?_
 refine S.pureG tOk zOk rfl rfl tg (fun _ => rfl) rfl ?_
 refine S.pureG tOk zOk rfl rfl tg (fun _ => rfl) rfl ?_
 refine S.pureG tOk zOk rfl rfl tg (fun _ => rfl) rfl ?_
 refine S.pickOrG tOk zOk rfl rfl rfl tg tg ?_
 refine S.pickAnd tOk zOk rfl rfl tg ?_
 refine S.pure tOk zOk rfl rfl rfl ?_
 refine thenK_n ?_
 refine W.ret ?_
 exact ⟨_, rfl, rfl, LeG.of_force rfl (by unfold isR; rfl), rfl, rfl, rfl⟩
theorem pc_nextR (s : List UInt8) (q : PS) (hg : Gd s q.T) (kd : Int) (x : List UInt8) (hk : kd ≠ 33) :
  HCall Tryz.prog J 20 ([.one (.ptr 0 0), .one (.d (.int .u8 kd)), .one (.d (.str x))]) ([[.d (.vec 4 ((refL s (q).T).map wdD)), .d (.int .i64 (q).w)]]) ([]) ([]) (isH (.agg [.d (.str (nxR kd x q).1.t), .d (.int .u8 (nxR kd x q).1.k), .d (.int .i64 ((nxR kd x q).1.a : Int)), .d (.str (nxR kd x q).1.v)]) ([[.d (.vec 4 ((refL s ((nxR kd x q).2).T).map wdD)), .d (.int .i64 ((nxR kd x q).2).w)]]) ([]) ([])) := by
 refine HCall.ofD tOk ⟨1, 0, 0⟩ (fn := Tryz.f20) Tryz.func20 (by kernel_rfl) rfl (Nat.le_of_ble_eq_true rfl) (fun E => ?_)
 refine W.seq ?_
 refine W.region ?_
 refine S.alloc tOk rfl rfl rfl rfl ?_
 refine thenK_n ?_
 refine W.seq ?_
 refine W.region ?_
 refine S.pure tOk zOk rfl rfl rfl ?_
 refine S.pure tOk zOk rfl rfl rfl ?_
 refine S.pure tOk zOk rfl rfl rfl ?_
 refine S.pure tOk zOk rfl rfl rfl ?_
 refine S.pureE tOk zOk rfl (r0_ok hg.1) (r0_at hg.1) rfl ?_
 refine S.pure tOk zOk rfl rfl rfl ?_
 refine S.alloc tOk rfl rfl rfl rfl ?_
 refine S.store tOk rfl rfl rfl rfl rfl rfl rfl rfl ?_
 refine thenK_n ?_
 refine W.seq ?_
 refine W.seq ?_
 refine W.region ?_
 refine S.pure tOk zOk rfl rfl rfl ?_
 refine S.pure tOk zOk rfl rfl rfl ?_
 refine S.pure tOk zOk rfl rfl rfl ?_
 refine S.pure tOk zOk rfl rfl rfl ?_
 refine S.pure tOk zOk rfl rfl rfl ?_
 refine S.pure tOk zOk rfl rfl rfl ?_
 refine S.pureG tOk zOk rfl rfl tg (fun _ => rfl) rfl ?_
 refine S.pureG tOk zOk rfl rfl tg (fun _ => rfl) rfl ?_
 refine S.pureG tOk zOk rfl rfl tg (fun _ => rfl) rfl ?_
 refine S.pureG tOk zOk rfl rfl tg (fun _ => rfl) rfl ?_
 refine S.pickOr tOk zOk rfl rfl tg ?_
 refine S.pure tOk zOk rfl rfl rfl ?_
 refine S.pureG tOk zOk rfl rfl tg (fun _ => rfl) rfl ?_
 refine S.pureG tOk zOk rfl rfl tg (fun _ => rfl) rfl ?_
 refine S.pureG tOk zOk rfl rfl tg (fun _ => rfl) rfl ?_
 refine S.pureG tOk zOk rfl rfl tg (fun _ => rfl) rfl ?_
 refine S.pureG tOk zOk rfl rfl tg (fun _ => rfl) rfl ?_
 refine S.pureG tOk zOk rfl rfl tg (fun _ => rfl) rfl ?_
 refine S.pureG tOk zOk rfl rfl tg (fun _ => rfl) rfl ?_
 refine S.pickAndG tOk zOk rfl rfl rfl tg tg ?_
 refine S.pickOr tOk zOk rfl rfl tg ?_
 refine thenK_n ?_
 refine W.cond rfl (fun c1 => ?_) (fun c1 => ?_)
 ·skip
  have d1 : noR kd x q = true := by unfold noR; exact c1
  refine W.seq ?_
  refine W.seq ?_
  refine W.region ?_
  refine S.pure tOk zOk rfl rfl rfl ?_
  refine S.pure tOk zOk rfl rfl rfl ?_
  refine S.pure tOk zOk rfl rfl rfl ?_
  refine S.pure tOk zOk rfl rfl rfl ?_
  refine S.pure tOk zOk rfl rfl rfl ?_
  refine thenK_n ?_
  refine W.cond rfl (fun c2 => ?_) (fun c2 => ?_)
  ·skip
   refine W.region ?_
   refine S.pure tOk zOk rfl rfl rfl ?_
   refine S.pure tOk zOk rfl rfl rfl ?_
   refine S.pure tOk zOk rfl rfl rfl ?_
   refine S.pure tOk zOk rfl rfl rfl ?_
   refine S.pure tOk zOk rfl rfl rfl ?_
   refine S.store tOk rfl rfl rfl rfl rfl rfl rfl rfl ?_
   refine thenK_n ?_
   refine W.seq ?_
   refine W.region ?_
   refine S.pure tOk zOk rfl rfl rfl ?_
   refine S.store tOk rfl rfl rfl rfl rfl rfl rfl rfl ?_
   refine thenK_n ?_
   refine W.ret ?_
   refine thenK_r ?_
   exact ⟨_, rfl, rfl, LeG.of_force rfl (by rw [nx_err d1 c2] <;> rfl), (by rw [nx_err d1 c2]; rfl), rfl, rfl⟩
  ·skip
   refine W.skip ?_
   refine thenK_n ?_
   refine W.seq ?_
   refine W.region ?_
   refine S.pure tOk zOk rfl rfl rfl ?_
   refine S.store tOk rfl rfl rfl rfl rfl rfl rfl rfl ?_
   refine thenK_n ?_
   refine W.ret ?_
   refine thenK_r ?_
   exact ⟨_, rfl, rfl, LeG.of_force rfl (by rw [nx_old d1 c2] <;> rfl), (by rw [nx_old d1 c2]; rfl), rfl, rfl⟩
 ·skip
  have d1 : noR kd x q = false := by unfold noR; exact c1
  refine W.skip ?_
  refine thenK_n ?_
  refine W.seq ?_
  refine W.seq ?_
  refine W.region ?_
  refine S.pure tOk zOk rfl rfl rfl ?_
  refine S.pure tOk zOk rfl rfl rfl ?_
  refine S.pure tOk zOk rfl rfl rfl ?_
  refine thenK_n ?_
  refine W.cond rfl (fun c3 => ?_) (fun c3 => ?_)
  ·skip
   refine W.region ?_
   refine S.pure tOk zOk rfl rfl rfl ?_
   refine S.pure tOk zOk rfl rfl rfl ?_
   refine S.pure tOk zOk rfl rfl rfl ?_
   refine S.pure tOk zOk rfl rfl rfl ?_
   refine S.pure tOk zOk rfl rfl rfl ?_
   refine S.pureE tOk zOk rfl (sl_ok (by omega) (r0_pos hg.1) (Int.le_refl _)) (rest_at hg.1 (no_kind hk d1 c3)) rfl ?_
   refine S.pure tOk zOk rfl rfl rfl ?_
   refine S.pure tOk zOk rfl rfl rfl ?_
   refine S.store tOk rfl rfl rfl rfl rfl rfl rfl rfl ?_
   refine thenK_n ?_
   refine W.seq ?_
   refine W.region ?_
   refine S.pure tOk zOk rfl rfl rfl ?_
   refine S.store tOk rfl rfl rfl rfl rfl rfl rfl rfl ?_
   refine thenK_n ?_
   refine W.ret ?_
   exact ⟨_, rfl, rfl, LeG.of_force rfl (by rw [nx_go d1 c3] <;> rfl), (by rw [nx_go d1 c3]; rfl), rfl, rfl⟩
  ·skip
   refine W.skip ?_
   refine thenK_n ?_
   refine W.seq ?_
   refine W.region ?_
   refine S.pure tOk zOk rfl rfl rfl ?_
   refine S.store tOk rfl rfl rfl rfl rfl rfl rfl rfl ?_
   refine thenK_n ?_
   refine W.ret ?_
   exact ⟨_, rfl, rfl, LeG.of_force rfl (by rw [nx_stay d1 c3] <;> rfl), (by rw [nx_stay d1 c3]; rfl), rfl, rfl⟩
def CondRC (s : List UInt8) (m : Nat) : Prop := ∀ (lv : Nat) (q : PS), lv + m = 100 → Gd s q.T → HCall Tryz.prog J 19 [.one (.ptr 0 0), .one (.d (.int .i64 (lv : Int)))] [[.d (.vec 4 ((refL s (q).T).map wdD)), .d (.int .i64 (q).w)]] [] [] (isH (ctV (condR m q).1) [[.d (.vec 4 ((refL s ((condR m q).2).T).map wdD)), .d (.int .i64 ((condR m q).2).w)]] [] [])
def GroupC (s : List UInt8) (m : Nat) : Prop := ∀ (lv : Nat) (q : PS), lv + m = 100 → Gd s q.T → HCall Tryz.prog J 55 [.one (.ptr 0 0), .one (.d (.int .i64 (lv : Int)))] [[.d (.vec 4 ((refL s (q).T).map wdD)), .d (.int .i64 (q).w)]] [] [] (isH (ctV (groupR (condR m) q).1) [[.d (.vec 4 ((refL s ((groupR (condR m) q).2).T).map wdD)), .d (.int .i64 ((groupR (condR m) q).2).w)]] [] [])
end Go.Proofs.YtjibdoagpegniaaGreatDoor

set_option linter.unusedVariables false
set_option linter.unusedSimpArgs false
set_option maxRecDepth 100000
set_option maxHeartbeats 4000000
namespace Go.Proofs.YtjibdoagpegniaaGreatDoor
open Go
open Go.RowKit
attribute [local irreducible] rangeB pathB nameB valueB visit visits checkP quoteL qAt nextT skipB wordE toks refL noR nxR isR condR condRG groupR shortR longR moreR signR stopR condT condG listG
theorem pc_condsR (s : List UInt8) (n : Nat) (ih : ∀ m, n = m + 1 → CondRC s m) (ig : ∀ m, n = m + 1 → GroupC s m) (lv : Nat) (q : PS) (hl : lv + n = 100) (hg : Gd s q.T) :
  HCall Tryz.prog J 19 ([.one (.ptr 0 0), .one (.d (.int .i64 (lv : Int)))]) ([[.d (.vec 4 ((refL s (q).T).map wdD)), .d (.int .i64 (q).w)]]) ([]) ([]) (isH (ctV (condR n q).1) ([[.d (.vec 4 ((refL s ((condR n q).2).T).map wdD)), .d (.int .i64 ((condR n q).2).w)]]) ([]) ([])) := by
 refine HCall.ofD tOk ⟨1, 0, 0⟩ (fn := Tryz.f19) Tryz.func19 (by kernel_rfl) rfl (Nat.le_of_ble_eq_true rfl) (fun E => ?_)
 refine W.seq ?_
 refine W.region ?_
 refine S.alloc tOk rfl rfl rfl rfl ?_
 refine thenK_n ?_
 refine W.seq ?_
 refine W.seq ?_
 refine W.region ?_
 refine S.pure tOk zOk rfl rfl rfl ?_
 refine S.hcallD rfl rfl rfl rfl ((pc_isR s q hg 40 []).frameD (B' := [[.d (.vec 4 ((refL s (q).T).map wdD)), .d (.int .i64 (q).w)], [.d (.int .i64 0), .d (.str []), .d (.str []), .d .nilsl]]) [0] [] [] rfl rfl rfl rfl rfl rfl rfl rfl rfl) ?_
 refine S.pure tOk zOk rfl rfl rfl ?_
 refine S.pureG tOk zOk rfl rfl tg (fun _ => rfl) rfl ?_
 refine S.hcallG rfl rfl rfl rfl tg rfl (fun _ => (pc_isR s q hg 119 [110, 111, 116]).frameD (B' := [[.d (.vec 4 ((refL s (q).T).map wdD)), .d (.int .i64 (q).w)], [.d (.int .i64 0), .d (.str []), .d (.str []), .d .nilsl]]) [0] [] [] rfl rfl rfl rfl rfl rfl rfl rfl rfl) ?_
 refine S.pickOr tOk zOk rfl rfl tg ?_
 refine S.pure tOk zOk rfl rfl rfl ?_
 refine S.pureG tOk zOk rfl rfl tg (fun _ => rfl) rfl ?_
 refine S.pureG tOk zOk rfl rfl tg (fun _ => rfl) rfl ?_
 refine S.pickAnd tOk zOk rfl rfl tg ?_
 refine thenK_n ?_
 refine W.cond rfl (fun c1 => ?_) (fun c1 => ?_)
 ·skip
  rw [lvb hl] at c1
  obtain rfl := n_deep c1
  refine W.seq ?_
  refine W.region ?_
  refine S.pure tOk zOk rfl rfl rfl ?_
  refine S.pure tOk zOk rfl rfl rfl ?_
  refine S.pure tOk zOk rfl rfl rfl ?_
  refine S.pure tOk zOk rfl rfl rfl ?_
  refine S.pure tOk zOk rfl rfl rfl ?_
  refine S.pureE tOk zOk rfl (r0_ok hg.1) (r0_at hg.1) rfl ?_
  refine S.pure tOk zOk rfl rfl rfl ?_
  refine S.pure tOk zOk rfl rfl rfl ?_
  refine S.pure tOk zOk rfl rfl rfl ?_
  refine S.pure tOk zOk rfl rfl rfl ?_
  refine S.store tOk rfl rfl rfl rfl rfl rfl rfl rfl ?_
  refine thenK_n ?_
  refine W.seq ?_
  refine W.region ?_
  refine S.pure tOk zOk rfl rfl rfl ?_
  refine S.store tOk rfl rfl rfl rfl rfl rfl rfl rfl ?_
  refine thenK_n ?_
  refine W.ret ?_
  refine thenK_r ?_
  exact ⟨_, rfl, rfl, (by rw [condR_eq _ q, cr_deep c1]; exact (LeG.aggLast _ _ _ 4)), (by rw [condR_eq _ q, cr_deep c1]; rfl), rfl, rfl⟩
 ·skip
  rw [lvb hl] at c1
  refine W.skip ?_
  refine thenK_n ?_
  refine W.seq ?_
  refine W.seq ?_
  refine W.region ?_
  refine S.pure tOk zOk rfl rfl rfl ?_
  refine S.hcallD rfl rfl rfl rfl ((pc_isR s q hg 40 []).frameD (B' := [[.d (.vec 4 ((refL s (q).T).map wdD)), .d (.int .i64 (q).w)], [.d (.int .i64 0), .d (.str []), .d (.str []), .d .nilsl]]) [0] [] [] rfl rfl rfl rfl rfl rfl rfl rfl rfl) ?_
  refine thenK_n ?_
  refine W.cond rfl (fun c2 => ?_) (fun c2 => ?_)
  ·skip
   obtain ⟨m, rfl⟩ := n_more c1 (or_l c2)
   refine W.seq ?_
   refine W.region ?_
   refine S.pure tOk zOk rfl rfl rfl ?_
   refine S.pure tOk zOk rfl rfl rfl ?_
   refine S.pureE tOk zOk rfl rfl (inc_i64 (by omega)) rfl ?_
   refine S.hcallD rfl rfl rfl rfl ((ig m rfl (lv + 1) q (step_n hl rfl) hg).frameD [0] [] [] rfl rfl rfl rfl rfl rfl rfl rfl rfl) ?_
   refine S.store tOk rfl rfl rfl rfl rfl rfl rfl rfl ?_
   refine thenK_n ?_
   refine W.ret ?_
   refine thenK_r ?_
   exact ⟨_, rfl, rfl, (by rw [condR_eq _ q, cr_group c1 c2]; exact LeG.refl _), (by rw [condR_eq _ q, cr_group c1 c2]; rfl), rfl, rfl⟩
  ·skip
   refine W.skip ?_
   refine thenK_n ?_
   refine W.seq ?_
   refine W.seq ?_
   refine W.region ?_
   refine S.slice tOk rfl rfl ?_
   refine S.pure tOk zOk rfl rfl rfl ?_
   refine S.pure tOk zOk rfl rfl rfl ?_
   refine thenK_n ?_
   refine W.block ?_
   refine W.rounds 7 ?_
   refine WR.succ ?_
   refine W.seq ?_
   refine W.region ?_
   refine S.pure tOk zOk rfl rfl rfl ?_
   refine thenK_n ?_
   refine W.seq ?_
   refine W.condT rfl rfl ?_
   refine W.skip ?_
   refine thenK_n ?_
   refine W.seq ?_
   refine W.block ?_
   refine W.seq ?_
   refine W.region ?_
   refine S.pure tOk zOk rfl (by first | rfl | exact idx_ok (by omega) (by omega)) rfl ?_
   refine S.pure tOk zOk rfl rfl rfl ?_
   refine S.pure tOk zOk rfl rfl rfl ?_
   refine thenK_n ?_
   refine W.seq ?_
   refine W.seq ?_
   refine W.region ?_
   refine S.pure tOk zOk rfl rfl rfl ?_
   refine S.pure tOk zOk rfl rfl rfl ?_
   refine S.hcallD rfl rfl rfl rfl ((pc_isR s q hg 119 wAlways).frameD (B' := [[.d (.vec 4 ((refL s (q).T).map wdD)), .d (.int .i64 (q).w)], [.d (.int .i64 0), .d (.str []), .d (.str []), .d .nilsl]]) [0] [] [] rfl rfl rfl rfl rfl rfl rfl rfl rfl) ?_
   refine S.pure tOk zOk rfl rfl rfl ?_
   refine thenK_n ?_
   refine W.cond rfl (fun c4 => ?_) (fun c4 => ?_)
   ·skip
    refine W.exit ?_
    refine thenK_e ?_
    refine blockK_x ?_
    refine thenK_n ?_
    refine W.region ?_
    refine S.pureE tOk zOk rfl rfl (by first | exact inc_i64 (i := 0) (by decide) | exact inc_i64 (i := 1) (by decide) | exact inc_i64 (i := 2) (by decide) | exact inc_i64 (i := 3) (by decide) | exact inc_i64 (i := 4) (by decide) | exact inc_i64 (i := 5) (by decide)) rfl ?_
    refine S.pure tOk zOk rfl rfl rfl ?_
    refine thenK_n ?_
    refine WR.succ ?_
    refine W.seq ?_
    refine W.region ?_
    refine S.pure tOk zOk rfl rfl rfl ?_
    refine thenK_n ?_
    refine W.seq ?_
    refine W.condT rfl rfl ?_
    refine W.skip ?_
    refine thenK_n ?_
    refine W.seq ?_
    refine W.block ?_
    refine W.seq ?_
    refine W.region ?_
    refine S.pure tOk zOk rfl (by first | rfl | exact idx_ok (by omega) (by omega)) rfl ?_
    refine S.pure tOk zOk rfl rfl rfl ?_
    refine S.pure tOk zOk rfl rfl rfl ?_
    refine thenK_n ?_
    refine W.seq ?_
    refine W.seq ?_
    refine W.region ?_
    refine S.pure tOk zOk rfl rfl rfl ?_
    refine S.pure tOk zOk rfl rfl rfl ?_
    refine S.hcallD rfl rfl rfl rfl ((pc_isR s q hg 119 wFact).frameD (B' := [[.d (.vec 4 ((refL s (q).T).map wdD)), .d (.int .i64 (q).w)], [.d (.int .i64 0), .d (.str []), .d (.str []), .d .nilsl]]) [0] [] [] rfl rfl rfl rfl rfl rfl rfl rfl rfl) ?_
    refine S.pure tOk zOk rfl rfl rfl ?_
    refine thenK_n ?_
    refine W.cond rfl (fun c6 => ?_) (fun c6 => ?_)
    ·skip
     refine W.exit ?_
     refine thenK_e ?_
     refine blockK_x ?_
     refine thenK_n ?_
     refine W.region ?_
     refine S.pureE tOk zOk rfl rfl (by first | exact inc_i64 (i := 0) (by decide) | exact inc_i64 (i := 1) (by decide) | exact inc_i64 (i := 2) (by decide) | exact inc_i64 (i := 3) (by decide) | exact inc_i64 (i := 4) (by decide) | exact inc_i64 (i := 5) (by decide)) rfl ?_
     refine S.pure tOk zOk rfl rfl rfl ?_
     refine thenK_n ?_
     refine WR.succ ?_
     refine W.seq ?_
     refine W.region ?_
     refine S.pure tOk zOk rfl rfl rfl ?_
     refine thenK_n ?_
     refine W.seq ?_
     refine W.condT rfl rfl ?_
     refine W.skip ?_
     refine thenK_n ?_
     refine W.seq ?_
     refine W.block ?_
     refine W.seq ?_
     refine W.region ?_
     refine S.pure tOk zOk rfl (by first | rfl | exact idx_ok (by omega) (by omega)) rfl ?_
     refine S.pure tOk zOk rfl rfl rfl ?_
     refine S.pure tOk zOk rfl rfl rfl ?_
     refine thenK_n ?_
     refine W.seq ?_
     refine W.seq ?_
     refine W.region ?_
     refine S.pure tOk zOk rfl rfl rfl ?_
     refine S.pure tOk zOk rfl rfl rfl ?_
     refine S.hcallD rfl rfl rfl rfl ((pc_isR s q hg 119 wSetting).frameD (B' := [[.d (.vec 4 ((refL s (q).T).map wdD)), .d (.int .i64 (q).w)], [.d (.int .i64 0), .d (.str []), .d (.str []), .d .nilsl]]) [0] [] [] rfl rfl rfl rfl rfl rfl rfl rfl rfl) ?_
     refine S.pure tOk zOk rfl rfl rfl ?_
     refine thenK_n ?_
     refine W.cond rfl (fun c8 => ?_) (fun c8 => ?_)
     ·skip
      refine W.exit ?_
      refine thenK_e ?_
      refine blockK_x ?_
      refine thenK_n ?_
      refine W.region ?_
      refine S.pureE tOk zOk rfl rfl (by first | exact inc_i64 (i := 0) (by decide) | exact inc_i64 (i := 1) (by decide) | exact inc_i64 (i := 2) (by decide) | exact inc_i64 (i := 3) (by decide) | exact inc_i64 (i := 4) (by decide) | exact inc_i64 (i := 5) (by decide)) rfl ?_
      refine S.pure tOk zOk rfl rfl rfl ?_
      refine thenK_n ?_
      refine WR.succ ?_
      refine W.seq ?_
      refine W.region ?_
      refine S.pure tOk zOk rfl rfl rfl ?_
      refine thenK_n ?_
      refine W.seq ?_
      refine W.condT rfl rfl ?_
      refine W.skip ?_
      refine thenK_n ?_
      refine W.seq ?_
      refine W.block ?_
      refine W.seq ?_
      refine W.region ?_
      refine S.pure tOk zOk rfl (by first | rfl | exact idx_ok (by omega) (by omega)) rfl ?_
      refine S.pure tOk zOk rfl rfl rfl ?_
      refine S.pure tOk zOk rfl rfl rfl ?_
      refine thenK_n ?_
      refine W.seq ?_
      refine W.seq ?_
      refine W.region ?_
      refine S.pure tOk zOk rfl rfl rfl ?_
      refine S.pure tOk zOk rfl rfl rfl ?_
      refine S.hcallD rfl rfl rfl rfl ((pc_isR s q hg 119 wHas).frameD (B' := [[.d (.vec 4 ((refL s (q).T).map wdD)), .d (.int .i64 (q).w)], [.d (.int .i64 0), .d (.str []), .d (.str []), .d .nilsl]]) [0] [] [] rfl rfl rfl rfl rfl rfl rfl rfl rfl) ?_
      refine S.pure tOk zOk rfl rfl rfl ?_
      refine thenK_n ?_
      refine W.cond rfl (fun c10 => ?_) (fun c10 => ?_)
      ·skip
       refine W.exit ?_
       refine thenK_e ?_
       refine blockK_x ?_
       refine thenK_n ?_
       refine W.region ?_
       refine S.pureE tOk zOk rfl rfl (by first | exact inc_i64 (i := 0) (by decide) | exact inc_i64 (i := 1) (by decide) | exact inc_i64 (i := 2) (by decide) | exact inc_i64 (i := 3) (by decide) | exact inc_i64 (i := 4) (by decide) | exact inc_i64 (i := 5) (by decide)) rfl ?_
       refine S.pure tOk zOk rfl rfl rfl ?_
       refine thenK_n ?_
       refine WR.succ ?_
       refine W.seq ?_
       refine W.region ?_
       refine S.pure tOk zOk rfl rfl rfl ?_
       refine thenK_n ?_
       refine W.seq ?_
       refine W.condT rfl rfl ?_
       refine W.skip ?_
       refine thenK_n ?_
       refine W.seq ?_
       refine W.block ?_
       refine W.seq ?_
       refine W.region ?_
       refine S.pure tOk zOk rfl (by first | rfl | exact idx_ok (by omega) (by omega)) rfl ?_
       refine S.pure tOk zOk rfl rfl rfl ?_
       refine S.pure tOk zOk rfl rfl rfl ?_
       refine thenK_n ?_
       refine W.seq ?_
       refine W.seq ?_
       refine W.region ?_
       refine S.pure tOk zOk rfl rfl rfl ?_
       refine S.pure tOk zOk rfl rfl rfl ?_
       refine S.hcallD rfl rfl rfl rfl ((pc_isR s q hg 119 wVersion).frameD (B' := [[.d (.vec 4 ((refL s (q).T).map wdD)), .d (.int .i64 (q).w)], [.d (.int .i64 0), .d (.str []), .d (.str []), .d .nilsl]]) [0] [] [] rfl rfl rfl rfl rfl rfl rfl rfl rfl) ?_
       refine S.pure tOk zOk rfl rfl rfl ?_
       refine thenK_n ?_
       refine W.cond rfl (fun c12 => ?_) (fun c12 => ?_)
       ·skip
        refine W.exit ?_
        refine thenK_e ?_
        refine blockK_x ?_
        refine thenK_n ?_
        refine W.region ?_
        refine S.pureE tOk zOk rfl rfl (by first | exact inc_i64 (i := 0) (by decide) | exact inc_i64 (i := 1) (by decide) | exact inc_i64 (i := 2) (by decide) | exact inc_i64 (i := 3) (by decide) | exact inc_i64 (i := 4) (by decide) | exact inc_i64 (i := 5) (by decide)) rfl ?_
        refine S.pure tOk zOk rfl rfl rfl ?_
        refine thenK_n ?_
        refine WR.succ ?_
        refine W.seq ?_
        refine W.region ?_
        refine S.pure tOk zOk rfl rfl rfl ?_
        refine thenK_n ?_
        refine W.seq ?_
        refine W.condT rfl rfl ?_
        refine W.skip ?_
        refine thenK_n ?_
        refine W.seq ?_
        refine W.block ?_
        refine W.seq ?_
        refine W.region ?_
        refine S.pure tOk zOk rfl (by first | rfl | exact idx_ok (by omega) (by omega)) rfl ?_
        refine S.pure tOk zOk rfl rfl rfl ?_
        refine S.pure tOk zOk rfl rfl rfl ?_
        refine thenK_n ?_
        refine W.seq ?_
        refine W.seq ?_
        refine W.region ?_
        refine S.pure tOk zOk rfl rfl rfl ?_
        refine S.pure tOk zOk rfl rfl rfl ?_
        refine S.hcallD rfl rfl rfl rfl ((pc_isR s q hg 119 wNot).frameD (B' := [[.d (.vec 4 ((refL s (q).T).map wdD)), .d (.int .i64 (q).w)], [.d (.int .i64 0), .d (.str []), .d (.str []), .d .nilsl]]) [0] [] [] rfl rfl rfl rfl rfl rfl rfl rfl rfl) ?_
        refine S.pure tOk zOk rfl rfl rfl ?_
        refine thenK_n ?_
        refine W.cond rfl (fun c14 => ?_) (fun c14 => ?_)
        ·skip
         refine W.exit ?_
         refine thenK_e ?_
         refine blockK_x ?_
         refine thenK_n ?_
         refine W.region ?_
         refine S.pureE tOk zOk rfl rfl (by first | exact inc_i64 (i := 0) (by decide) | exact inc_i64 (i := 1) (by decide) | exact inc_i64 (i := 2) (by decide) | exact inc_i64 (i := 3) (by decide) | exact inc_i64 (i := 4) (by decide) | exact inc_i64 (i := 5) (by decide)) rfl ?_
         refine S.pure tOk zOk rfl rfl rfl ?_
         refine thenK_n ?_
         refine WR.succ ?_
         refine W.seq ?_
         refine W.region ?_
         refine S.pure tOk zOk rfl rfl rfl ?_
         refine thenK_n ?_
         refine W.seq ?_
         refine W.condF rfl rfl ?_
         refine W.exit ?_
         refine thenK_e ?_
         refine thenK_e ?_
         refine blockK_x ?_
         refine thenK_n ?_
         refine W.seq ?_
         refine W.seq ?_
         refine W.region ?_
         refine S.pure tOk zOk rfl rfl rfl ?_
         refine S.pure tOk zOk rfl rfl rfl ?_
         refine S.pure tOk zOk rfl rfl rfl ?_
         refine S.pure tOk zOk rfl rfl rfl ?_
         refine S.pure tOk zOk rfl rfl rfl ?_
         refine thenK_n ?_
         refine W.cond rfl (fun c16 => ?_) (fun c16 => ?_)
         ·skip
          refine W.region ?_
          refine S.pure tOk zOk rfl rfl rfl ?_
          refine S.pure tOk zOk rfl rfl rfl ?_
          refine S.pure tOk zOk rfl rfl rfl ?_
          refine S.pure tOk zOk rfl rfl rfl ?_
          refine S.pure tOk zOk rfl rfl rfl ?_
          refine S.pureE tOk zOk rfl (r0_ok hg.1) (r0_at hg.1) rfl ?_
          refine S.pure tOk zOk rfl rfl rfl ?_
          refine S.pure tOk zOk rfl rfl rfl ?_
          refine S.pure tOk zOk rfl rfl rfl ?_
          refine S.pure tOk zOk rfl rfl rfl ?_
          refine S.store tOk rfl rfl rfl rfl rfl rfl rfl rfl ?_
          refine thenK_n ?_
          refine W.seq ?_
          refine W.region ?_
          refine S.pure tOk zOk rfl rfl rfl ?_
          refine S.store tOk rfl rfl rfl rfl rfl rfl rfl rfl ?_
          refine thenK_n ?_
          refine W.ret ?_
          exact ⟨_, rfl, rfl, (by rw [condR_eq _ q, cr_else c1 c2 c4 c6 c8 c10 c12 c14, stop_1 c16]; exact (LeG.aggLast _ _ _ 4)), (by rw [condR_eq _ q, cr_else c1 c2 c4 c6 c8 c10 c12 c14, stop_1 c16]; rfl), rfl, rfl⟩
         ·skip
          refine W.skip ?_
          refine thenK_n ?_
          refine W.seq ?_
          refine W.region ?_
          refine S.pure tOk zOk rfl rfl rfl ?_
          refine S.store tOk rfl rfl rfl rfl rfl rfl rfl rfl ?_
          refine thenK_n ?_
          refine W.ret ?_
          exact ⟨_, rfl, rfl, (by rw [condR_eq _ q, cr_else c1 c2 c4 c6 c8 c10 c12 c14, stop_0 c16]; exact (LeG.aggLast _ _ _ 4)), (by rw [condR_eq _ q, cr_else c1 c2 c4 c6 c8 c10 c12 c14, stop_0 c16]; rfl), rfl, rfl⟩
        ·skip
         obtain ⟨m, rfl⟩ := n_more c1 (or_r c14)
         refine W.skip ?_
         refine thenK_n ?_
         refine W.seq ?_
         refine W.region ?_
         refine S.pure tOk zOk rfl rfl rfl ?_
         refine S.pure tOk zOk rfl rfl rfl ?_
         refine S.hcallD rfl rfl rfl rfl ((pc_nextR s q hg 119 wNot (by decide)).frameD [0] [] [] rfl rfl rfl rfl rfl rfl rfl rfl rfl) ?_
         refine thenK_n ?_
         refine W.seq ?_
         refine W.region ?_
         refine S.pure tOk zOk rfl rfl rfl ?_
         refine S.alloc tOk rfl rfl rfl rfl ?_
         refine S.store tOk rfl rfl rfl rfl rfl rfl rfl rfl ?_
         refine thenK_n ?_
         refine W.seq ?_
         refine W.seq ?_
         refine W.region ?_
         refine S.pure tOk zOk rfl rfl rfl ?_
         refine thenK_n ?_
         refine W.block ?_
         refine W.seq ?_
         refine W.region ?_
         refine S.pure tOk zOk rfl rfl rfl ?_
         refine S.pure tOk zOk rfl rfl rfl ?_
         refine thenK_n ?_
         refine W.condF rfl rfl ?_
         refine W.seq ?_
         refine W.region ?_
         refine S.pure tOk zOk rfl rfl rfl ?_
         refine S.pure tOk zOk rfl rfl rfl ?_
         refine thenK_n ?_
         refine W.condT rfl rfl ?_
         refine W.seq ?_
         refine W.region ?_
         refine S.pure tOk zOk rfl rfl rfl ?_
         refine S.pure tOk zOk rfl rfl rfl ?_
         refine S.pureE tOk zOk rfl rfl (inc_i64 (by omega)) rfl ?_
         refine S.hcallD rfl rfl rfl rfl ((ih m rfl (lv + 1) (nxR 119 wNot q).2 (step_n hl rfl) (Gd.go hg (rch_nx 119 wNot q))).frameD [0] [] [] rfl rfl rfl rfl rfl rfl rfl rfl rfl) ?_
         refine S.slice tOk rfl rfl ?_
         refine S.pure tOk zOk rfl rfl rfl ?_
         refine S.store tOk rfl rfl rfl rfl rfl rfl rfl rfl ?_
         refine thenK_n ?_
         refine W.ret ?_
         refine blockK_r ?_
         refine thenK_r ?_
         refine blockK_r ?_
         refine thenK_r ?_
         refine thenK_r ?_
         refine blockK_r ?_
         refine thenK_r ?_
         exact ⟨_, rfl, rfl, (by rw [condR_eq _ q, cr_not c1 c2 c4 c6 c8 c10 c12 c14]; exact LeG.of_force rfl (not_v 6 _)), (by rw [condR_eq _ q, cr_not c1 c2 c4 c6 c8 c10 c12 c14]; rfl), rfl, rfl⟩
       ·skip
        refine W.skip ?_
        refine thenK_n ?_
        refine W.seq ?_
        refine W.region ?_
        refine S.pure tOk zOk rfl rfl rfl ?_
        refine S.pure tOk zOk rfl rfl rfl ?_
        refine S.hcallD rfl rfl rfl rfl ((pc_nextR s q hg 119 wVersion (by decide)).frameD [0] [] [] rfl rfl rfl rfl rfl rfl rfl rfl rfl) ?_
        refine thenK_n ?_
        refine W.seq ?_
        refine W.region ?_
        refine S.pure tOk zOk rfl rfl rfl ?_
        refine S.alloc tOk rfl rfl rfl rfl ?_
        refine S.store tOk rfl rfl rfl rfl rfl rfl rfl rfl ?_
        refine thenK_n ?_
        refine W.seq ?_
        refine W.seq ?_
        refine W.region ?_
        refine S.pure tOk zOk rfl rfl rfl ?_
        refine thenK_n ?_
        refine W.block ?_
        refine W.seq ?_
        refine W.region ?_
        refine S.pure tOk zOk rfl rfl rfl ?_
        refine S.pure tOk zOk rfl rfl rfl ?_
        refine thenK_n ?_
        refine W.condF rfl rfl ?_
        refine W.seq ?_
        refine W.region ?_
        refine S.pure tOk zOk rfl rfl rfl ?_
        refine S.pure tOk zOk rfl rfl rfl ?_
        refine thenK_n ?_
        refine W.condF rfl rfl ?_
        refine W.seq ?_
        refine W.region ?_
        refine S.pure tOk zOk rfl rfl rfl ?_
        refine S.pure tOk zOk rfl rfl rfl ?_
        refine thenK_n ?_
        refine W.condF rfl rfl ?_
        refine W.seq ?_
        refine W.region ?_
        refine S.pure tOk zOk rfl rfl rfl ?_
        refine S.pure tOk zOk rfl rfl rfl ?_
        refine thenK_n ?_
        refine W.condT rfl rfl ?_
        refine W.seq ?_
        refine W.region ?_
        refine S.pure tOk zOk rfl rfl rfl ?_
        refine S.store tOk rfl rfl rfl rfl rfl rfl rfl rfl ?_
        refine thenK_n ?_
        refine W.seq ?_
        refine W.region ?_
        refine S.pure tOk zOk rfl rfl rfl ?_
        refine S.hcallD rfl rfl rfl rfl ((pc_nextR s (nxR 119 wVersion q).2 (Gd.go hg (rch_nx 119 wVersion q)) 119 [] (by decide)).frameD [0] [] [] rfl rfl rfl rfl rfl rfl rfl rfl rfl) ?_
        refine S.pure tOk zOk rfl rfl rfl ?_
        refine S.pure tOk zOk rfl rfl rfl ?_
        refine S.store tOk rfl rfl rfl rfl rfl rfl rfl rfl ?_
        refine thenK_n ?_
        refine W.seq ?_
        refine W.region ?_
        refine S.pure tOk zOk rfl rfl rfl ?_
        refine S.hcallD rfl rfl rfl rfl ((pc_nextR s (nxR 119 [] (nxR 119 wVersion q).2).2 (Gd.go (Gd.go hg (rch_nx 119 wVersion q)) (rch_nx 119 [] (nxR 119 wVersion q).2)) 119 wIn (by decide)).frameD [0] [] [] rfl rfl rfl rfl rfl rfl rfl rfl rfl) ?_
        refine thenK_n ?_
        refine W.region ?_
        refine S.pure tOk zOk rfl rfl rfl ?_
        refine S.hcallD rfl rfl rfl rfl ((pc_nextR s (nxR 119 wIn (nxR 119 [] (nxR 119 wVersion q).2).2).2 (Gd.go (Gd.go (Gd.go hg (rch_nx 119 wVersion q)) (rch_nx 119 [] (nxR 119 wVersion q).2)) (rch_nx 119 wIn (nxR 119 [] (nxR 119 wVersion q).2).2)) 113 [] (by decide)).frameD [0] [] [] rfl rfl rfl rfl rfl rfl rfl rfl rfl) ?_
        refine S.pure tOk zOk rfl rfl rfl ?_
        refine S.pure tOk zOk rfl rfl rfl ?_
        refine S.store tOk rfl rfl rfl rfl rfl rfl rfl rfl ?_
        refine blockK_n ?_
        refine thenK_n ?_
        refine W.seq ?_
        refine W.region ?_
        refine S.pure tOk zOk rfl rfl rfl ?_
        refine S.store tOk rfl rfl rfl rfl rfl rfl rfl rfl ?_
        refine thenK_n ?_
        refine W.ret ?_
        refine blockK_r ?_
        refine thenK_r ?_
        refine thenK_r ?_
        refine blockK_r ?_
        refine thenK_r ?_
        exact ⟨_, rfl, rfl, (by rw [condR_eq _ q, cr_version c1 c2 c4 c6 c8 c10 c12]; exact (LeG.aggLast _ _ _ 4)), (by rw [condR_eq _ q, cr_version c1 c2 c4 c6 c8 c10 c12]; rfl), rfl, rfl⟩
      ·skip
       refine W.skip ?_
       refine thenK_n ?_
       refine W.seq ?_
       refine W.region ?_
       refine S.pure tOk zOk rfl rfl rfl ?_
       refine S.pure tOk zOk rfl rfl rfl ?_
       refine S.hcallD rfl rfl rfl rfl ((pc_nextR s q hg 119 wHas (by decide)).frameD [0] [] [] rfl rfl rfl rfl rfl rfl rfl rfl rfl) ?_
       refine thenK_n ?_
       refine W.seq ?_
       refine W.region ?_
       refine S.pure tOk zOk rfl rfl rfl ?_
       refine S.alloc tOk rfl rfl rfl rfl ?_
       refine S.store tOk rfl rfl rfl rfl rfl rfl rfl rfl ?_
       refine thenK_n ?_
       refine W.seq ?_
       refine W.seq ?_
       refine W.region ?_
       refine S.pure tOk zOk rfl rfl rfl ?_
       refine thenK_n ?_
       refine W.block ?_
       refine W.seq ?_
       refine W.region ?_
       refine S.pure tOk zOk rfl rfl rfl ?_
       refine S.pure tOk zOk rfl rfl rfl ?_
       refine thenK_n ?_
       refine W.condF rfl rfl ?_
       refine W.seq ?_
       refine W.region ?_
       refine S.pure tOk zOk rfl rfl rfl ?_
       refine S.pure tOk zOk rfl rfl rfl ?_
       refine thenK_n ?_
       refine W.condF rfl rfl ?_
       refine W.seq ?_
       refine W.region ?_
       refine S.pure tOk zOk rfl rfl rfl ?_
       refine S.pure tOk zOk rfl rfl rfl ?_
       refine thenK_n ?_
       refine W.condT rfl rfl ?_
       refine W.seq ?_
       refine W.region ?_
       refine S.pure tOk zOk rfl rfl rfl ?_
       refine S.store tOk rfl rfl rfl rfl rfl rfl rfl rfl ?_
       refine thenK_n ?_
       refine W.region ?_
       refine S.pure tOk zOk rfl rfl rfl ?_
       refine S.hcallD rfl rfl rfl rfl ((pc_nextR s (nxR 119 wHas q).2 (Gd.go hg (rch_nx 119 wHas q)) 119 [] (by decide)).frameD [0] [] [] rfl rfl rfl rfl rfl rfl rfl rfl rfl) ?_
       refine S.pure tOk zOk rfl rfl rfl ?_
       refine S.pure tOk zOk rfl rfl rfl ?_
       refine S.store tOk rfl rfl rfl rfl rfl rfl rfl rfl ?_
       refine blockK_n ?_
       refine thenK_n ?_
       refine W.seq ?_
       refine W.region ?_
       refine S.pure tOk zOk rfl rfl rfl ?_
       refine S.store tOk rfl rfl rfl rfl rfl rfl rfl rfl ?_
       refine thenK_n ?_
       refine W.ret ?_
       refine blockK_r ?_
       refine thenK_r ?_
       refine thenK_r ?_
       refine blockK_r ?_
       refine thenK_r ?_
       exact ⟨_, rfl, rfl, (by rw [condR_eq _ q, cr_has c1 c2 c4 c6 c8 c10]; exact (LeG.aggLast _ _ _ 4)), (by rw [condR_eq _ q, cr_has c1 c2 c4 c6 c8 c10]; rfl), rfl, rfl⟩
     ·skip
      refine W.skip ?_
      refine thenK_n ?_
      refine W.seq ?_
      refine W.region ?_
      refine S.pure tOk zOk rfl rfl rfl ?_
      refine S.pure tOk zOk rfl rfl rfl ?_
      refine S.hcallD rfl rfl rfl rfl ((pc_nextR s q hg 119 wSetting (by decide)).frameD [0] [] [] rfl rfl rfl rfl rfl rfl rfl rfl rfl) ?_
      refine thenK_n ?_
      refine W.seq ?_
      refine W.region ?_
      refine S.pure tOk zOk rfl rfl rfl ?_
      refine S.alloc tOk rfl rfl rfl rfl ?_
      refine S.store tOk rfl rfl rfl rfl rfl rfl rfl rfl ?_
      refine thenK_n ?_
      refine W.seq ?_
      refine W.seq ?_
      refine W.region ?_
      refine S.pure tOk zOk rfl rfl rfl ?_
      refine thenK_n ?_
      refine W.block ?_
      refine W.seq ?_
      refine W.region ?_
      refine S.pure tOk zOk rfl rfl rfl ?_
      refine S.pure tOk zOk rfl rfl rfl ?_
      refine thenK_n ?_
      refine W.condF rfl rfl ?_
      refine W.seq ?_
      refine W.region ?_
      refine S.pure tOk zOk rfl rfl rfl ?_
      refine S.pure tOk zOk rfl rfl rfl ?_
      refine thenK_n ?_
      refine W.condF rfl rfl ?_
      refine W.seq ?_
      refine W.region ?_
      refine S.pure tOk zOk rfl rfl rfl ?_
      refine S.pure tOk zOk rfl rfl rfl ?_
      refine thenK_n ?_
      refine W.condF rfl rfl ?_
      refine W.seq ?_
      refine W.region ?_
      refine S.pure tOk zOk rfl rfl rfl ?_
      refine S.pure tOk zOk rfl rfl rfl ?_
      refine thenK_n ?_
      refine W.condF rfl rfl ?_
      refine W.seq ?_
      refine W.region ?_
      refine S.pure tOk zOk rfl rfl rfl ?_
      refine S.store tOk rfl rfl rfl rfl rfl rfl rfl rfl ?_
      refine thenK_n ?_
      refine W.seq ?_
      refine W.seq ?_
      refine W.region ?_
      refine S.pure tOk zOk rfl rfl rfl ?_
      refine S.pure tOk zOk rfl rfl rfl ?_
      refine thenK_n ?_
      refine W.condT rfl rfl ?_
      refine W.region ?_
      refine S.pure tOk zOk rfl rfl rfl ?_
      refine S.store tOk rfl rfl rfl rfl rfl rfl rfl rfl ?_
      refine thenK_n ?_
      refine W.seq ?_
      refine W.region ?_
      refine S.pure tOk zOk rfl rfl rfl ?_
      refine S.hcallD rfl rfl rfl rfl ((pc_nextR s (nxR 119 wSetting q).2 (Gd.go hg (rch_nx 119 wSetting q)) 119 [] (by decide)).frameD [0] [] [] rfl rfl rfl rfl rfl rfl rfl rfl rfl) ?_
      refine S.pure tOk zOk rfl rfl rfl ?_
      refine S.pure tOk zOk rfl rfl rfl ?_
      refine S.store tOk rfl rfl rfl rfl rfl rfl rfl rfl ?_
      refine thenK_n ?_
      refine W.seq ?_
      refine W.region ?_
      refine S.pure tOk zOk rfl rfl rfl ?_
      refine S.hcallD rfl rfl rfl rfl ((pc_nextR s (nxR 119 [] (nxR 119 wSetting q).2).2 (Gd.go (Gd.go hg (rch_nx 119 wSetting q)) (rch_nx 119 [] (nxR 119 wSetting q).2)) 61 [] (by decide)).frameD [0] [] [] rfl rfl rfl rfl rfl rfl rfl rfl rfl) ?_
      refine thenK_n ?_
      refine W.region ?_
      refine S.pure tOk zOk rfl rfl rfl ?_
      refine S.hcallD rfl rfl rfl rfl ((pc_nextR s (nxR 61 [] (nxR 119 [] (nxR 119 wSetting q).2).2).2 (Gd.go (Gd.go (Gd.go hg (rch_nx 119 wSetting q)) (rch_nx 119 [] (nxR 119 wSetting q).2)) (rch_nx 61 [] (nxR 119 [] (nxR 119 wSetting q).2).2)) 113 [] (by decide)).frameD [0] [] [] rfl rfl rfl rfl rfl rfl rfl rfl rfl) ?_
      refine S.pure tOk zOk rfl rfl rfl ?_
      refine S.pure tOk zOk rfl rfl rfl ?_
      refine S.store tOk rfl rfl rfl rfl rfl rfl rfl rfl ?_
      refine blockK_n ?_
      refine thenK_n ?_
      refine W.seq ?_
      refine W.region ?_
      refine S.pure tOk zOk rfl rfl rfl ?_
      refine S.store tOk rfl rfl rfl rfl rfl rfl rfl rfl ?_
      refine thenK_n ?_
      refine W.ret ?_
      refine blockK_r ?_
      refine thenK_r ?_
      refine thenK_r ?_
      refine blockK_r ?_
      refine thenK_r ?_
      exact ⟨_, rfl, rfl, (by rw [condR_eq _ q, cr_setting c1 c2 c4 c6 c8]; exact (LeG.aggLast _ _ _ 4)), (by rw [condR_eq _ q, cr_setting c1 c2 c4 c6 c8]; rfl), rfl, rfl⟩
    ·skip
     refine W.skip ?_
     refine thenK_n ?_
     refine W.seq ?_
     refine W.region ?_
     refine S.pure tOk zOk rfl rfl rfl ?_
     refine S.pure tOk zOk rfl rfl rfl ?_
     refine S.hcallD rfl rfl rfl rfl ((pc_nextR s q hg 119 wFact (by decide)).frameD [0] [] [] rfl rfl rfl rfl rfl rfl rfl rfl rfl) ?_
     refine thenK_n ?_
     refine W.seq ?_
     refine W.region ?_
     refine S.pure tOk zOk rfl rfl rfl ?_
     refine S.alloc tOk rfl rfl rfl rfl ?_
     refine S.store tOk rfl rfl rfl rfl rfl rfl rfl rfl ?_
     refine thenK_n ?_
     refine W.seq ?_
     refine W.seq ?_
     refine W.region ?_
     refine S.pure tOk zOk rfl rfl rfl ?_
     refine thenK_n ?_
     refine W.block ?_
     refine W.seq ?_
     refine W.region ?_
     refine S.pure tOk zOk rfl rfl rfl ?_
     refine S.pure tOk zOk rfl rfl rfl ?_
     refine thenK_n ?_
     refine W.condF rfl rfl ?_
     refine W.seq ?_
     refine W.region ?_
     refine S.pure tOk zOk rfl rfl rfl ?_
     refine S.pure tOk zOk rfl rfl rfl ?_
     refine thenK_n ?_
     refine W.condF rfl rfl ?_
     refine W.seq ?_
     refine W.region ?_
     refine S.pure tOk zOk rfl rfl rfl ?_
     refine S.pure tOk zOk rfl rfl rfl ?_
     refine thenK_n ?_
     refine W.condF rfl rfl ?_
     refine W.seq ?_
     refine W.region ?_
     refine S.pure tOk zOk rfl rfl rfl ?_
     refine S.pure tOk zOk rfl rfl rfl ?_
     refine thenK_n ?_
     refine W.condF rfl rfl ?_
     refine W.seq ?_
     refine W.region ?_
     refine S.pure tOk zOk rfl rfl rfl ?_
     refine S.store tOk rfl rfl rfl rfl rfl rfl rfl rfl ?_
     refine thenK_n ?_
     refine W.seq ?_
     refine W.seq ?_
     refine W.region ?_
     refine S.pure tOk zOk rfl rfl rfl ?_
     refine S.pure tOk zOk rfl rfl rfl ?_
     refine thenK_n ?_
     refine W.condF rfl rfl ?_
     refine W.skip ?_
     refine thenK_n ?_
     refine W.seq ?_
     refine W.region ?_
     refine S.pure tOk zOk rfl rfl rfl ?_
     refine S.hcallD rfl rfl rfl rfl ((pc_nextR s (nxR 119 wFact q).2 (Gd.go hg (rch_nx 119 wFact q)) 119 [] (by decide)).frameD [0] [] [] rfl rfl rfl rfl rfl rfl rfl rfl rfl) ?_
     refine S.pure tOk zOk rfl rfl rfl ?_
     refine S.pure tOk zOk rfl rfl rfl ?_
     refine S.store tOk rfl rfl rfl rfl rfl rfl rfl rfl ?_
     refine thenK_n ?_
     refine W.seq ?_
     refine W.region ?_
     refine S.pure tOk zOk rfl rfl rfl ?_
     refine S.hcallD rfl rfl rfl rfl ((pc_nextR s (nxR 119 [] (nxR 119 wFact q).2).2 (Gd.go (Gd.go hg (rch_nx 119 wFact q)) (rch_nx 119 [] (nxR 119 wFact q).2)) 61 [] (by decide)).frameD [0] [] [] rfl rfl rfl rfl rfl rfl rfl rfl rfl) ?_
     refine thenK_n ?_
     refine W.region ?_
     refine S.pure tOk zOk rfl rfl rfl ?_
     refine S.hcallD rfl rfl rfl rfl ((pc_nextR s (nxR 61 [] (nxR 119 [] (nxR 119 wFact q).2).2).2 (Gd.go (Gd.go (Gd.go hg (rch_nx 119 wFact q)) (rch_nx 119 [] (nxR 119 wFact q).2)) (rch_nx 61 [] (nxR 119 [] (nxR 119 wFact q).2).2)) 113 [] (by decide)).frameD [0] [] [] rfl rfl rfl rfl rfl rfl rfl rfl rfl) ?_
     refine S.pure tOk zOk rfl rfl rfl ?_
     refine S.pure tOk zOk rfl rfl rfl ?_
     refine S.store tOk rfl rfl rfl rfl rfl rfl rfl rfl ?_
     refine blockK_n ?_
     refine thenK_n ?_
     refine W.seq ?_
     refine W.region ?_
     refine S.pure tOk zOk rfl rfl rfl ?_
     refine S.store tOk rfl rfl rfl rfl rfl rfl rfl rfl ?_
     refine thenK_n ?_
     refine W.ret ?_
     refine blockK_r ?_
     refine thenK_r ?_
     refine thenK_r ?_
     refine blockK_r ?_
     refine thenK_r ?_
     exact ⟨_, rfl, rfl, (by rw [condR_eq _ q, cr_fact c1 c2 c4 c6]; exact (LeG.aggLast _ _ _ 4)), (by rw [condR_eq _ q, cr_fact c1 c2 c4 c6]; rfl), rfl, rfl⟩
   ·skip
    refine W.skip ?_
    refine thenK_n ?_
    refine W.seq ?_
    refine W.region ?_
    refine S.pure tOk zOk rfl rfl rfl ?_
    refine S.pure tOk zOk rfl rfl rfl ?_
    refine S.hcallD rfl rfl rfl rfl ((pc_nextR s q hg 119 wAlways (by decide)).frameD [0] [] [] rfl rfl rfl rfl rfl rfl rfl rfl rfl) ?_
    refine thenK_n ?_
    refine W.seq ?_
    refine W.region ?_
    refine S.pure tOk zOk rfl rfl rfl ?_
    refine S.alloc tOk rfl rfl rfl rfl ?_
    refine S.store tOk rfl rfl rfl rfl rfl rfl rfl rfl ?_
    refine thenK_n ?_
    refine W.seq ?_
    refine W.seq ?_
    refine W.region ?_
    refine S.pure tOk zOk rfl rfl rfl ?_
    refine thenK_n ?_
    refine W.block ?_
    refine W.seq ?_
    refine W.region ?_
    refine S.pure tOk zOk rfl rfl rfl ?_
    refine S.pure tOk zOk rfl rfl rfl ?_
    refine thenK_n ?_
    refine W.condT rfl rfl ?_
    refine W.region ?_
    refine S.pure tOk zOk rfl rfl rfl ?_
    refine S.store tOk rfl rfl rfl rfl rfl rfl rfl rfl ?_
    refine blockK_n ?_
    refine thenK_n ?_
    refine W.seq ?_
    refine W.region ?_
    refine S.pure tOk zOk rfl rfl rfl ?_
    refine S.store tOk rfl rfl rfl rfl rfl rfl rfl rfl ?_
    refine thenK_n ?_
    refine W.ret ?_
    refine blockK_r ?_
    refine thenK_r ?_
    refine thenK_r ?_
    refine blockK_r ?_
    refine thenK_r ?_
    exact ⟨_, rfl, rfl, (by rw [condR_eq _ q, cr_always c1 c2 c4]; exact (LeG.aggLast _ _ _ 4)), (by rw [condR_eq _ q, cr_always c1 c2 c4]; rfl), rfl, rfl⟩
end Go.Proofs.YtjibdoagpegniaaGreatDoor

/- A map's literal: its entries put in. -/
set_option linter.unusedVariables false
set_option linter.unusedSimpArgs false
namespace Go.Proofs.YtjibdoagpegniaaGreatDoor
open Go Go.RowKit
section
variable {α β : Type} {kind : TypeDesc} {enc : α → D} {val : α → Value} {same : α → α → Bool}
variable {J : Inv} {k0 : Lens} {E : Env J k0} {P : Program} {T : TypeId → Option TI} {n : Nat} {t : Nat → V} {b : List (List C)} {r : List (Option RowO)} {m : List (List (DV × DV))} {ops : Array Oper} {l : List Oper}
  {K : St → Prop} {i : Nat} {ty : TypeId} {pos : String} {after : Array Edge}
/-- A store into a map's literal. -/
theorem S.insert (hT : TabOk P T) (ke : KeyOk kind enc val same) {tm kt et : TypeId} {ti ki : TI} {x y u : Operand} {mi : Nat} {a0 : α} {fD : β → DV} (v0 : β) (l0 : List (α × β)) (hti : T tm = some ti) (hd : ti.desc = .map kt et) (hki : T kt = some ki) (hkd : ki.desc = kind)
    (hx : opd n ⟨t, b, r, m⟩ x = (true, .one (.map mi))) (hy : opd n ⟨t, b, r, m⟩ y = (true, .one (.d (enc a0)))) (hu : opd n ⟨t, b, r, m⟩ u = (true, (fD v0).v)) (hm : m[mi]? = some (mapOf enc fD l0))
    {m' : List (List (DV × DV))} (hm' : m.set mi (mapOf enc fD (setL same l0 a0 v0)) = m') (k : WL E P n ops l K ⟨t, b, r, m'⟩) : WL E P n ops (⟨none, .insert tm x y u, ty, pos, after, none⟩ :: l) K ⟨t, b, r, m⟩ := by
  subst hm'
  intro g a w rel next Q hn
  have hw : Region.wanted (⟨none, .insert tm x y u, ty, pos, after, none⟩ : Oper) (yielded ops a.tmps) = true := by simp [Region.wanted]
  rw [if_pos hw]
  have hp := opd_ok rel hx rfl
  have hq := opd_ok rel hy rfl
  have hr := opd_ok rel hu rfl
  generalize hxx : a.eval x = xv at hp
  generalize hyy : a.eval y = yv at hq
  generalize huu : a.eval u = uv at hr
  cases hp with | one _ _ hp => cases hp with | map _ hmi =>
  have hyv : yv = val a0 := ke.eq (a := a0) hq
  have hkv := hq
  subst hyv
  have h1 := (hT tm ti hti).1
  have h2 := (hT kt ki hki).1
  rw [hd] at h1; rw [hkd] at h2
  obtain ⟨arr, clock, q1, q2, q3, q4⟩ := map_find (s := ⟨t, b, r, m⟩) ke rel hm a0
  obtain ⟨A, hA⟩ : ∃ A, A = g.at_ (.m mi) := ⟨_, rfl⟩
  rw [← hA] at q1
  have fin : ∀ (arr' : Array MapEntry) (clock' : Nat), (Instr.mapUpdate tm (.map (some A)) (val a0) uv).run P w = .ok () { w with heap := w.heap.setIfInBounds A (.map arr' clock') } →
      MapFit arr' clock' (setL same l0 a0 v0).length → (∀ (i : Nat) (x : α × β) (e : MapEntry), (setL same l0 a0 v0)[i]? = some x → arr'[i]? = some e → RV g (⟨t, b, r, m⟩ : St).sh w (DV.one (enc x.1)).v e.key ∧ RV g (⟨t, b, r, m⟩ : St).sh w (fD x.2).v e.val) →
      Oper.wp P (⟨none, .insert tm x y u, ty, pos, after, none⟩ : Oper) a w next Q := fun arr' clock' hr' hfit hx' => by
    have hrun : (execOp a.eval (⟨none, .insert tm x y u, ty, pos, after, none⟩ : Oper)).run P w = .ok .skip { w with heap := w.heap.setIfInBounds A (.map arr' clock') } := by
      simp only [execOp, Sem.run_bind, hxx, hyy, huu, ← hA, hr', Result.andThen_ok, Sem.run_pure]
    unfold Oper.wp
    rw [hrun]
    refine hn _ g _ _ k ?_
    have := rel.setMap (es' := mapOf enc fD (setL same l0 a0 v0)) hm (by simpa [mapOf] using hfit) (fun i x e hx'' he => by
      obtain ⟨y', h3, rfl⟩ := mapOf_get hx''
      exact hx' i y' e h3 he)
    rw [← hA] at this
    exact this
  have keyrv : ∀ c : α, RV g (⟨t, b, r, m⟩ : St).sh w (DV.one (enc c)).v (val c) := fun c => .one _ _ (.d _ _ (valD_rd (ke.v c)))
  rcases q4 with ⟨p1, p2, p3, _, _⟩ | ⟨p1, p, x', e, p2, p3, p4, p5, p6, _, _⟩
  · refine fin (arr.push { key := val a0, val := uv, born := clock }) (clock + 1) ?_ ?_ ?_
    · simp only [Instr.mapUpdate, Sem.run_bind, run_underlying h1, Result.andThen_ok, MapKept.run_getObj_map q1, ke.chk P w _ kt a0 h2, run_findKey_now h2 p2]
      simp [MapKept.run_setObj_map _ q1]
    · rw [p3 v0]
      refine ⟨by simp [q2.len], fun i e h => ?_, fun i j e f h h' hb => ?_⟩
      · rw [Array.getElem?_push] at h
        split at h
        · simp only [Option.some.injEq] at h; rw [← h]; exact Nat.lt_succ_self _
        · exact Nat.lt_succ_of_lt (q2.born i e h)
      · rw [Array.getElem?_push] at h h'
        split at h <;> split at h'
        · omega
        · simp only [Option.some.injEq] at h
          have := q2.born j f h'
          rw [← h] at hb; simp only at hb; omega
        · simp only [Option.some.injEq] at h'
          have := q2.born i e h
          rw [← h'] at hb; simp only at hb; omega
        · exact q2.dist i j e f h h' hb
    · intro i x e hx' he
      rw [p3 v0] at hx'
      rw [Array.getElem?_push] at he
      by_cases hi : i < l0.length
      · rw [List.getElem?_append_left hi] at hx'
        rw [if_neg (by rw [q2.len]; omega)] at he
        obtain ⟨c1, c2⟩ := q3 i x e hx' he
        exact ⟨by rw [c1]; exact keyrv _, c2⟩
      · have hil : i = l0.length := by have := (List.getElem?_eq_some_iff.1 hx').1; simp at this; omega
        subst hil
        simp at hx'
        rw [if_pos q2.len.symm] at he
        simp only [Option.some.injEq] at he
        rw [← hx', ← he]
        exact ⟨keyrv _, hr⟩
  · have hpl : p < arr.size := (Array.getElem?_eq_some_iff.1 p3).1
    have hkey : e.key = val x'.1 := (q3 p x' e p2 p3).1
    refine fin (arr.modify p fun e => { e with key := val a0, val := uv }) clock ?_ ?_ ?_
    · have hst : (Instr.keyThatStays (((arr[p]?).map (·.key)).getD (val a0)) (val a0)).run P w = .ok (val a0) w := by
        rw [p3]
        simp only [Option.map_some, Option.getD_some, hkey]
        unfold Instr.keyThatStays
        rw [if_pos (ke.bits a0 x'.1 p5), Sem.run_pure]
      simp only [Instr.mapUpdate, Sem.run_bind, run_underlying h1, Result.andThen_ok, MapKept.run_getObj_map q1, ke.chk P w _ kt a0 h2, run_findKey_now h2 p4, hst]
      simp [MapKept.run_setObj_map _ q1]
    · rw [p6 v0]
      have hb : ∀ (i : Nat) (f : MapEntry), (arr.modify p fun e => { e with key := val a0, val := uv })[i]? = some f → ∃ f', arr[i]? = some f' ∧ f'.born = f.born := fun i f h => by
        rw [Array.getElem?_modify] at h
        split at h
        · obtain ⟨f', h1, h2⟩ := Option.map_eq_some_iff.1 h
          exact ⟨f', h1, by rw [← h2]⟩
        · exact ⟨f, h, rfl⟩
      refine ⟨by simp [q2.len], fun i f h => ?_, fun i j f f2 h h' hbb => ?_⟩
      · obtain ⟨f', h3, h4⟩ := hb i f h; rw [← h4]; exact q2.born i f' h3
      · obtain ⟨f', h3, h4⟩ := hb i f h
        obtain ⟨f2', h5, h6⟩ := hb j f2 h'
        exact q2.dist i j f' f2' h3 h5 (by rw [h4, h6]; exact hbb)
    · intro i x e' hx' he
      rw [p6 v0, List.getElem?_set] at hx'
      rw [Array.getElem?_modify] at he
      by_cases hi : p = i
      · subst hi
        rw [if_pos rfl] at hx' he
        split at hx'
        · simp only [Option.some.injEq] at hx'
          rw [p3] at he
          simp only [Option.map_some, Option.some.injEq] at he
          rw [← hx', ← he]
          exact ⟨keyrv _, hr⟩
        · cases hx'
      · rw [if_neg hi] at hx' he
        obtain ⟨c1, c2⟩ := q3 i x e' hx' he
        exact ⟨by rw [c1]; exact keyrv _, c2⟩
end
end Go.Proofs.YtjibdoagpegniaaGreatDoor

set_option linter.unusedVariables false
set_option linter.unusedSimpArgs false
set_option maxRecDepth 100000
set_option maxHeartbeats 4000000
namespace Go.Proofs.YtjibdoagpegniaaGreatDoor
open Go
open Go.RowKit
attribute [local irreducible] rangeB pathB nameB valueB visit visits checkP quoteL qAt nextT skipB wordE toks refL noR nxR isR condR condRG groupR shortR longR moreR signR stopR condT condG listG
theorem pc_groupR (s : List UInt8) (m : Nat) (ih : CondRC s m) (lv : Nat) (q : PS) (hl : lv + m = 100) (hg : Gd s q.T) :
  HCall Tryz.prog J 55 ([.one (.ptr 0 0), .one (.d (.int .i64 (lv : Int)))]) ([[.d (.vec 4 ((refL s (q).T).map wdD)), .d (.int .i64 (q).w)]]) ([]) ([]) (isH (ctV (groupR (condR m) q).1) ([[.d (.vec 4 ((refL s ((groupR (condR m) q).2).T).map wdD)), .d (.int .i64 ((groupR (condR m) q).2).w)]]) ([]) ([])) := by
 refine HCall.ofD tOk ⟨1, 0, 0⟩ (fn := Tryz.f55) Tryz.func55 (by kernel_rfl) rfl (Nat.le_of_ble_eq_true rfl) (fun E => ?_)
 refine W.seq ?_
 refine W.region ?_
 refine S.alloc tOk rfl rfl rfl rfl ?_
 refine thenK_n ?_
 refine W.seq ?_
 refine W.region ?_
 refine S.pure tOk zOk rfl rfl rfl ?_
 refine S.hcallD rfl rfl rfl rfl ((pc_nextR s q hg 40 [] (by decide)).frameD (B' := [[.d (.vec 4 ((refL s ((nxR 40 [] q).2).T).map wdD)), .d (.int .i64 ((nxR 40 [] q).2).w)], [.d (.int .i64 0), .d (.str []), .d (.str []), .d .nilsl]]) [0] [] [] rfl rfl rfl rfl rfl rfl rfl rfl rfl) ?_
 refine thenK_n ?_
 refine W.seq ?_
 refine W.region ?_
 refine S.makeMap rfl ?_
 refine S.insert tOk keyStr (fD := fun v : Int => DV.one (.int .i64 v)) 7 [] rfl rfl rfl rfl rfl rfl rfl rfl rfl ?_
 refine S.insert tOk keyStr (fD := fun v : Int => DV.one (.int .i64 v)) 8 [(wAnd, 7)] rfl rfl rfl rfl rfl rfl rfl rfl rfl ?_
 refine S.pure tOk zOk rfl rfl rfl ?_
 refine S.pure tOk zOk rfl rfl rfl ?_
 refine thenK_n ?_
 refine W.seq ?_
 refine W.seq ?_
 refine W.region ?_
 refine S.slice tOk rfl rfl ?_
 refine S.pure tOk zOk rfl rfl rfl ?_
 refine S.pure tOk zOk rfl rfl rfl ?_
 refine thenK_n ?_
 refine W.block ?_
 refine W.rounds 3 ?_
 refine WR.succ ?_
 refine W.seq ?_
 refine W.region ?_
 refine S.pure tOk zOk rfl rfl rfl ?_
 refine thenK_n ?_
 refine W.seq ?_
 refine W.condT rfl rfl ?_
 refine W.skip ?_
 refine thenK_n ?_
 refine W.seq ?_
 refine W.block ?_
 refine W.seq ?_
 refine W.region ?_
 refine S.pure tOk zOk rfl (by first | rfl | exact idx_ok (by omega) (by omega)) rfl ?_
 refine S.pure tOk zOk rfl rfl rfl ?_
 refine S.pure tOk zOk rfl rfl rfl ?_
 refine thenK_n ?_
 refine W.seq ?_
 refine W.region ?_
 refine S.pure tOk zOk rfl rfl rfl ?_
 refine S.pure tOk zOk rfl rfl rfl ?_
 refine S.hcallD rfl rfl rfl rfl ((pc_isR s (nxR 40 [] q).2 (Gd.go hg (rch_nx 40 [] q)) 119 wAnd).frameD (B' := [[.d (.vec 4 ((refL s ((nxR 40 [] q).2).T).map wdD)), .d (.int .i64 ((nxR 40 [] q).2).w)], [.d (.int .i64 0), .d (.str []), .d (.str []), .d .nilsl]]) [0] [] [] rfl rfl rfl rfl rfl rfl rfl rfl rfl) ?_
 refine thenK_n ?_
 refine W.cond rfl (fun c2 => ?_) (fun c2 => ?_)
 ·skip
  refine W.seq ?_
  refine W.region ?_
  refine S.pure tOk zOk rfl rfl rfl ?_
  refine S.pure tOk zOk rfl rfl rfl ?_
  refine S.hcallD rfl rfl rfl rfl ((pc_nextR s (nxR 40 [] q).2 (Gd.go hg (rch_nx 40 [] q)) 119 wAnd (by decide)).frameD (B' := [[.d (.vec 4 ((refL s ((nxR 119 wAnd (nxR 40 [] q).2).2).T).map wdD)), .d (.int .i64 ((nxR 119 wAnd (nxR 40 [] q).2).2).w)], [.d (.int .i64 0), .d (.str []), .d (.str []), .d .nilsl]]) [0] [] [] rfl rfl rfl rfl rfl rfl rfl rfl rfl) ?_
  refine thenK_n ?_
  refine W.seq ?_
  refine W.region ?_
  refine S.pure tOk zOk rfl rfl rfl ?_
  refine S.pure tOk zOk rfl rfl rfl ?_
  refine S.lookup tOk keyStr (fD := fun v : Int => DV.one (.int .i64 v)) 0 [(wAnd, 7), (wOr, 8)] rfl rfl rfl rfl rfl rfl rfl rfl rfl rfl (show mapV false _ _ = V.one (.d (.int .i64 7)) from rfl) ?_
  refine S.pure tOk zOk rfl rfl rfl ?_
  refine S.alloc tOk rfl rfl rfl rfl ?_
  refine S.store tOk rfl rfl rfl rfl rfl rfl rfl rfl ?_
  refine thenK_n ?_
  refine W.seq ?_
  refine W.seq ?_
  refine W.region ?_
  refine S.pure tOk zOk rfl rfl rfl ?_
  refine S.hcallD rfl rfl rfl rfl ((pc_isR s (nxR 119 wAnd (nxR 40 [] q).2).2 (Gd.go (Gd.go hg (rch_nx 40 [] q)) (rch_nx 119 wAnd (nxR 40 [] q).2)) 41 []).frameD [0] [] [] rfl rfl rfl rfl rfl rfl rfl rfl rfl) ?_
  refine S.pure tOk zOk rfl rfl rfl ?_
  refine thenK_n ?_
  refine W.cond rfl (fun c3 => ?_) (fun c3 => ?_)
  ·skip
   refine W.region ?_
   refine S.pure tOk zOk rfl rfl rfl ?_
   refine S.pure tOk zOk rfl rfl rfl ?_
   refine S.hcallD rfl rfl rfl rfl ((ih lv (nxR 119 wAnd (nxR 40 [] q).2).2 hl (Gd.go (Gd.go hg (rch_nx 40 [] q)) (rch_nx 119 wAnd (nxR 40 [] q).2))).frameD [0] [] [] rfl rfl rfl rfl rfl rfl rfl rfl rfl) ?_
   refine S.slice tOk rfl rfl ?_
   refine S.pure tOk zOk rfl rfl rfl ?_
   refine S.store tOk rfl rfl rfl rfl rfl rfl rfl rfl ?_
   refine thenK_n ?_
   refine W.seq ?_
   refine W.region ?_
   refine S.pure tOk zOk rfl rfl rfl ?_
   refine S.hcallD rfl rfl rfl rfl ((pc_nextR s (condR m (nxR 119 wAnd (nxR 40 [] q).2).2).2 (Gd.go (Gd.go (Gd.go hg (rch_nx 40 [] q)) (rch_nx 119 wAnd (nxR 40 [] q).2)) (rch_condR m (nxR 119 wAnd (nxR 40 [] q).2).2)) 41 [] (by decide)).frameD [0] [] [] rfl rfl rfl rfl rfl rfl rfl rfl rfl) ?_
   refine thenK_n ?_
   refine W.seq ?_
   refine W.region ?_
   refine S.pure tOk zOk rfl rfl rfl ?_
   refine S.store tOk rfl rfl rfl rfl rfl rfl rfl rfl ?_
   refine thenK_n ?_
   refine W.ret ?_
   refine blockK_r ?_
   refine thenK_r ?_
   refine thenK_r ?_
   refine blockK_r ?_
   refine thenK_r ?_
   exact ⟨_, rfl, rfl, (by rw [gr_and c2, shr_1 c3]; exact LeG.of_force rfl (not_v 7 _)), (by rw [gr_and c2, shr_1 c3]; rfl), rfl, rfl⟩
  ·skip
   refine W.skip ?_
   refine thenK_n ?_
   refine W.seq ?_
   refine W.region ?_
   refine S.pure tOk zOk rfl rfl rfl ?_
   refine S.hcallD rfl rfl rfl rfl ((pc_nextR s (nxR 119 wAnd (nxR 40 [] q).2).2 (Gd.go (Gd.go hg (rch_nx 40 [] q)) (rch_nx 119 wAnd (nxR 40 [] q).2)) 41 [] (by decide)).frameD [0] [] [] rfl rfl rfl rfl rfl rfl rfl rfl rfl) ?_
   refine thenK_n ?_
   refine W.seq ?_
   refine W.region ?_
   refine S.pure tOk zOk rfl rfl rfl ?_
   refine S.store tOk rfl rfl rfl rfl rfl rfl rfl rfl ?_
   refine thenK_n ?_
   refine W.ret ?_
   refine blockK_r ?_
   refine thenK_r ?_
   refine thenK_r ?_
   refine blockK_r ?_
   refine thenK_r ?_
   exact ⟨_, rfl, rfl, (by rw [gr_and c2, shr_0 c3]; exact (LeG.aggLast _ _ _ 4)), (by rw [gr_and c2, shr_0 c3]; rfl), rfl, rfl⟩
 ·skip
  refine W.skip ?_
  refine blockK_n ?_
  refine thenK_n ?_
  refine W.region ?_
  refine S.pure tOk zOk rfl rfl rfl ?_
  refine S.pure tOk zOk rfl rfl rfl ?_
  refine thenK_n ?_
  refine WR.succ ?_
  refine W.seq ?_
  refine W.region ?_
  refine S.pure tOk zOk rfl rfl rfl ?_
  refine thenK_n ?_
  refine W.seq ?_
  refine W.condT rfl rfl ?_
  refine W.skip ?_
  refine thenK_n ?_
  refine W.seq ?_
  refine W.block ?_
  refine W.seq ?_
  refine W.region ?_
  refine S.pure tOk zOk rfl (by first | rfl | exact idx_ok (by omega) (by omega)) rfl ?_
  refine S.pure tOk zOk rfl rfl rfl ?_
  refine S.pure tOk zOk rfl rfl rfl ?_
  refine thenK_n ?_
  refine W.seq ?_
  refine W.region ?_
  refine S.pure tOk zOk rfl rfl rfl ?_
  refine S.pure tOk zOk rfl rfl rfl ?_
  refine S.hcallD rfl rfl rfl rfl ((pc_isR s (nxR 40 [] q).2 (Gd.go hg (rch_nx 40 [] q)) 119 wOr).frameD (B' := [[.d (.vec 4 ((refL s ((nxR 40 [] q).2).T).map wdD)), .d (.int .i64 ((nxR 40 [] q).2).w)], [.d (.int .i64 0), .d (.str []), .d (.str []), .d .nilsl]]) [0] [] [] rfl rfl rfl rfl rfl rfl rfl rfl rfl) ?_
  refine thenK_n ?_
  refine W.cond rfl (fun c5 => ?_) (fun c5 => ?_)
  ·skip
   refine W.seq ?_
   refine W.region ?_
   refine S.pure tOk zOk rfl rfl rfl ?_
   refine S.pure tOk zOk rfl rfl rfl ?_
   refine S.hcallD rfl rfl rfl rfl ((pc_nextR s (nxR 40 [] q).2 (Gd.go hg (rch_nx 40 [] q)) 119 wOr (by decide)).frameD (B' := [[.d (.vec 4 ((refL s ((nxR 119 wOr (nxR 40 [] q).2).2).T).map wdD)), .d (.int .i64 ((nxR 119 wOr (nxR 40 [] q).2).2).w)], [.d (.int .i64 0), .d (.str []), .d (.str []), .d .nilsl]]) [0] [] [] rfl rfl rfl rfl rfl rfl rfl rfl rfl) ?_
   refine thenK_n ?_
   refine W.seq ?_
   refine W.region ?_
   refine S.pure tOk zOk rfl rfl rfl ?_
   refine S.pure tOk zOk rfl rfl rfl ?_
   refine S.lookup tOk keyStr (fD := fun v : Int => DV.one (.int .i64 v)) 0 [(wAnd, 7), (wOr, 8)] rfl rfl rfl rfl rfl rfl rfl rfl rfl rfl (show mapV false _ _ = V.one (.d (.int .i64 8)) from rfl) ?_
   refine S.pure tOk zOk rfl rfl rfl ?_
   refine S.alloc tOk rfl rfl rfl rfl ?_
   refine S.store tOk rfl rfl rfl rfl rfl rfl rfl rfl ?_
   refine thenK_n ?_
   refine W.seq ?_
   refine W.seq ?_
   refine W.region ?_
   refine S.pure tOk zOk rfl rfl rfl ?_
   refine S.hcallD rfl rfl rfl rfl ((pc_isR s (nxR 119 wOr (nxR 40 [] q).2).2 (Gd.go (Gd.go hg (rch_nx 40 [] q)) (rch_nx 119 wOr (nxR 40 [] q).2)) 41 []).frameD [0] [] [] rfl rfl rfl rfl rfl rfl rfl rfl rfl) ?_
   refine S.pure tOk zOk rfl rfl rfl ?_
   refine thenK_n ?_
   refine W.cond rfl (fun c6 => ?_) (fun c6 => ?_)
   ·skip
    refine W.region ?_
    refine S.pure tOk zOk rfl rfl rfl ?_
    refine S.pure tOk zOk rfl rfl rfl ?_
    refine S.hcallD rfl rfl rfl rfl ((ih lv (nxR 119 wOr (nxR 40 [] q).2).2 hl (Gd.go (Gd.go hg (rch_nx 40 [] q)) (rch_nx 119 wOr (nxR 40 [] q).2))).frameD [0] [] [] rfl rfl rfl rfl rfl rfl rfl rfl rfl) ?_
    refine S.slice tOk rfl rfl ?_
    refine S.pure tOk zOk rfl rfl rfl ?_
    refine S.store tOk rfl rfl rfl rfl rfl rfl rfl rfl ?_
    refine thenK_n ?_
    refine W.seq ?_
    refine W.region ?_
    refine S.pure tOk zOk rfl rfl rfl ?_
    refine S.hcallD rfl rfl rfl rfl ((pc_nextR s (condR m (nxR 119 wOr (nxR 40 [] q).2).2).2 (Gd.go (Gd.go (Gd.go hg (rch_nx 40 [] q)) (rch_nx 119 wOr (nxR 40 [] q).2)) (rch_condR m (nxR 119 wOr (nxR 40 [] q).2).2)) 41 [] (by decide)).frameD [0] [] [] rfl rfl rfl rfl rfl rfl rfl rfl rfl) ?_
    refine thenK_n ?_
    refine W.seq ?_
    refine W.region ?_
    refine S.pure tOk zOk rfl rfl rfl ?_
    refine S.store tOk rfl rfl rfl rfl rfl rfl rfl rfl ?_
    refine thenK_n ?_
    refine W.ret ?_
    refine blockK_r ?_
    refine thenK_r ?_
    refine thenK_r ?_
    refine blockK_r ?_
    refine thenK_r ?_
    exact ⟨_, rfl, rfl, (by rw [gr_or c2 c5, shr_1 c6]; exact LeG.of_force rfl (not_v 8 _)), (by rw [gr_or c2 c5, shr_1 c6]; rfl), rfl, rfl⟩
   ·skip
    refine W.skip ?_
    refine thenK_n ?_
    refine W.seq ?_
    refine W.region ?_
    refine S.pure tOk zOk rfl rfl rfl ?_
    refine S.hcallD rfl rfl rfl rfl ((pc_nextR s (nxR 119 wOr (nxR 40 [] q).2).2 (Gd.go (Gd.go hg (rch_nx 40 [] q)) (rch_nx 119 wOr (nxR 40 [] q).2)) 41 [] (by decide)).frameD [0] [] [] rfl rfl rfl rfl rfl rfl rfl rfl rfl) ?_
    refine thenK_n ?_
    refine W.seq ?_
    refine W.region ?_
    refine S.pure tOk zOk rfl rfl rfl ?_
    refine S.store tOk rfl rfl rfl rfl rfl rfl rfl rfl ?_
    refine thenK_n ?_
    refine W.ret ?_
    refine blockK_r ?_
    refine thenK_r ?_
    refine thenK_r ?_
    refine blockK_r ?_
    refine thenK_r ?_
    exact ⟨_, rfl, rfl, (by rw [gr_or c2 c5, shr_0 c6]; exact (LeG.aggLast _ _ _ 4)), (by rw [gr_or c2 c5, shr_0 c6]; rfl), rfl, rfl⟩
  ·skip
   refine W.skip ?_
   refine blockK_n ?_
   refine thenK_n ?_
   refine W.region ?_
   refine S.pure tOk zOk rfl rfl rfl ?_
   refine S.pure tOk zOk rfl rfl rfl ?_
   refine thenK_n ?_
   refine WR.succ ?_
   refine W.seq ?_
   refine W.region ?_
   refine S.pure tOk zOk rfl rfl rfl ?_
   refine thenK_n ?_
   refine W.seq ?_
   refine W.condF rfl rfl ?_
   refine W.exit ?_
   refine thenK_e ?_
   refine thenK_e ?_
   refine blockK_x ?_
   refine thenK_n ?_
   refine W.seq ?_
   refine W.region ?_
   refine S.pure tOk zOk rfl rfl rfl ?_
   refine S.pure tOk zOk rfl rfl rfl ?_
   refine S.hcallD rfl rfl rfl rfl ((ih lv (nxR 40 [] q).2 hl (Gd.go hg (rch_nx 40 [] q))).frameD (B' := [[.d (.vec 4 ((refL s ((condR m (nxR 40 [] q).2).2).T).map wdD)), .d (.int .i64 ((condR m (nxR 40 [] q).2).2).w)], [.d (.int .i64 0), .d (.str []), .d (.str []), .d .nilsl]]) [0] [] [] rfl rfl rfl rfl rfl rfl rfl rfl rfl) ?_
   refine S.alloc tOk rfl rfl rfl rfl ?_
   refine S.store tOk rfl rfl rfl rfl rfl rfl rfl rfl ?_
   refine thenK_n ?_
   refine W.seq ?_
   refine W.region ?_
   refine S.pure tOk zOk rfl rfl rfl ?_
   refine thenK_n ?_
   refine W.seq ?_
   refine W.seq ?_
   have hgr : Gd s (condR m (nxR 40 [] q).2).2.T := (Gd.go (Gd.go hg (rch_nx 40 [] q)) (rch_condR m (nxR 40 [] q).2))
   refine W.region ?_
   refine S.pure tOk zOk rfl rfl rfl ?_
   refine S.hcallD rfl rfl rfl rfl ((pc_isR s (condR m (nxR 40 [] q).2).2 hgr 119 wOr).frameD [0] [] [] rfl rfl rfl rfl rfl rfl rfl rfl rfl) ?_
   refine thenK_n ?_
   refine W.cond rfl (fun c8 => ?_) (fun c8 => ?_)
   ·skip
    have hsx : (signR (condR m (nxR 40 [] q).2).2) = wOr := sr_1 c8
    have hg3 := hgr.2
    refine W.region ?_
    refine S.pure tOk zOk rfl rfl rfl ?_
    refine thenK_n ?_
    refine W.seq ?_
    refine W.region ?_
    refine S.pure tOk zOk rfl rfl rfl ?_
    refine S.pure tOk zOk rfl rfl rfl ?_
    refine S.lookup tOk keyStr (fD := fun v : Int => DV.one (.int .i64 v)) 0 [(wAnd, 7), (wOr, 8)] rfl rfl rfl rfl rfl rfl rfl rfl rfl rfl (show mapV false _ _ = V.one (.d (.int .i64 8)) from rfl) ?_
    refine S.pure tOk zOk rfl rfl rfl ?_
    refine S.sliceOwn (xs := [(condR m (nxR 40 [] q).2).1].map CT.d) tOk rfl rfl rfl (Eq.trans rfl (ct_some (condR m (nxR 40 [] q).2).1)) rfl rfl ?_
    refine S.pure tOk zOk rfl rfl rfl ?_
    refine S.alloc tOk rfl rfl rfl rfl ?_
    refine S.store tOk rfl rfl rfl rfl rfl rfl rfl rfl ?_
    refine thenK_n ?_
    refine W.seq ?_
    refine W.seq ?_
    refine W.region ?_
    refine S.pure tOk zOk rfl rfl rfl ?_
    refine thenK_n ?_
    refine W.block ?_
    refine W.loop (fun k st => ∃ u : Nat, ∃ c : Nat, ∃ l : List CT, ∃ p : PS, ∃ v : Nat, ∃ kx : Int, Gd s p.T ∧ moreR (condR m) (signR (condR m (nxR 40 [] q).2).2) u (decide ((c : Int) > 0)) l p = moreR (condR m) (signR (condR m (nxR 40 [] q).2).2) ((condR m (nxR 40 [] q).2).2.T.length + 1) false [(condR m (nxR 40 [] q).2).1] (condR m (nxR 40 [] q).2).2 ∧ (decide (p.w < 0) = true → p.T.length < u) ∧ (c + u ≤ 6000 ∧ l.length + u ≤ 6010) ∧ kx = kindT (signR (condR m (nxR 40 [] q).2).2) ∧ k = 2 * u ∧ ∃ t b2 r2 m2, st = ⟨t, [[.d (.vec 4 ((refL s (p).T).map wdD)), .d (.int .i64 (p).w)], [.d (.int .i64 0), .d (.str []), .d (.str []), .d .nilsl], ctC (condR m (nxR 40 [] q).2).1, [.d (.int .i64 kx), .d (.str []), .d (.str []), .row 0 v 0 (l.map CT.d).length]] ++ b2, [some ⟨true, v, 4, 24, l.map CT.d⟩] ++ r2, [mapOf D.str (fun v : Int => DV.one (.int .i64 v)) [(wAnd, 7), (wOr, 8)]] ++ m2⟩ ∧ holdsL t [(0, .one (.ptr 0 0)), (1, .one (.d (.int .i64 (lv : Int)))), (4, .one (.ptr 1 0)), (10, .one (.d (.str (signR (condR m (nxR 40 [] q).2).2)))), (11, .one (.ptr 3 0)), (12, .one (.d (.int .i64 (c : Int))))]) (2 * ((condR m (nxR 40 [] q).2).2.T.length + 1)) ⟨((condR m (nxR 40 [] q).2).2.T.length + 1), 0, [(condR m (nxR 40 [] q).2).1], _, 0, _, hgr, rfl, (fun _ => Nat.lt_succ_self _), (by constructor <;> (try simp) <;> omega), (by rw [hsx]; rfl), rfl, _, _, _, _, rfl, rfl, rfl, rfl, (by rw [hsx]; rfl), rfl, rfl, trivial⟩ ?_
    rintro k2 _ ⟨u, c, l, p, v, kx, f2_0, f2_1, f2_2, f2_3, f2_4, rfl, t2, bb2, rr2, mm2, rfl, hh2⟩
    refine W.keepR _ _ _ _ _ _ _ hh2 rfl ?_
    refine W.seq ?_
    refine W.seq ?_
    refine W.region ?_
    refine S.pure tOk zOk rfl rfl rfl ?_
    refine S.pure tOk zOk rfl rfl rfl ?_
    refine S.pure tOk zOk rfl rfl rfl ?_
    refine S.pure tOk zOk rfl rfl rfl ?_
    refine S.pure tOk zOk rfl rfl rfl ?_
    refine thenK_n ?_
    refine W.cond rfl (fun c9 => ?_) (fun c9 => ?_)
    ·skip
     have hlt : p.T.length < u := f2_2 c9
     have hu0 : 0 < u := by omega
     have cl := c9
     refine W.skip ?_
     refine thenK_n ?_
     refine W.seq ?_
     refine W.block ?_
     refine W.seq ?_
     refine W.seq ?_
     refine W.region ?_
     refine S.pure tOk zOk rfl rfl rfl ?_
     refine S.pure tOk zOk rfl rfl rfl ?_
     refine S.pure tOk zOk rfl rfl rfl ?_
     refine S.pureG tOk zOk rfl rfl tg (fun _ => rfl) rfl ?_
     refine S.hcallG rfl rfl rfl rfl tg rfl (fun _ => (pc_isR s p f2_0 41 []).frameD [0] [] [] rfl rfl rfl rfl rfl rfl rfl rfl rfl) ?_
     refine S.pickAnd tOk zOk rfl rfl tg ?_
     refine thenK_n ?_
     refine W.cond rfl (fun c10 => ?_) (fun c10 => ?_)
     ·skip
      have hM := mr_close f2_1 hu0 cl c10
      refine W.seq ?_
      refine W.freezeB (ri := 0) (q := ⟨_, _, _, _, _⟩) 3 3 rfl rfl rfl rfl ?_
      refine W.region ?_
      refine S.pure tOk zOk rfl rfl rfl ?_
      refine S.hcallD rfl rfl rfl rfl ((pc_nextR s p f2_0 41 [] (by decide)).frameD [0] [] [] rfl rfl rfl rfl rfl rfl rfl rfl rfl) ?_
      refine thenK_n ?_
      refine W.seq ?_
      refine W.region ?_
      refine S.pure tOk zOk rfl rfl rfl ?_
      refine S.store tOk rfl rfl rfl rfl rfl rfl rfl rfl ?_
      refine thenK_n ?_
      refine W.ret ?_
      refine thenK_r ?_
      refine blockK_r ?_
      refine thenK_r ?_
      refine thenK_r ?_
      refine blockK_r ?_
      refine thenK_r ?_
      exact ⟨_, rfl, rfl, (by rw [gr_long c2 c5, longr_eq hM]; exact (by rw [← f2_4]; exact LeG.of_force rfl (long_v _ _))), (by rw [gr_long c2 c5, longr_eq hM]; rfl), rfl, rfl⟩
     ·skip
      have cn := c10
      refine W.skip ?_
      refine thenK_n ?_
      refine W.seq ?_
      refine W.region ?_
      refine S.pure tOk zOk rfl rfl rfl ?_
      refine S.pure tOk zOk rfl rfl rfl ?_
      refine S.hcallD rfl rfl rfl rfl ((pc_nextR s p f2_0 119 (signR (condR m (nxR 40 [] q).2).2) (by decide)).frameD [0] [] [] rfl rfl rfl rfl rfl rfl rfl rfl rfl) ?_
      refine thenK_n ?_
      refine W.regionS 6 mixed rfl (by kernel_rfl) ?_
      refine AnyZ.eager 0 rfl (by kernel_rfl) (Eag.pure tOk zOk rfl (fun _ _ _ => rfl) rfl rfl) ?_
      refine AnyZ.eager 2 rfl (by kernel_rfl) (Eag.pure tOk zOk rfl (fun _ _ _ => rfl) rfl rfl) ?_
      refine AnyZ.eager 3 rfl (by kernel_rfl) (Eag.pure tOk zOk rfl (fun _ _ _ => rfl) rfl rfl) ?_
      refine AnyZ.two 1 4 (by kernel_rfl) rfl rfl ?_ ?_
      ·skip
       refine OpZ.d ?_
       refine D.pure tOk zOk rfl rfl rfl rfl ?_
       refine WD.nil ?_
       refine AnyZ.one 4 (by kernel_rfl) rfl ?_
       refine OpZ.hcall rfl rfl rfl rfl ((ih lv (nxR 119 (signR (condR m (nxR 40 [] q).2).2) p).2 hl (Gd.go f2_0 (rch_nx 119 (signR (condR m (nxR 40 [] q).2).2) p))).frameD [0] [] [] rfl rfl rfl rfl rfl rfl rfl rfl rfl) ?_
       refine AnyZ.one 5 (by kernel_rfl) rfl ?_
       refine OpZ.d ?_
       refine D.slice tOk rfl rfl ?_
       refine WD.nil ?_
       refine AnyZ.nil (by kernel_rfl) ?_
       refine S.append tOk rfl rfl rfl rfl rfl rfl rfl rfl rfl rfl rfl rfl (by show (l.map CT.d).length + 1 ≤ _; rw [List.length_map]; omega) rfl (ct_snoc l _) rfl ?_
       refine S.pure tOk zOk rfl rfl rfl ?_
       refine S.store tOk rfl rfl rfl rfl rfl rfl rfl rfl ?_
       refine blockK_n ?_
       refine thenK_n ?_
       refine W.region ?_
       refine S.pure tOk zOk rfl rfl rfl ?_
       refine S.pureE tOk zOk rfl rfl (inc_i64 (by omega)) rfl ?_
       refine S.pure tOk zOk rfl rfl rfl ?_
       refine loop_n (2 * (u - 1)) (by omega) ⟨u - 1, c + 1, _, _, _, kx, ((f2_0.go (rch_nx 119 _ p)).go (rch_condR m _)), (by rw [show decide (((c + 1 : Nat) : Int) > 0) = true from by simp <;> omega]; exact mr_go f2_1 hu0 cl cn), (fun h => more_less f2_0.1 hlt h), (by constructor <;> (try simp) <;> omega), f2_4, rfl, _, _, _, _, rfl, rfl, rfl, rfl, rfl, rfl, rfl, trivial⟩
      ·skip
       refine OpZ.hcall rfl rfl rfl rfl ((ih lv (nxR 119 (signR (condR m (nxR 40 [] q).2).2) p).2 hl (Gd.go f2_0 (rch_nx 119 (signR (condR m (nxR 40 [] q).2).2) p))).frameD [0] [] [] rfl rfl rfl rfl rfl rfl rfl rfl rfl) ?_
       refine AnyZ.two 1 5 (by kernel_rfl) rfl rfl ?_ ?_
       ·skip
        refine OpZ.d ?_
        refine D.pure tOk zOk rfl rfl rfl rfl ?_
        refine WD.nil ?_
        refine AnyZ.one 5 (by kernel_rfl) rfl ?_
        refine OpZ.d ?_
        refine D.slice tOk rfl rfl ?_
        refine WD.nil ?_
        refine AnyZ.nil (by kernel_rfl) ?_
        refine S.append tOk rfl rfl rfl rfl rfl rfl rfl rfl rfl rfl rfl rfl (by show (l.map CT.d).length + 1 ≤ _; rw [List.length_map]; omega) rfl (ct_snoc l _) rfl ?_
        refine S.pure tOk zOk rfl rfl rfl ?_
        refine S.store tOk rfl rfl rfl rfl rfl rfl rfl rfl ?_
        refine blockK_n ?_
        refine thenK_n ?_
        refine W.region ?_
        refine S.pure tOk zOk rfl rfl rfl ?_
        refine S.pureE tOk zOk rfl rfl (inc_i64 (by omega)) rfl ?_
        refine S.pure tOk zOk rfl rfl rfl ?_
        refine loop_n (2 * (u - 1)) (by omega) ⟨u - 1, c + 1, _, _, _, kx, ((f2_0.go (rch_nx 119 _ p)).go (rch_condR m _)), (by rw [show decide (((c + 1 : Nat) : Int) > 0) = true from by simp <;> omega]; exact mr_go f2_1 hu0 cl cn), (fun h => more_less f2_0.1 hlt h), (by constructor <;> (try simp) <;> omega), f2_4, rfl, _, _, _, _, rfl, rfl, rfl, rfl, rfl, rfl, rfl, trivial⟩
       ·skip
        refine OpZ.d ?_
        refine D.slice tOk rfl rfl ?_
        refine WD.nil ?_
        refine AnyZ.one 1 (by kernel_rfl) rfl ?_
        refine OpZ.d ?_
        refine D.pure tOk zOk rfl rfl rfl rfl ?_
        refine WD.nil ?_
        refine AnyZ.nil (by kernel_rfl) ?_
        refine S.append tOk rfl rfl rfl rfl rfl rfl rfl rfl rfl rfl rfl rfl (by show (l.map CT.d).length + 1 ≤ _; rw [List.length_map]; omega) rfl (ct_snoc l _) rfl ?_
        refine S.pure tOk zOk rfl rfl rfl ?_
        refine S.store tOk rfl rfl rfl rfl rfl rfl rfl rfl ?_
        refine blockK_n ?_
        refine thenK_n ?_
        refine W.region ?_
        refine S.pure tOk zOk rfl rfl rfl ?_
        refine S.pureE tOk zOk rfl rfl (inc_i64 (by omega)) rfl ?_
        refine S.pure tOk zOk rfl rfl rfl ?_
        refine loop_n (2 * (u - 1)) (by omega) ⟨u - 1, c + 1, _, _, _, kx, ((f2_0.go (rch_nx 119 _ p)).go (rch_condR m _)), (by rw [show decide (((c + 1 : Nat) : Int) > 0) = true from by simp <;> omega]; exact mr_go f2_1 hu0 cl cn), (fun h => more_less f2_0.1 hlt h), (by constructor <;> (try simp) <;> omega), f2_4, rfl, _, _, _, _, rfl, rfl, rfl, rfl, rfl, rfl, rfl, trivial⟩
    ·skip
     have hM := mr_end f2_1 c9
     refine W.exit ?_
     refine thenK_e ?_
     refine thenK_e ?_
     refine blockK_x ?_
     refine thenK_n ?_
     refine W.seq ?_
     refine W.freezeB (ri := 0) (q := ⟨_, _, _, _, _⟩) 3 3 rfl rfl rfl rfl ?_
     refine W.region ?_
     refine S.pure tOk zOk rfl rfl rfl ?_
     refine S.store tOk rfl rfl rfl rfl rfl rfl rfl rfl ?_
     refine thenK_n ?_
     refine W.ret ?_
     exact ⟨_, rfl, rfl, (by rw [gr_long c2 c5, longr_eq hM]; exact (by rw [← f2_4]; exact LeG.of_force rfl (long_v _ _))), (by rw [gr_long c2 c5, longr_eq hM]; rfl), rfl, rfl⟩
   ·skip
    have hsx : (signR (condR m (nxR 40 [] q).2).2) = wAnd := sr_0 c8
    have hg3 := hgr.2
    refine W.skip ?_
    refine thenK_n ?_
    refine W.seq ?_
    refine W.region ?_
    refine S.pure tOk zOk rfl rfl rfl ?_
    refine S.pure tOk zOk rfl rfl rfl ?_
    refine S.lookup tOk keyStr (fD := fun v : Int => DV.one (.int .i64 v)) 0 [(wAnd, 7), (wOr, 8)] rfl rfl rfl rfl rfl rfl rfl rfl rfl rfl (show mapV false _ _ = V.one (.d (.int .i64 7)) from rfl) ?_
    refine S.pure tOk zOk rfl rfl rfl ?_
    refine S.sliceOwn (xs := [(condR m (nxR 40 [] q).2).1].map CT.d) tOk rfl rfl rfl (Eq.trans rfl (ct_some (condR m (nxR 40 [] q).2).1)) rfl rfl ?_
    refine S.pure tOk zOk rfl rfl rfl ?_
    refine S.alloc tOk rfl rfl rfl rfl ?_
    refine S.store tOk rfl rfl rfl rfl rfl rfl rfl rfl ?_
    refine thenK_n ?_
    refine W.seq ?_
    refine W.seq ?_
    refine W.region ?_
    refine S.pure tOk zOk rfl rfl rfl ?_
    refine thenK_n ?_
    refine W.block ?_
    refine W.loop (fun k st => ∃ u : Nat, ∃ c : Nat, ∃ l : List CT, ∃ p : PS, ∃ v : Nat, ∃ kx : Int, Gd s p.T ∧ moreR (condR m) (signR (condR m (nxR 40 [] q).2).2) u (decide ((c : Int) > 0)) l p = moreR (condR m) (signR (condR m (nxR 40 [] q).2).2) ((condR m (nxR 40 [] q).2).2.T.length + 1) false [(condR m (nxR 40 [] q).2).1] (condR m (nxR 40 [] q).2).2 ∧ (decide (p.w < 0) = true → p.T.length < u) ∧ (c + u ≤ 6000 ∧ l.length + u ≤ 6010) ∧ kx = kindT (signR (condR m (nxR 40 [] q).2).2) ∧ k = 2 * u ∧ ∃ t b2 r2 m2, st = ⟨t, [[.d (.vec 4 ((refL s (p).T).map wdD)), .d (.int .i64 (p).w)], [.d (.int .i64 0), .d (.str []), .d (.str []), .d .nilsl], ctC (condR m (nxR 40 [] q).2).1, [.d (.int .i64 kx), .d (.str []), .d (.str []), .row 0 v 0 (l.map CT.d).length]] ++ b2, [some ⟨true, v, 4, 24, l.map CT.d⟩] ++ r2, [mapOf D.str (fun v : Int => DV.one (.int .i64 v)) [(wAnd, 7), (wOr, 8)]] ++ m2⟩ ∧ holdsL t [(0, .one (.ptr 0 0)), (1, .one (.d (.int .i64 (lv : Int)))), (4, .one (.ptr 1 0)), (10, .one (.d (.str (signR (condR m (nxR 40 [] q).2).2)))), (11, .one (.ptr 3 0)), (12, .one (.d (.int .i64 (c : Int))))]) (2 * ((condR m (nxR 40 [] q).2).2.T.length + 1)) ⟨((condR m (nxR 40 [] q).2).2.T.length + 1), 0, [(condR m (nxR 40 [] q).2).1], _, 0, _, hgr, rfl, (fun _ => Nat.lt_succ_self _), (by constructor <;> (try simp) <;> omega), (by rw [hsx]; rfl), rfl, _, _, _, _, rfl, rfl, rfl, rfl, (by rw [hsx]; rfl), rfl, rfl, trivial⟩ ?_
    rintro k2 _ ⟨u, c, l, p, v, kx, f2_0, f2_1, f2_2, f2_3, f2_4, rfl, t2, bb2, rr2, mm2, rfl, hh2⟩
    refine W.keepR _ _ _ _ _ _ _ hh2 rfl ?_
    refine W.seq ?_
    refine W.seq ?_
    refine W.region ?_
    refine S.pure tOk zOk rfl rfl rfl ?_
    refine S.pure tOk zOk rfl rfl rfl ?_
    refine S.pure tOk zOk rfl rfl rfl ?_
    refine S.pure tOk zOk rfl rfl rfl ?_
    refine S.pure tOk zOk rfl rfl rfl ?_
    refine thenK_n ?_
    refine W.cond rfl (fun c11 => ?_) (fun c11 => ?_)
    ·skip
     have hlt : p.T.length < u := f2_2 c11
     have hu0 : 0 < u := by omega
     have cl := c11
     refine W.skip ?_
     refine thenK_n ?_
     refine W.seq ?_
     refine W.block ?_
     refine W.seq ?_
     refine W.seq ?_
     refine W.region ?_
     refine S.pure tOk zOk rfl rfl rfl ?_
     refine S.pure tOk zOk rfl rfl rfl ?_
     refine S.pure tOk zOk rfl rfl rfl ?_
     refine S.pureG tOk zOk rfl rfl tg (fun _ => rfl) rfl ?_
     refine S.hcallG rfl rfl rfl rfl tg rfl (fun _ => (pc_isR s p f2_0 41 []).frameD [0] [] [] rfl rfl rfl rfl rfl rfl rfl rfl rfl) ?_
     refine S.pickAnd tOk zOk rfl rfl tg ?_
     refine thenK_n ?_
     refine W.cond rfl (fun c12 => ?_) (fun c12 => ?_)
     ·skip
      have hM := mr_close f2_1 hu0 cl c12
      refine W.seq ?_
      refine W.freezeB (ri := 0) (q := ⟨_, _, _, _, _⟩) 3 3 rfl rfl rfl rfl ?_
      refine W.region ?_
      refine S.pure tOk zOk rfl rfl rfl ?_
      refine S.hcallD rfl rfl rfl rfl ((pc_nextR s p f2_0 41 [] (by decide)).frameD [0] [] [] rfl rfl rfl rfl rfl rfl rfl rfl rfl) ?_
      refine thenK_n ?_
      refine W.seq ?_
      refine W.region ?_
      refine S.pure tOk zOk rfl rfl rfl ?_
      refine S.store tOk rfl rfl rfl rfl rfl rfl rfl rfl ?_
      refine thenK_n ?_
      refine W.ret ?_
      refine thenK_r ?_
      refine blockK_r ?_
      refine thenK_r ?_
      refine thenK_r ?_
      refine blockK_r ?_
      refine thenK_r ?_
      exact ⟨_, rfl, rfl, (by rw [gr_long c2 c5, longr_eq hM]; exact (by rw [← f2_4]; exact LeG.of_force rfl (long_v _ _))), (by rw [gr_long c2 c5, longr_eq hM]; rfl), rfl, rfl⟩
     ·skip
      have cn := c12
      refine W.skip ?_
      refine thenK_n ?_
      refine W.seq ?_
      refine W.region ?_
      refine S.pure tOk zOk rfl rfl rfl ?_
      refine S.pure tOk zOk rfl rfl rfl ?_
      refine S.hcallD rfl rfl rfl rfl ((pc_nextR s p f2_0 119 (signR (condR m (nxR 40 [] q).2).2) (by decide)).frameD [0] [] [] rfl rfl rfl rfl rfl rfl rfl rfl rfl) ?_
      refine thenK_n ?_
      refine W.regionS 6 mixed rfl (by kernel_rfl) ?_
      refine AnyZ.eager 0 rfl (by kernel_rfl) (Eag.pure tOk zOk rfl (fun _ _ _ => rfl) rfl rfl) ?_
      refine AnyZ.eager 2 rfl (by kernel_rfl) (Eag.pure tOk zOk rfl (fun _ _ _ => rfl) rfl rfl) ?_
      refine AnyZ.eager 3 rfl (by kernel_rfl) (Eag.pure tOk zOk rfl (fun _ _ _ => rfl) rfl rfl) ?_
      refine AnyZ.two 1 4 (by kernel_rfl) rfl rfl ?_ ?_
      ·skip
       refine OpZ.d ?_
       refine D.pure tOk zOk rfl rfl rfl rfl ?_
       refine WD.nil ?_
       refine AnyZ.one 4 (by kernel_rfl) rfl ?_
       refine OpZ.hcall rfl rfl rfl rfl ((ih lv (nxR 119 (signR (condR m (nxR 40 [] q).2).2) p).2 hl (Gd.go f2_0 (rch_nx 119 (signR (condR m (nxR 40 [] q).2).2) p))).frameD [0] [] [] rfl rfl rfl rfl rfl rfl rfl rfl rfl) ?_
       refine AnyZ.one 5 (by kernel_rfl) rfl ?_
       refine OpZ.d ?_
       refine D.slice tOk rfl rfl ?_
       refine WD.nil ?_
       refine AnyZ.nil (by kernel_rfl) ?_
       refine S.append tOk rfl rfl rfl rfl rfl rfl rfl rfl rfl rfl rfl rfl (by show (l.map CT.d).length + 1 ≤ _; rw [List.length_map]; omega) rfl (ct_snoc l _) rfl ?_
       refine S.pure tOk zOk rfl rfl rfl ?_
       refine S.store tOk rfl rfl rfl rfl rfl rfl rfl rfl ?_
       refine blockK_n ?_
       refine thenK_n ?_
       refine W.region ?_
       refine S.pure tOk zOk rfl rfl rfl ?_
       refine S.pureE tOk zOk rfl rfl (inc_i64 (by omega)) rfl ?_
       refine S.pure tOk zOk rfl rfl rfl ?_
       refine loop_n (2 * (u - 1)) (by omega) ⟨u - 1, c + 1, _, _, _, kx, ((f2_0.go (rch_nx 119 _ p)).go (rch_condR m _)), (by rw [show decide (((c + 1 : Nat) : Int) > 0) = true from by simp <;> omega]; exact mr_go f2_1 hu0 cl cn), (fun h => more_less f2_0.1 hlt h), (by constructor <;> (try simp) <;> omega), f2_4, rfl, _, _, _, _, rfl, rfl, rfl, rfl, rfl, rfl, rfl, trivial⟩
      ·skip
       refine OpZ.hcall rfl rfl rfl rfl ((ih lv (nxR 119 (signR (condR m (nxR 40 [] q).2).2) p).2 hl (Gd.go f2_0 (rch_nx 119 (signR (condR m (nxR 40 [] q).2).2) p))).frameD [0] [] [] rfl rfl rfl rfl rfl rfl rfl rfl rfl) ?_
       refine AnyZ.two 1 5 (by kernel_rfl) rfl rfl ?_ ?_
       ·skip
        refine OpZ.d ?_
        refine D.pure tOk zOk rfl rfl rfl rfl ?_
        refine WD.nil ?_
        refine AnyZ.one 5 (by kernel_rfl) rfl ?_
        refine OpZ.d ?_
        refine D.slice tOk rfl rfl ?_
        refine WD.nil ?_
        refine AnyZ.nil (by kernel_rfl) ?_
        refine S.append tOk rfl rfl rfl rfl rfl rfl rfl rfl rfl rfl rfl rfl (by show (l.map CT.d).length + 1 ≤ _; rw [List.length_map]; omega) rfl (ct_snoc l _) rfl ?_
        refine S.pure tOk zOk rfl rfl rfl ?_
        refine S.store tOk rfl rfl rfl rfl rfl rfl rfl rfl ?_
        refine blockK_n ?_
        refine thenK_n ?_
        refine W.region ?_
        refine S.pure tOk zOk rfl rfl rfl ?_
        refine S.pureE tOk zOk rfl rfl (inc_i64 (by omega)) rfl ?_
        refine S.pure tOk zOk rfl rfl rfl ?_
        refine loop_n (2 * (u - 1)) (by omega) ⟨u - 1, c + 1, _, _, _, kx, ((f2_0.go (rch_nx 119 _ p)).go (rch_condR m _)), (by rw [show decide (((c + 1 : Nat) : Int) > 0) = true from by simp <;> omega]; exact mr_go f2_1 hu0 cl cn), (fun h => more_less f2_0.1 hlt h), (by constructor <;> (try simp) <;> omega), f2_4, rfl, _, _, _, _, rfl, rfl, rfl, rfl, rfl, rfl, rfl, trivial⟩
       ·skip
        refine OpZ.d ?_
        refine D.slice tOk rfl rfl ?_
        refine WD.nil ?_
        refine AnyZ.one 1 (by kernel_rfl) rfl ?_
        refine OpZ.d ?_
        refine D.pure tOk zOk rfl rfl rfl rfl ?_
        refine WD.nil ?_
        refine AnyZ.nil (by kernel_rfl) ?_
        refine S.append tOk rfl rfl rfl rfl rfl rfl rfl rfl rfl rfl rfl rfl (by show (l.map CT.d).length + 1 ≤ _; rw [List.length_map]; omega) rfl (ct_snoc l _) rfl ?_
        refine S.pure tOk zOk rfl rfl rfl ?_
        refine S.store tOk rfl rfl rfl rfl rfl rfl rfl rfl ?_
        refine blockK_n ?_
        refine thenK_n ?_
        refine W.region ?_
        refine S.pure tOk zOk rfl rfl rfl ?_
        refine S.pureE tOk zOk rfl rfl (inc_i64 (by omega)) rfl ?_
        refine S.pure tOk zOk rfl rfl rfl ?_
        refine loop_n (2 * (u - 1)) (by omega) ⟨u - 1, c + 1, _, _, _, kx, ((f2_0.go (rch_nx 119 _ p)).go (rch_condR m _)), (by rw [show decide (((c + 1 : Nat) : Int) > 0) = true from by simp <;> omega]; exact mr_go f2_1 hu0 cl cn), (fun h => more_less f2_0.1 hlt h), (by constructor <;> (try simp) <;> omega), f2_4, rfl, _, _, _, _, rfl, rfl, rfl, rfl, rfl, rfl, rfl, trivial⟩
    ·skip
     have hM := mr_end f2_1 c11
     refine W.exit ?_
     refine thenK_e ?_
     refine thenK_e ?_
     refine blockK_x ?_
     refine thenK_n ?_
     refine W.seq ?_
     refine W.freezeB (ri := 0) (q := ⟨_, _, _, _, _⟩) 3 3 rfl rfl rfl rfl ?_
     refine W.region ?_
     refine S.pure tOk zOk rfl rfl rfl ?_
     refine S.store tOk rfl rfl rfl rfl rfl rfl rfl rfl ?_
     refine thenK_n ?_
     refine W.ret ?_
     exact ⟨_, rfl, rfl, (by rw [gr_long c2 c5, longr_eq hM]; exact (by rw [← f2_4]; exact LeG.of_force rfl (long_v _ _))), (by rw [gr_long c2 c5, longr_eq hM]; rfl), rfl, rfl⟩
theorem pc_condRC (s : List UInt8) : ∀ n, CondRC s n
  | 0 => fun lv q hl hg => pc_condsR s 0 (fun m h => by omega) (fun m h => by omega) lv q hl hg
  | n + 1 => by
    have ih : ∀ m, n + 1 = m + 1 → CondRC s m := fun m h => by
      obtain rfl : n = m := by omega
      exact pc_condRC s n
    exact fun lv q hl hg => pc_condsR s (n + 1) ih (fun m h lv q hl hg => pc_groupR s m (ih m h) lv q hl hg) lv q hl hg
end Go.Proofs.YtjibdoagpegniaaGreatDoor

set_option linter.unusedVariables false
set_option linter.unusedSimpArgs false
set_option maxRecDepth 100000
set_option maxHeartbeats 4000000
namespace Go.Proofs.YtjibdoagpegniaaGreatDoor
open Go
open Go.RowKit
attribute [local irreducible] rangeB rangeR pathB nameB valueB visit visits checkP
theorem part_r {x : Int} {n v : List UInt8} {m : Int} : partP x n v m = if decide (x < 1) || decide (x > 8) then 1
  else if (((!(decide (x ≥ 2) && decide (x ≤ 5)) && !(n == [])) || (!((decide (x ≥ 2) && decide (x ≤ 5)) && x != 4) && !(v == []))) || (!decide (x ≥ 6) && decide (m > 0))) || (x == 6 && m != 1) then 2
  else if !(decide (x ≥ 2) && decide (x ≤ 5)) then 0
  else if !(if (x == 3 || x == 4) then pathB n else nameB n) then 5
  else if !valueB v then 2
  else if x == 5 then (rangeR v).2 else 0 := by rw [← range_eq]; rfl
theorem value_nil : valueB [] = true := by unfold valueB; simp
theorem pc_partError (x : Int) (n v : List UInt8) (xs : List (List D)) (hn : n.length < 4294967000) (hv : v.length < 4294967000) :
  PureCall Tryz.prog J 34 [.agg [.d (.int .i64 x), .d (.str n), .d (.str v), .d (.vec 4 xs)]] (.one (.d (.int .i64 (partP x n v (xs.length : Int))))) := by
 refine PureCall.of_body tOk (fn := Tryz.f34) Tryz.func34 (by kernel_rfl) rfl (Nat.le_of_ble_eq_true rfl) (fun E => ?_)
 refine W.seq ?_
 refine W.region ?_
 refine S.box rfl rfl rfl rfl ?_
 refine S.pure tOk zOk rfl rfl rfl ?_
 refine thenK_n ?_
 refine W.seq ?_
 refine W.region ?_
 refine S.pure tOk zOk rfl rfl rfl ?_
 refine S.pure tOk zOk rfl rfl rfl ?_
 refine S.pure tOk zOk rfl rfl rfl ?_
 refine thenK_n ?_
 refine W.seq ?_
 refine W.seq ?_
 refine W.region ?_
 refine S.pure tOk zOk rfl rfl rfl ?_
 refine S.pure tOk zOk rfl rfl rfl ?_
 refine thenK_n ?_
 refine W.block ?_
 refine W.seq ?_
 refine W.region ?_
 refine S.pure tOk zOk rfl rfl rfl ?_
 refine S.pure tOk zOk rfl rfl rfl ?_
 refine thenK_n ?_
 refine W.cond rfl (fun c1 => ?_) (fun c1 => ?_)
 ·skip
  obtain rfl : x = 1 := by simpa using c1
  refine W.skip ?_
  refine blockK_n ?_
  refine thenK_n ?_
  refine W.seq ?_
  refine W.seq ?_
  refine W.region ?_
  refine S.pure tOk zOk rfl rfl rfl ?_
  refine S.pure tOk zOk rfl rfl rfl ?_
  refine S.pure tOk zOk rfl rfl rfl ?_
  refine S.pureG tOk zOk rfl rfl tg (fun _ => rfl) rfl ?_
  refine S.pureG tOk zOk rfl rfl tg (fun _ => rfl) rfl ?_
  refine S.pureG tOk zOk rfl rfl tg (fun _ => rfl) rfl ?_
  refine S.pickAnd tOk zOk rfl rfl tg ?_
  refine S.pure tOk zOk rfl rfl rfl ?_
  refine S.pureG tOk zOk rfl rfl tg (fun _ => rfl) rfl ?_
  refine S.pureG tOk zOk rfl rfl tg (fun _ => rfl) rfl ?_
  refine S.pureG tOk zOk rfl rfl tg (fun _ => rfl) rfl ?_
  refine S.pureG tOk zOk rfl rfl tg (fun _ => rfl) rfl ?_
  refine S.pureG tOk zOk rfl rfl tg (fun _ => rfl) rfl ?_
  refine S.pureG tOk zOk rfl rfl tg (fun _ => rfl) rfl ?_
  refine S.pickAndG tOk zOk rfl rfl rfl tg tg ?_
  refine S.pickOr tOk zOk rfl rfl tg ?_
  refine S.pure tOk zOk rfl rfl rfl ?_
  refine S.pureG tOk zOk rfl rfl tg (fun _ => rfl) rfl ?_
  refine S.pureG tOk zOk rfl rfl tg (fun _ => rfl) rfl ?_
  refine S.pureG tOk zOk rfl rfl tg (fun _ => rfl) rfl ?_
  refine S.pureG tOk zOk rfl rfl tg (fun _ => rfl) rfl ?_
  refine S.pureG tOk zOk rfl rfl tg (fun _ => rfl) rfl ?_
  refine S.pureG tOk zOk rfl rfl tg (fun _ => rfl) rfl ?_
  refine S.pureG tOk zOk rfl rfl tg (fun _ => rfl) rfl ?_
  refine S.pickAndG tOk zOk rfl rfl rfl tg tg ?_
  refine S.pickOr tOk zOk rfl rfl tg ?_
  refine S.pure tOk zOk rfl rfl rfl ?_
  refine S.pureG tOk zOk rfl rfl tg (fun _ => rfl) rfl ?_
  refine S.pureG tOk zOk rfl rfl tg (fun _ => rfl) rfl ?_
  refine S.pureG tOk zOk rfl rfl tg (fun _ => rfl) rfl ?_
  refine S.pureG tOk zOk rfl rfl tg (fun _ => rfl) rfl ?_
  refine S.pureG tOk zOk rfl rfl tg (fun _ => rfl) rfl ?_
  refine S.pureG tOk zOk rfl rfl tg (fun _ => rfl) rfl ?_
  refine S.pureG tOk zOk rfl rfl tg (fun _ => rfl) rfl ?_
  refine S.pureG tOk zOk rfl rfl tg (fun _ => rfl) rfl ?_
  refine S.pickAndG tOk zOk rfl rfl rfl tg tg ?_
  refine S.pickOr tOk zOk rfl rfl tg ?_
  refine thenK_n ?_
  refine W.cond rfl (fun c2 => ?_) (fun c2 => ?_)
  ·skip
   refine W.seq ?_
   refine W.region ?_
   refine S.pure tOk zOk rfl rfl rfl ?_
   refine thenK_n ?_
   refine W.ret ?_
   refine thenK_r ?_
   exact ⟨_, rfl, rfl, LeV.of_force rfl (by clear E; rw [part_r]; first | (simp_all [value_nil]; done) | (simp only [beq_eq_false_iff_ne, ne_eq] at *; rw [if_pos (by simp; omega)]; rfl))⟩
  ·skip
   refine W.skip ?_
   refine thenK_n ?_
   refine W.seq ?_
   refine W.region ?_
   refine S.pure tOk zOk rfl rfl rfl ?_
   refine S.pure tOk zOk rfl rfl rfl ?_
   refine S.pure tOk zOk rfl rfl rfl ?_
   refine S.pure tOk zOk rfl rfl rfl ?_
   refine S.pureG tOk zOk rfl rfl tg (fun _ => rfl) rfl ?_
   refine S.pureG tOk zOk rfl rfl tg (fun _ => rfl) rfl ?_
   refine S.pureG tOk zOk rfl rfl tg (fun _ => rfl) rfl ?_
   refine S.pickOr tOk zOk rfl rfl tg ?_
   refine S.pure tOk zOk rfl rfl rfl ?_
   refine thenK_n ?_
   refine W.seq ?_
   refine W.seq ?_
   refine W.region ?_
   refine S.pure tOk zOk rfl rfl rfl ?_
   refine S.pure tOk zOk rfl rfl rfl ?_
   refine S.pureG tOk zOk rfl rfl tg (fun _ => rfl) rfl ?_
   refine S.pureG tOk zOk rfl rfl tg (fun _ => rfl) rfl ?_
   refine S.callG rfl rfl rfl rfl tg rfl rfl (fun h => pc_outref2_NameOf n (by omega)) ?_
   refine S.pureG tOk zOk rfl rfl tg (fun _ => rfl) rfl ?_
   refine S.pickAnd tOk zOk rfl rfl tg ?_
   refine S.pure tOk zOk rfl rfl rfl ?_
   refine S.pureG tOk zOk rfl rfl tg (fun _ => rfl) rfl ?_
   refine S.pureG tOk zOk rfl rfl tg (fun _ => rfl) rfl ?_
   refine S.pureG tOk zOk rfl rfl tg (fun _ => rfl) rfl ?_
   refine S.pureG tOk zOk rfl rfl tg (fun _ => rfl) rfl ?_
   refine S.pickAndG tOk zOk rfl rfl rfl tg tg ?_
   refine S.pureG tOk zOk rfl rfl tg (fun _ => rfl) rfl ?_
   refine S.pureG tOk zOk rfl rfl tg (fun _ => rfl) rfl ?_
   refine S.pureG tOk zOk rfl rfl tg (fun _ => rfl) rfl ?_
   refine S.callG rfl rfl rfl rfl tg rfl rfl (fun h => pc_outref2_PathOf n (by omega)) ?_
   refine S.pureG tOk zOk rfl rfl tg (fun _ => rfl) rfl ?_
   refine S.pickAndG tOk zOk rfl rfl rfl tg tg ?_
   refine S.pickOr tOk zOk rfl rfl tg ?_
   refine thenK_n ?_
   refine W.cond rfl (fun c3 => ?_) (fun c3 => ?_)
   ·skip
    refine W.seq ?_
    refine W.region ?_
    refine S.pure tOk zOk rfl rfl rfl ?_
    refine thenK_n ?_
    refine W.ret ?_
    refine thenK_r ?_
    exact ⟨_, rfl, rfl, LeV.of_force rfl (by clear E; rw [part_r]; first | (simp_all [value_nil]; done) | (simp only [beq_eq_false_iff_ne, ne_eq] at *; rw [if_pos (by simp; omega)]; rfl))⟩
   ·skip
    refine W.skip ?_
    refine thenK_n ?_
    refine W.seq ?_
    refine W.seq ?_
    refine W.region ?_
    refine S.pure tOk zOk rfl rfl rfl ?_
    refine S.pure tOk zOk rfl rfl rfl ?_
    refine S.call rfl rfl rfl rfl rfl (pc_outref2_ValueOf v (by omega)) ?_
    refine S.pure tOk zOk rfl rfl rfl ?_
    refine thenK_n ?_
    refine W.cond rfl (fun c4 => ?_) (fun c4 => ?_)
    ·skip
     refine W.seq ?_
     refine W.region ?_
     refine S.pure tOk zOk rfl rfl rfl ?_
     refine thenK_n ?_
     refine W.ret ?_
     refine thenK_r ?_
     exact ⟨_, rfl, rfl, LeV.of_force rfl (by clear E; rw [part_r]; first | (simp_all [value_nil]; done) | (simp only [beq_eq_false_iff_ne, ne_eq] at *; rw [if_pos (by simp; omega)]; rfl))⟩
    ·skip
     refine W.skip ?_
     refine thenK_n ?_
     refine W.seq ?_
     refine W.seq ?_
     refine W.region ?_
     refine S.pure tOk zOk rfl rfl rfl ?_
     refine S.pure tOk zOk rfl rfl rfl ?_
     refine S.pure tOk zOk rfl rfl rfl ?_
     refine thenK_n ?_
     refine W.cond rfl (fun c5 => ?_) (fun c5 => ?_)
     ·skip
      refine W.seq ?_
      refine W.region ?_
      refine S.pure tOk zOk rfl rfl rfl ?_
      refine S.pure tOk zOk rfl rfl rfl ?_
      refine S.call rfl rfl rfl rfl rfl (pc_outref2_ReadRange v hv) ?_
      refine S.pure tOk zOk rfl rfl rfl ?_
      refine S.pure tOk zOk rfl rfl rfl ?_
      refine S.pure tOk zOk rfl rfl rfl ?_
      refine S.alloc tOk rfl rfl rfl rfl ?_
      refine S.store tOk rfl rfl rfl rfl rfl rfl rfl rfl ?_
      refine S.pure tOk zOk rfl rfl rfl ?_
      refine thenK_n ?_
      refine W.seq ?_
      refine W.region ?_
      refine S.pure tOk zOk rfl rfl rfl ?_
      refine S.pure tOk zOk rfl rfl rfl ?_
      refine thenK_n ?_
      refine W.ret ?_
      refine thenK_r ?_
      exact ⟨_, rfl, rfl, LeV.of_force rfl (by clear E; rw [part_r]; first | (simp_all [value_nil]; done) | (simp only [beq_eq_false_iff_ne, ne_eq] at *; rw [if_pos (by simp; omega)]; rfl))⟩
     ·skip
      refine W.skip ?_
      refine thenK_n ?_
      refine W.seq ?_
      refine W.region ?_
      refine S.pure tOk zOk rfl rfl rfl ?_
      refine thenK_n ?_
      refine W.ret ?_
      exact ⟨_, rfl, rfl, LeV.of_force rfl (by clear E; rw [part_r]; first | (simp_all [value_nil]; done) | (simp only [beq_eq_false_iff_ne, ne_eq] at *; rw [if_pos (by simp; omega)]; rfl))⟩
 ·skip
  refine W.seq ?_
  refine W.seq ?_
  refine W.region ?_
  refine S.pure tOk zOk rfl rfl rfl ?_
  refine S.pure tOk zOk rfl rfl rfl ?_
  refine thenK_n ?_
  refine W.cond rfl (fun c6 => ?_) (fun c6 => ?_)
  ·skip
   obtain rfl : x = 2 := by simpa using c6
   refine W.skip ?_
   refine thenK_n ?_
   refine W.cond rfl (fun c7 => ?_) (fun c7 => ?_)
   ·skip
    refine W.region ?_
    refine S.pure tOk zOk rfl rfl rfl ?_
    refine S.pure tOk zOk rfl rfl rfl ?_
    refine blockK_n ?_
    refine thenK_n ?_
    refine W.seq ?_
    refine W.seq ?_
    refine W.region ?_
    refine S.pure tOk zOk rfl rfl rfl ?_
    refine S.pure tOk zOk rfl rfl rfl ?_
    refine S.pure tOk zOk rfl rfl rfl ?_
    refine S.pureG tOk zOk rfl rfl tg (fun _ => rfl) rfl ?_
    refine S.pureG tOk zOk rfl rfl tg (fun _ => rfl) rfl ?_
    refine S.pureG tOk zOk rfl rfl tg (fun _ => rfl) rfl ?_
    refine S.pickAnd tOk zOk rfl rfl tg ?_
    refine S.pure tOk zOk rfl rfl rfl ?_
    refine S.pureG tOk zOk rfl rfl tg (fun _ => rfl) rfl ?_
    refine S.pureG tOk zOk rfl rfl tg (fun _ => rfl) rfl ?_
    refine S.pureG tOk zOk rfl rfl tg (fun _ => rfl) rfl ?_
    refine S.pureG tOk zOk rfl rfl tg (fun _ => rfl) rfl ?_
    refine S.pureG tOk zOk rfl rfl tg (fun _ => rfl) rfl ?_
    refine S.pureG tOk zOk rfl rfl tg (fun _ => rfl) rfl ?_
    refine S.pickAndG tOk zOk rfl rfl rfl tg tg ?_
    refine S.pickOr tOk zOk rfl rfl tg ?_
    refine S.pure tOk zOk rfl rfl rfl ?_
    refine S.pureG tOk zOk rfl rfl tg (fun _ => rfl) rfl ?_
    refine S.pureG tOk zOk rfl rfl tg (fun _ => rfl) rfl ?_
    refine S.pureG tOk zOk rfl rfl tg (fun _ => rfl) rfl ?_
    refine S.pureG tOk zOk rfl rfl tg (fun _ => rfl) rfl ?_
    refine S.pureG tOk zOk rfl rfl tg (fun _ => rfl) rfl ?_
    refine S.pureG tOk zOk rfl rfl tg (fun _ => rfl) rfl ?_
    refine S.pureG tOk zOk rfl rfl tg (fun _ => rfl) rfl ?_
    refine S.pickAndG tOk zOk rfl rfl rfl tg tg ?_
    refine S.pickOr tOk zOk rfl rfl tg ?_
    refine S.pure tOk zOk rfl rfl rfl ?_
    refine S.pureG tOk zOk rfl rfl tg (fun _ => rfl) rfl ?_
    refine S.pureG tOk zOk rfl rfl tg (fun _ => rfl) rfl ?_
    refine S.pureG tOk zOk rfl rfl tg (fun _ => rfl) rfl ?_
    refine S.pureG tOk zOk rfl rfl tg (fun _ => rfl) rfl ?_
    refine S.pureG tOk zOk rfl rfl tg (fun _ => rfl) rfl ?_
    refine S.pureG tOk zOk rfl rfl tg (fun _ => rfl) rfl ?_
    refine S.pureG tOk zOk rfl rfl tg (fun _ => rfl) rfl ?_
    refine S.pureG tOk zOk rfl rfl tg (fun _ => rfl) rfl ?_
    refine S.pickAndG tOk zOk rfl rfl rfl tg tg ?_
    refine S.pickOr tOk zOk rfl rfl tg ?_
    refine thenK_n ?_
    refine W.cond rfl (fun c8 => ?_) (fun c8 => ?_)
    ·skip
     refine W.seq ?_
     refine W.region ?_
     refine S.pure tOk zOk rfl rfl rfl ?_
     refine thenK_n ?_
     refine W.ret ?_
     refine thenK_r ?_
     exact ⟨_, rfl, rfl, LeV.of_force rfl (by clear E; rw [part_r]; first | (simp_all [value_nil]; done) | (simp only [beq_eq_false_iff_ne, ne_eq] at *; rw [if_pos (by simp; omega)]; rfl))⟩
    ·skip
     refine W.skip ?_
     refine thenK_n ?_
     refine W.seq ?_
     refine W.region ?_
     refine S.pure tOk zOk rfl rfl rfl ?_
     refine S.pure tOk zOk rfl rfl rfl ?_
     refine S.pure tOk zOk rfl rfl rfl ?_
     refine S.pure tOk zOk rfl rfl rfl ?_
     refine S.pureG tOk zOk rfl rfl tg (fun _ => rfl) rfl ?_
     refine S.pureG tOk zOk rfl rfl tg (fun _ => rfl) rfl ?_
     refine S.pureG tOk zOk rfl rfl tg (fun _ => rfl) rfl ?_
     refine S.pickOr tOk zOk rfl rfl tg ?_
     refine S.pure tOk zOk rfl rfl rfl ?_
     refine thenK_n ?_
     refine W.seq ?_
     refine W.seq ?_
     refine W.region ?_
     refine S.pure tOk zOk rfl rfl rfl ?_
     refine S.pure tOk zOk rfl rfl rfl ?_
     refine S.pureG tOk zOk rfl rfl tg (fun _ => rfl) rfl ?_
     refine S.pureG tOk zOk rfl rfl tg (fun _ => rfl) rfl ?_
     refine S.callG rfl rfl rfl rfl tg rfl rfl (fun h => pc_outref2_NameOf n (by omega)) ?_
     refine S.pureG tOk zOk rfl rfl tg (fun _ => rfl) rfl ?_
     refine S.pickAnd tOk zOk rfl rfl tg ?_
     refine S.pure tOk zOk rfl rfl rfl ?_
     refine S.pureG tOk zOk rfl rfl tg (fun _ => rfl) rfl ?_
     refine S.pureG tOk zOk rfl rfl tg (fun _ => rfl) rfl ?_
     refine S.pureG tOk zOk rfl rfl tg (fun _ => rfl) rfl ?_
     refine S.pureG tOk zOk rfl rfl tg (fun _ => rfl) rfl ?_
     refine S.pickAndG tOk zOk rfl rfl rfl tg tg ?_
     refine S.pureG tOk zOk rfl rfl tg (fun _ => rfl) rfl ?_
     refine S.pureG tOk zOk rfl rfl tg (fun _ => rfl) rfl ?_
     refine S.pureG tOk zOk rfl rfl tg (fun _ => rfl) rfl ?_
     refine S.callG rfl rfl rfl rfl tg rfl rfl (fun h => pc_outref2_PathOf n (by omega)) ?_
     refine S.pureG tOk zOk rfl rfl tg (fun _ => rfl) rfl ?_
     refine S.pickAndG tOk zOk rfl rfl rfl tg tg ?_
     refine S.pickOr tOk zOk rfl rfl tg ?_
     refine thenK_n ?_
     refine W.cond rfl (fun c9 => ?_) (fun c9 => ?_)
     ·skip
      refine W.seq ?_
      refine W.region ?_
      refine S.pure tOk zOk rfl rfl rfl ?_
      refine thenK_n ?_
      refine W.ret ?_
      refine thenK_r ?_
      exact ⟨_, rfl, rfl, LeV.of_force rfl (by clear E; rw [part_r]; first | (simp_all [value_nil]; done) | (simp only [beq_eq_false_iff_ne, ne_eq] at *; rw [if_pos (by simp; omega)]; rfl))⟩
     ·skip
      refine W.skip ?_
      refine thenK_n ?_
      refine W.seq ?_
      refine W.seq ?_
      refine W.region ?_
      refine S.pure tOk zOk rfl rfl rfl ?_
      refine S.pure tOk zOk rfl rfl rfl ?_
      refine S.call rfl rfl rfl rfl rfl (pc_outref2_ValueOf v (by omega)) ?_
      refine S.pure tOk zOk rfl rfl rfl ?_
      refine thenK_n ?_
      refine W.cond rfl (fun c10 => ?_) (fun c10 => ?_)
      ·skip
       refine W.seq ?_
       refine W.region ?_
       refine S.pure tOk zOk rfl rfl rfl ?_
       refine thenK_n ?_
       refine W.ret ?_
       refine thenK_r ?_
       exact ⟨_, rfl, rfl, LeV.of_force rfl (by clear E; rw [part_r]; first | (simp_all [value_nil]; done) | (simp only [beq_eq_false_iff_ne, ne_eq] at *; rw [if_pos (by simp; omega)]; rfl))⟩
      ·skip
       refine W.skip ?_
       refine thenK_n ?_
       refine W.seq ?_
       refine W.seq ?_
       refine W.region ?_
       refine S.pure tOk zOk rfl rfl rfl ?_
       refine S.pure tOk zOk rfl rfl rfl ?_
       refine S.pure tOk zOk rfl rfl rfl ?_
       refine thenK_n ?_
       refine W.cond rfl (fun c11 => ?_) (fun c11 => ?_)
       ·skip
        refine W.seq ?_
        refine W.region ?_
        refine S.pure tOk zOk rfl rfl rfl ?_
        refine S.pure tOk zOk rfl rfl rfl ?_
        refine S.call rfl rfl rfl rfl rfl (pc_outref2_ReadRange v hv) ?_
        refine S.pure tOk zOk rfl rfl rfl ?_
        refine S.pure tOk zOk rfl rfl rfl ?_
        refine S.pure tOk zOk rfl rfl rfl ?_
        refine S.alloc tOk rfl rfl rfl rfl ?_
        refine S.store tOk rfl rfl rfl rfl rfl rfl rfl rfl ?_
        refine S.pure tOk zOk rfl rfl rfl ?_
        refine thenK_n ?_
        refine W.seq ?_
        refine W.region ?_
        refine S.pure tOk zOk rfl rfl rfl ?_
        refine S.pure tOk zOk rfl rfl rfl ?_
        refine thenK_n ?_
        refine W.ret ?_
        refine thenK_r ?_
        exact ⟨_, rfl, rfl, LeV.of_force rfl (by clear E; rw [part_r]; first | (simp_all [value_nil]; done) | (simp only [beq_eq_false_iff_ne, ne_eq] at *; rw [if_pos (by simp; omega)]; rfl))⟩
       ·skip
        refine W.skip ?_
        refine thenK_n ?_
        refine W.seq ?_
        refine W.region ?_
        refine S.pure tOk zOk rfl rfl rfl ?_
        refine thenK_n ?_
        refine W.ret ?_
        exact ⟨_, rfl, rfl, LeV.of_force rfl (by clear E; rw [part_r]; first | (simp_all [value_nil]; done) | (simp only [beq_eq_false_iff_ne, ne_eq] at *; rw [if_pos (by simp; omega)]; rfl))⟩
   · exact absurd c7 (by rw [c6]; simp)
  ·skip
   refine W.seq ?_
   refine W.region ?_
   refine S.pure tOk zOk rfl rfl rfl ?_
   refine S.pure tOk zOk rfl rfl rfl ?_
   refine thenK_n ?_
   refine W.cond rfl (fun c12 => ?_) (fun c12 => ?_)
   ·skip
    obtain rfl : x = 3 := by simpa using c12
    refine W.skip ?_
    refine thenK_n ?_
    refine W.cond rfl (fun c13 => ?_) (fun c13 => ?_)
    ·skip
     refine W.region ?_
     refine S.pure tOk zOk rfl rfl rfl ?_
     refine S.pure tOk zOk rfl rfl rfl ?_
     refine blockK_n ?_
     refine thenK_n ?_
     refine W.seq ?_
     refine W.seq ?_
     refine W.region ?_
     refine S.pure tOk zOk rfl rfl rfl ?_
     refine S.pure tOk zOk rfl rfl rfl ?_
     refine S.pure tOk zOk rfl rfl rfl ?_
     refine S.pureG tOk zOk rfl rfl tg (fun _ => rfl) rfl ?_
     refine S.pureG tOk zOk rfl rfl tg (fun _ => rfl) rfl ?_
     refine S.pureG tOk zOk rfl rfl tg (fun _ => rfl) rfl ?_
     refine S.pickAnd tOk zOk rfl rfl tg ?_
     refine S.pure tOk zOk rfl rfl rfl ?_
     refine S.pureG tOk zOk rfl rfl tg (fun _ => rfl) rfl ?_
     refine S.pureG tOk zOk rfl rfl tg (fun _ => rfl) rfl ?_
     refine S.pureG tOk zOk rfl rfl tg (fun _ => rfl) rfl ?_
     refine S.pureG tOk zOk rfl rfl tg (fun _ => rfl) rfl ?_
     refine S.pureG tOk zOk rfl rfl tg (fun _ => rfl) rfl ?_
     refine S.pureG tOk zOk rfl rfl tg (fun _ => rfl) rfl ?_
     refine S.pickAndG tOk zOk rfl rfl rfl tg tg ?_
     refine S.pickOr tOk zOk rfl rfl tg ?_
     refine S.pure tOk zOk rfl rfl rfl ?_
     refine S.pureG tOk zOk rfl rfl tg (fun _ => rfl) rfl ?_
     refine S.pureG tOk zOk rfl rfl tg (fun _ => rfl) rfl ?_
     refine S.pureG tOk zOk rfl rfl tg (fun _ => rfl) rfl ?_
     refine S.pureG tOk zOk rfl rfl tg (fun _ => rfl) rfl ?_
     refine S.pureG tOk zOk rfl rfl tg (fun _ => rfl) rfl ?_
     refine S.pureG tOk zOk rfl rfl tg (fun _ => rfl) rfl ?_
     refine S.pureG tOk zOk rfl rfl tg (fun _ => rfl) rfl ?_
     refine S.pickAndG tOk zOk rfl rfl rfl tg tg ?_
     refine S.pickOr tOk zOk rfl rfl tg ?_
     refine S.pure tOk zOk rfl rfl rfl ?_
     refine S.pureG tOk zOk rfl rfl tg (fun _ => rfl) rfl ?_
     refine S.pureG tOk zOk rfl rfl tg (fun _ => rfl) rfl ?_
     refine S.pureG tOk zOk rfl rfl tg (fun _ => rfl) rfl ?_
     refine S.pureG tOk zOk rfl rfl tg (fun _ => rfl) rfl ?_
     refine S.pureG tOk zOk rfl rfl tg (fun _ => rfl) rfl ?_
     refine S.pureG tOk zOk rfl rfl tg (fun _ => rfl) rfl ?_
     refine S.pureG tOk zOk rfl rfl tg (fun _ => rfl) rfl ?_
     refine S.pureG tOk zOk rfl rfl tg (fun _ => rfl) rfl ?_
     refine S.pickAndG tOk zOk rfl rfl rfl tg tg ?_
     refine S.pickOr tOk zOk rfl rfl tg ?_
     refine thenK_n ?_
     refine W.cond rfl (fun c14 => ?_) (fun c14 => ?_)
     ·skip
      refine W.seq ?_
      refine W.region ?_
      refine S.pure tOk zOk rfl rfl rfl ?_
      refine thenK_n ?_
      refine W.ret ?_
      refine thenK_r ?_
      exact ⟨_, rfl, rfl, LeV.of_force rfl (by clear E; rw [part_r]; first | (simp_all [value_nil]; done) | (simp only [beq_eq_false_iff_ne, ne_eq] at *; rw [if_pos (by simp; omega)]; rfl))⟩
     ·skip
      refine W.skip ?_
      refine thenK_n ?_
      refine W.seq ?_
      refine W.region ?_
      refine S.pure tOk zOk rfl rfl rfl ?_
      refine S.pure tOk zOk rfl rfl rfl ?_
      refine S.pure tOk zOk rfl rfl rfl ?_
      refine S.pure tOk zOk rfl rfl rfl ?_
      refine S.pureG tOk zOk rfl rfl tg (fun _ => rfl) rfl ?_
      refine S.pureG tOk zOk rfl rfl tg (fun _ => rfl) rfl ?_
      refine S.pureG tOk zOk rfl rfl tg (fun _ => rfl) rfl ?_
      refine S.pickOr tOk zOk rfl rfl tg ?_
      refine S.pure tOk zOk rfl rfl rfl ?_
      refine thenK_n ?_
      refine W.seq ?_
      refine W.seq ?_
      refine W.region ?_
      refine S.pure tOk zOk rfl rfl rfl ?_
      refine S.pure tOk zOk rfl rfl rfl ?_
      refine S.pureG tOk zOk rfl rfl tg (fun _ => rfl) rfl ?_
      refine S.pureG tOk zOk rfl rfl tg (fun _ => rfl) rfl ?_
      refine S.callG rfl rfl rfl rfl tg rfl rfl (fun h => pc_outref2_NameOf n (by omega)) ?_
      refine S.pureG tOk zOk rfl rfl tg (fun _ => rfl) rfl ?_
      refine S.pickAnd tOk zOk rfl rfl tg ?_
      refine S.pure tOk zOk rfl rfl rfl ?_
      refine S.pureG tOk zOk rfl rfl tg (fun _ => rfl) rfl ?_
      refine S.pureG tOk zOk rfl rfl tg (fun _ => rfl) rfl ?_
      refine S.pureG tOk zOk rfl rfl tg (fun _ => rfl) rfl ?_
      refine S.pureG tOk zOk rfl rfl tg (fun _ => rfl) rfl ?_
      refine S.pickAndG tOk zOk rfl rfl rfl tg tg ?_
      refine S.pureG tOk zOk rfl rfl tg (fun _ => rfl) rfl ?_
      refine S.pureG tOk zOk rfl rfl tg (fun _ => rfl) rfl ?_
      refine S.pureG tOk zOk rfl rfl tg (fun _ => rfl) rfl ?_
      refine S.callG rfl rfl rfl rfl tg rfl rfl (fun h => pc_outref2_PathOf n (by omega)) ?_
      refine S.pureG tOk zOk rfl rfl tg (fun _ => rfl) rfl ?_
      refine S.pickAndG tOk zOk rfl rfl rfl tg tg ?_
      refine S.pickOr tOk zOk rfl rfl tg ?_
      refine thenK_n ?_
      refine W.cond rfl (fun c15 => ?_) (fun c15 => ?_)
      ·skip
       refine W.seq ?_
       refine W.region ?_
       refine S.pure tOk zOk rfl rfl rfl ?_
       refine thenK_n ?_
       refine W.ret ?_
       refine thenK_r ?_
       exact ⟨_, rfl, rfl, LeV.of_force rfl (by clear E; rw [part_r]; first | (simp_all [value_nil]; done) | (simp only [beq_eq_false_iff_ne, ne_eq] at *; rw [if_pos (by simp; omega)]; rfl))⟩
      ·skip
       refine W.skip ?_
       refine thenK_n ?_
       refine W.seq ?_
       refine W.seq ?_
       refine W.region ?_
       refine S.pure tOk zOk rfl rfl rfl ?_
       refine S.pure tOk zOk rfl rfl rfl ?_
       refine S.call rfl rfl rfl rfl rfl (pc_outref2_ValueOf v (by omega)) ?_
       refine S.pure tOk zOk rfl rfl rfl ?_
       refine thenK_n ?_
       refine W.cond rfl (fun c16 => ?_) (fun c16 => ?_)
       ·skip
        refine W.seq ?_
        refine W.region ?_
        refine S.pure tOk zOk rfl rfl rfl ?_
        refine thenK_n ?_
        refine W.ret ?_
        refine thenK_r ?_
        exact ⟨_, rfl, rfl, LeV.of_force rfl (by clear E; rw [part_r]; first | (simp_all [value_nil]; done) | (simp only [beq_eq_false_iff_ne, ne_eq] at *; rw [if_pos (by simp; omega)]; rfl))⟩
       ·skip
        refine W.skip ?_
        refine thenK_n ?_
        refine W.seq ?_
        refine W.seq ?_
        refine W.region ?_
        refine S.pure tOk zOk rfl rfl rfl ?_
        refine S.pure tOk zOk rfl rfl rfl ?_
        refine S.pure tOk zOk rfl rfl rfl ?_
        refine thenK_n ?_
        refine W.cond rfl (fun c17 => ?_) (fun c17 => ?_)
        ·skip
         refine W.seq ?_
         refine W.region ?_
         refine S.pure tOk zOk rfl rfl rfl ?_
         refine S.pure tOk zOk rfl rfl rfl ?_
         refine S.call rfl rfl rfl rfl rfl (pc_outref2_ReadRange v hv) ?_
         refine S.pure tOk zOk rfl rfl rfl ?_
         refine S.pure tOk zOk rfl rfl rfl ?_
         refine S.pure tOk zOk rfl rfl rfl ?_
         refine S.alloc tOk rfl rfl rfl rfl ?_
         refine S.store tOk rfl rfl rfl rfl rfl rfl rfl rfl ?_
         refine S.pure tOk zOk rfl rfl rfl ?_
         refine thenK_n ?_
         refine W.seq ?_
         refine W.region ?_
         refine S.pure tOk zOk rfl rfl rfl ?_
         refine S.pure tOk zOk rfl rfl rfl ?_
         refine thenK_n ?_
         refine W.ret ?_
         refine thenK_r ?_
         exact ⟨_, rfl, rfl, LeV.of_force rfl (by clear E; rw [part_r]; first | (simp_all [value_nil]; done) | (simp only [beq_eq_false_iff_ne, ne_eq] at *; rw [if_pos (by simp; omega)]; rfl))⟩
        ·skip
         refine W.skip ?_
         refine thenK_n ?_
         refine W.seq ?_
         refine W.region ?_
         refine S.pure tOk zOk rfl rfl rfl ?_
         refine thenK_n ?_
         refine W.ret ?_
         exact ⟨_, rfl, rfl, LeV.of_force rfl (by clear E; rw [part_r]; first | (simp_all [value_nil]; done) | (simp only [beq_eq_false_iff_ne, ne_eq] at *; rw [if_pos (by simp; omega)]; rfl))⟩
    · exact absurd c13 (by rw [c12]; simp)
   ·skip
    refine W.region ?_
    refine S.pure tOk zOk rfl rfl rfl ?_
    refine S.pure tOk zOk rfl rfl rfl ?_
    refine thenK_n ?_
    refine W.cond rfl (fun c18 => ?_) (fun c18 => ?_)
    ·skip
     obtain rfl : x = 5 := by simpa using c18
     refine W.region ?_
     refine S.pure tOk zOk rfl rfl rfl ?_
     refine S.pure tOk zOk rfl rfl rfl ?_
     refine blockK_n ?_
     refine thenK_n ?_
     refine W.seq ?_
     refine W.seq ?_
     refine W.region ?_
     refine S.pure tOk zOk rfl rfl rfl ?_
     refine S.pure tOk zOk rfl rfl rfl ?_
     refine S.pure tOk zOk rfl rfl rfl ?_
     refine S.pureG tOk zOk rfl rfl tg (fun _ => rfl) rfl ?_
     refine S.pureG tOk zOk rfl rfl tg (fun _ => rfl) rfl ?_
     refine S.pureG tOk zOk rfl rfl tg (fun _ => rfl) rfl ?_
     refine S.pickAnd tOk zOk rfl rfl tg ?_
     refine S.pure tOk zOk rfl rfl rfl ?_
     refine S.pureG tOk zOk rfl rfl tg (fun _ => rfl) rfl ?_
     refine S.pureG tOk zOk rfl rfl tg (fun _ => rfl) rfl ?_
     refine S.pureG tOk zOk rfl rfl tg (fun _ => rfl) rfl ?_
     refine S.pureG tOk zOk rfl rfl tg (fun _ => rfl) rfl ?_
     refine S.pureG tOk zOk rfl rfl tg (fun _ => rfl) rfl ?_
     refine S.pureG tOk zOk rfl rfl tg (fun _ => rfl) rfl ?_
     refine S.pickAndG tOk zOk rfl rfl rfl tg tg ?_
     refine S.pickOr tOk zOk rfl rfl tg ?_
     refine S.pure tOk zOk rfl rfl rfl ?_
     refine S.pureG tOk zOk rfl rfl tg (fun _ => rfl) rfl ?_
     refine S.pureG tOk zOk rfl rfl tg (fun _ => rfl) rfl ?_
     refine S.pureG tOk zOk rfl rfl tg (fun _ => rfl) rfl ?_
     refine S.pureG tOk zOk rfl rfl tg (fun _ => rfl) rfl ?_
     refine S.pureG tOk zOk rfl rfl tg (fun _ => rfl) rfl ?_
     refine S.pureG tOk zOk rfl rfl tg (fun _ => rfl) rfl ?_
     refine S.pureG tOk zOk rfl rfl tg (fun _ => rfl) rfl ?_
     refine S.pickAndG tOk zOk rfl rfl rfl tg tg ?_
     refine S.pickOr tOk zOk rfl rfl tg ?_
     refine S.pure tOk zOk rfl rfl rfl ?_
     refine S.pureG tOk zOk rfl rfl tg (fun _ => rfl) rfl ?_
     refine S.pureG tOk zOk rfl rfl tg (fun _ => rfl) rfl ?_
     refine S.pureG tOk zOk rfl rfl tg (fun _ => rfl) rfl ?_
     refine S.pureG tOk zOk rfl rfl tg (fun _ => rfl) rfl ?_
     refine S.pureG tOk zOk rfl rfl tg (fun _ => rfl) rfl ?_
     refine S.pureG tOk zOk rfl rfl tg (fun _ => rfl) rfl ?_
     refine S.pureG tOk zOk rfl rfl tg (fun _ => rfl) rfl ?_
     refine S.pureG tOk zOk rfl rfl tg (fun _ => rfl) rfl ?_
     refine S.pickAndG tOk zOk rfl rfl rfl tg tg ?_
     refine S.pickOr tOk zOk rfl rfl tg ?_
     refine thenK_n ?_
     refine W.cond rfl (fun c19 => ?_) (fun c19 => ?_)
     ·skip
      refine W.seq ?_
      refine W.region ?_
      refine S.pure tOk zOk rfl rfl rfl ?_
      refine thenK_n ?_
      refine W.ret ?_
      refine thenK_r ?_
      exact ⟨_, rfl, rfl, LeV.of_force rfl (by clear E; rw [part_r]; first | (simp_all [value_nil]; done) | (simp only [beq_eq_false_iff_ne, ne_eq] at *; rw [if_pos (by simp; omega)]; rfl))⟩
     ·skip
      refine W.skip ?_
      refine thenK_n ?_
      refine W.seq ?_
      refine W.region ?_
      refine S.pure tOk zOk rfl rfl rfl ?_
      refine S.pure tOk zOk rfl rfl rfl ?_
      refine S.pure tOk zOk rfl rfl rfl ?_
      refine S.pure tOk zOk rfl rfl rfl ?_
      refine S.pureG tOk zOk rfl rfl tg (fun _ => rfl) rfl ?_
      refine S.pureG tOk zOk rfl rfl tg (fun _ => rfl) rfl ?_
      refine S.pureG tOk zOk rfl rfl tg (fun _ => rfl) rfl ?_
      refine S.pickOr tOk zOk rfl rfl tg ?_
      refine S.pure tOk zOk rfl rfl rfl ?_
      refine thenK_n ?_
      refine W.seq ?_
      refine W.seq ?_
      refine W.region ?_
      refine S.pure tOk zOk rfl rfl rfl ?_
      refine S.pure tOk zOk rfl rfl rfl ?_
      refine S.pureG tOk zOk rfl rfl tg (fun _ => rfl) rfl ?_
      refine S.pureG tOk zOk rfl rfl tg (fun _ => rfl) rfl ?_
      refine S.callG rfl rfl rfl rfl tg rfl rfl (fun h => pc_outref2_NameOf n (by omega)) ?_
      refine S.pureG tOk zOk rfl rfl tg (fun _ => rfl) rfl ?_
      refine S.pickAnd tOk zOk rfl rfl tg ?_
      refine S.pure tOk zOk rfl rfl rfl ?_
      refine S.pureG tOk zOk rfl rfl tg (fun _ => rfl) rfl ?_
      refine S.pureG tOk zOk rfl rfl tg (fun _ => rfl) rfl ?_
      refine S.pureG tOk zOk rfl rfl tg (fun _ => rfl) rfl ?_
      refine S.pureG tOk zOk rfl rfl tg (fun _ => rfl) rfl ?_
      refine S.pickAndG tOk zOk rfl rfl rfl tg tg ?_
      refine S.pureG tOk zOk rfl rfl tg (fun _ => rfl) rfl ?_
      refine S.pureG tOk zOk rfl rfl tg (fun _ => rfl) rfl ?_
      refine S.pureG tOk zOk rfl rfl tg (fun _ => rfl) rfl ?_
      refine S.callG rfl rfl rfl rfl tg rfl rfl (fun h => pc_outref2_PathOf n (by omega)) ?_
      refine S.pureG tOk zOk rfl rfl tg (fun _ => rfl) rfl ?_
      refine S.pickAndG tOk zOk rfl rfl rfl tg tg ?_
      refine S.pickOr tOk zOk rfl rfl tg ?_
      refine thenK_n ?_
      refine W.cond rfl (fun c20 => ?_) (fun c20 => ?_)
      ·skip
       refine W.seq ?_
       refine W.region ?_
       refine S.pure tOk zOk rfl rfl rfl ?_
       refine thenK_n ?_
       refine W.ret ?_
       refine thenK_r ?_
       exact ⟨_, rfl, rfl, LeV.of_force rfl (by clear E; rw [part_r]; first | (simp_all [value_nil]; done) | (simp only [beq_eq_false_iff_ne, ne_eq] at *; rw [if_pos (by simp; omega)]; rfl))⟩
      ·skip
       refine W.skip ?_
       refine thenK_n ?_
       refine W.seq ?_
       refine W.seq ?_
       refine W.region ?_
       refine S.pure tOk zOk rfl rfl rfl ?_
       refine S.pure tOk zOk rfl rfl rfl ?_
       refine S.call rfl rfl rfl rfl rfl (pc_outref2_ValueOf v (by omega)) ?_
       refine S.pure tOk zOk rfl rfl rfl ?_
       refine thenK_n ?_
       refine W.cond rfl (fun c21 => ?_) (fun c21 => ?_)
       ·skip
        refine W.seq ?_
        refine W.region ?_
        refine S.pure tOk zOk rfl rfl rfl ?_
        refine thenK_n ?_
        refine W.ret ?_
        refine thenK_r ?_
        exact ⟨_, rfl, rfl, LeV.of_force rfl (by clear E; rw [part_r]; first | (simp_all [value_nil]; done) | (simp only [beq_eq_false_iff_ne, ne_eq] at *; rw [if_pos (by simp; omega)]; rfl))⟩
       ·skip
        refine W.skip ?_
        refine thenK_n ?_
        refine W.seq ?_
        refine W.seq ?_
        refine W.region ?_
        refine S.pure tOk zOk rfl rfl rfl ?_
        refine S.pure tOk zOk rfl rfl rfl ?_
        refine S.pure tOk zOk rfl rfl rfl ?_
        refine thenK_n ?_
        refine W.cond rfl (fun c22 => ?_) (fun c22 => ?_)
        ·skip
         refine W.seq ?_
         refine W.region ?_
         refine S.pure tOk zOk rfl rfl rfl ?_
         refine S.pure tOk zOk rfl rfl rfl ?_
         refine S.call rfl rfl rfl rfl rfl (pc_outref2_ReadRange v hv) ?_
         refine S.pure tOk zOk rfl rfl rfl ?_
         refine S.pure tOk zOk rfl rfl rfl ?_
         refine S.pure tOk zOk rfl rfl rfl ?_
         refine S.alloc tOk rfl rfl rfl rfl ?_
         refine S.store tOk rfl rfl rfl rfl rfl rfl rfl rfl ?_
         refine S.pure tOk zOk rfl rfl rfl ?_
         refine thenK_n ?_
         refine W.seq ?_
         refine W.region ?_
         refine S.pure tOk zOk rfl rfl rfl ?_
         refine S.pure tOk zOk rfl rfl rfl ?_
         refine thenK_n ?_
         refine W.ret ?_
         refine thenK_r ?_
         exact ⟨_, rfl, rfl, LeV.of_force rfl (by clear E; rw [part_r]; first | (simp_all [value_nil]; done) | (simp only [beq_eq_false_iff_ne, ne_eq] at *; rw [if_pos (by simp; omega)]; rfl))⟩
        ·skip
         refine W.skip ?_
         refine thenK_n ?_
         refine W.seq ?_
         refine W.region ?_
         refine S.pure tOk zOk rfl rfl rfl ?_
         refine thenK_n ?_
         refine W.ret ?_
         exact ⟨_, rfl, rfl, LeV.of_force rfl (by clear E; rw [part_r]; first | (simp_all [value_nil]; done) | (simp only [beq_eq_false_iff_ne, ne_eq] at *; rw [if_pos (by simp; omega)]; rfl))⟩
    ·skip
     refine W.seq ?_
     refine W.region ?_
     refine S.pure tOk zOk rfl rfl rfl ?_
     refine S.pure tOk zOk rfl rfl rfl ?_
     refine thenK_n ?_
     refine W.cond rfl (fun c23 => ?_) (fun c23 => ?_)
     ·skip
      obtain rfl : x = 4 := by simpa using c23
      refine W.region ?_
      refine S.pure tOk zOk rfl rfl rfl ?_
      refine blockK_n ?_
      refine thenK_n ?_
      refine W.seq ?_
      refine W.seq ?_
      refine W.region ?_
      refine S.pure tOk zOk rfl rfl rfl ?_
      refine S.pure tOk zOk rfl rfl rfl ?_
      refine S.pure tOk zOk rfl rfl rfl ?_
      refine S.pureG tOk zOk rfl rfl tg (fun _ => rfl) rfl ?_
      refine S.pureG tOk zOk rfl rfl tg (fun _ => rfl) rfl ?_
      refine S.pureG tOk zOk rfl rfl tg (fun _ => rfl) rfl ?_
      refine S.pickAnd tOk zOk rfl rfl tg ?_
      refine S.pure tOk zOk rfl rfl rfl ?_
      refine S.pureG tOk zOk rfl rfl tg (fun _ => rfl) rfl ?_
      refine S.pureG tOk zOk rfl rfl tg (fun _ => rfl) rfl ?_
      refine S.pureG tOk zOk rfl rfl tg (fun _ => rfl) rfl ?_
      refine S.pureG tOk zOk rfl rfl tg (fun _ => rfl) rfl ?_
      refine S.pureG tOk zOk rfl rfl tg (fun _ => rfl) rfl ?_
      refine S.pureG tOk zOk rfl rfl tg (fun _ => rfl) rfl ?_
      refine S.pickAndG tOk zOk rfl rfl rfl tg tg ?_
      refine S.pickOr tOk zOk rfl rfl tg ?_
      refine S.pure tOk zOk rfl rfl rfl ?_
      refine S.pureG tOk zOk rfl rfl tg (fun _ => rfl) rfl ?_
      refine S.pureG tOk zOk rfl rfl tg (fun _ => rfl) rfl ?_
      refine S.pureG tOk zOk rfl rfl tg (fun _ => rfl) rfl ?_
      refine S.pureG tOk zOk rfl rfl tg (fun _ => rfl) rfl ?_
      refine S.pureG tOk zOk rfl rfl tg (fun _ => rfl) rfl ?_
      refine S.pureG tOk zOk rfl rfl tg (fun _ => rfl) rfl ?_
      refine S.pureG tOk zOk rfl rfl tg (fun _ => rfl) rfl ?_
      refine S.pickAndG tOk zOk rfl rfl rfl tg tg ?_
      refine S.pickOr tOk zOk rfl rfl tg ?_
      refine S.pure tOk zOk rfl rfl rfl ?_
      refine S.pureG tOk zOk rfl rfl tg (fun _ => rfl) rfl ?_
      refine S.pureG tOk zOk rfl rfl tg (fun _ => rfl) rfl ?_
      refine S.pureG tOk zOk rfl rfl tg (fun _ => rfl) rfl ?_
      refine S.pureG tOk zOk rfl rfl tg (fun _ => rfl) rfl ?_
      refine S.pureG tOk zOk rfl rfl tg (fun _ => rfl) rfl ?_
      refine S.pureG tOk zOk rfl rfl tg (fun _ => rfl) rfl ?_
      refine S.pureG tOk zOk rfl rfl tg (fun _ => rfl) rfl ?_
      refine S.pureG tOk zOk rfl rfl tg (fun _ => rfl) rfl ?_
      refine S.pickAndG tOk zOk rfl rfl rfl tg tg ?_
      refine S.pickOr tOk zOk rfl rfl tg ?_
      refine thenK_n ?_
      refine W.cond rfl (fun c24 => ?_) (fun c24 => ?_)
      ·skip
       refine W.seq ?_
       refine W.region ?_
       refine S.pure tOk zOk rfl rfl rfl ?_
       refine thenK_n ?_
       refine W.ret ?_
       refine thenK_r ?_
       exact ⟨_, rfl, rfl, LeV.of_force rfl (by clear E; rw [part_r]; first | (simp_all [value_nil]; done) | (simp only [beq_eq_false_iff_ne, ne_eq] at *; rw [if_pos (by simp; omega)]; rfl))⟩
      ·skip
       refine W.skip ?_
       refine thenK_n ?_
       refine W.seq ?_
       refine W.region ?_
       refine S.pure tOk zOk rfl rfl rfl ?_
       refine S.pure tOk zOk rfl rfl rfl ?_
       refine S.pure tOk zOk rfl rfl rfl ?_
       refine S.pure tOk zOk rfl rfl rfl ?_
       refine S.pureG tOk zOk rfl rfl tg (fun _ => rfl) rfl ?_
       refine S.pureG tOk zOk rfl rfl tg (fun _ => rfl) rfl ?_
       refine S.pureG tOk zOk rfl rfl tg (fun _ => rfl) rfl ?_
       refine S.pickOr tOk zOk rfl rfl tg ?_
       refine S.pure tOk zOk rfl rfl rfl ?_
       refine thenK_n ?_
       refine W.seq ?_
       refine W.seq ?_
       refine W.region ?_
       refine S.pure tOk zOk rfl rfl rfl ?_
       refine S.pure tOk zOk rfl rfl rfl ?_
       refine S.pureG tOk zOk rfl rfl tg (fun _ => rfl) rfl ?_
       refine S.pureG tOk zOk rfl rfl tg (fun _ => rfl) rfl ?_
       refine S.callG rfl rfl rfl rfl tg rfl rfl (fun h => pc_outref2_NameOf n (by omega)) ?_
       refine S.pureG tOk zOk rfl rfl tg (fun _ => rfl) rfl ?_
       refine S.pickAnd tOk zOk rfl rfl tg ?_
       refine S.pure tOk zOk rfl rfl rfl ?_
       refine S.pureG tOk zOk rfl rfl tg (fun _ => rfl) rfl ?_
       refine S.pureG tOk zOk rfl rfl tg (fun _ => rfl) rfl ?_
       refine S.pureG tOk zOk rfl rfl tg (fun _ => rfl) rfl ?_
       refine S.pureG tOk zOk rfl rfl tg (fun _ => rfl) rfl ?_
       refine S.pickAndG tOk zOk rfl rfl rfl tg tg ?_
       refine S.pureG tOk zOk rfl rfl tg (fun _ => rfl) rfl ?_
       refine S.pureG tOk zOk rfl rfl tg (fun _ => rfl) rfl ?_
       refine S.pureG tOk zOk rfl rfl tg (fun _ => rfl) rfl ?_
       refine S.callG rfl rfl rfl rfl tg rfl rfl (fun h => pc_outref2_PathOf n (by omega)) ?_
       refine S.pureG tOk zOk rfl rfl tg (fun _ => rfl) rfl ?_
       refine S.pickAndG tOk zOk rfl rfl rfl tg tg ?_
       refine S.pickOr tOk zOk rfl rfl tg ?_
       refine thenK_n ?_
       refine W.cond rfl (fun c25 => ?_) (fun c25 => ?_)
       ·skip
        refine W.seq ?_
        refine W.region ?_
        refine S.pure tOk zOk rfl rfl rfl ?_
        refine thenK_n ?_
        refine W.ret ?_
        refine thenK_r ?_
        exact ⟨_, rfl, rfl, LeV.of_force rfl (by clear E; rw [part_r]; first | (simp_all [value_nil]; done) | (simp only [beq_eq_false_iff_ne, ne_eq] at *; rw [if_pos (by simp; omega)]; rfl))⟩
       ·skip
        refine W.skip ?_
        refine thenK_n ?_
        refine W.seq ?_
        refine W.seq ?_
        refine W.region ?_
        refine S.pure tOk zOk rfl rfl rfl ?_
        refine S.pure tOk zOk rfl rfl rfl ?_
        refine S.call rfl rfl rfl rfl rfl (pc_outref2_ValueOf v (by omega)) ?_
        refine S.pure tOk zOk rfl rfl rfl ?_
        refine thenK_n ?_
        refine W.cond rfl (fun c26 => ?_) (fun c26 => ?_)
        ·skip
         refine W.seq ?_
         refine W.region ?_
         refine S.pure tOk zOk rfl rfl rfl ?_
         refine thenK_n ?_
         refine W.ret ?_
         refine thenK_r ?_
         exact ⟨_, rfl, rfl, LeV.of_force rfl (by clear E; rw [part_r]; first | (simp_all [value_nil]; done) | (simp only [beq_eq_false_iff_ne, ne_eq] at *; rw [if_pos (by simp; omega)]; rfl))⟩
        ·skip
         refine W.skip ?_
         refine thenK_n ?_
         refine W.seq ?_
         refine W.seq ?_
         refine W.region ?_
         refine S.pure tOk zOk rfl rfl rfl ?_
         refine S.pure tOk zOk rfl rfl rfl ?_
         refine S.pure tOk zOk rfl rfl rfl ?_
         refine thenK_n ?_
         refine W.cond rfl (fun c27 => ?_) (fun c27 => ?_)
         ·skip
          refine W.seq ?_
          refine W.region ?_
          refine S.pure tOk zOk rfl rfl rfl ?_
          refine S.pure tOk zOk rfl rfl rfl ?_
          refine S.call rfl rfl rfl rfl rfl (pc_outref2_ReadRange v hv) ?_
          refine S.pure tOk zOk rfl rfl rfl ?_
          refine S.pure tOk zOk rfl rfl rfl ?_
          refine S.pure tOk zOk rfl rfl rfl ?_
          refine S.alloc tOk rfl rfl rfl rfl ?_
          refine S.store tOk rfl rfl rfl rfl rfl rfl rfl rfl ?_
          refine S.pure tOk zOk rfl rfl rfl ?_
          refine thenK_n ?_
          refine W.seq ?_
          refine W.region ?_
          refine S.pure tOk zOk rfl rfl rfl ?_
          refine S.pure tOk zOk rfl rfl rfl ?_
          refine thenK_n ?_
          refine W.ret ?_
          refine thenK_r ?_
          exact ⟨_, rfl, rfl, LeV.of_force rfl (by clear E; rw [part_r]; first | (simp_all [value_nil]; done) | (simp only [beq_eq_false_iff_ne, ne_eq] at *; rw [if_pos (by simp; omega)]; rfl))⟩
         ·skip
          refine W.skip ?_
          refine thenK_n ?_
          refine W.seq ?_
          refine W.region ?_
          refine S.pure tOk zOk rfl rfl rfl ?_
          refine thenK_n ?_
          refine W.ret ?_
          exact ⟨_, rfl, rfl, LeV.of_force rfl (by clear E; rw [part_r]; first | (simp_all [value_nil]; done) | (simp only [beq_eq_false_iff_ne, ne_eq] at *; rw [if_pos (by simp; omega)]; rfl))⟩
     ·skip
      refine W.seq ?_
      refine W.seq ?_
      refine W.region ?_
      refine S.pure tOk zOk rfl rfl rfl ?_
      refine S.pure tOk zOk rfl rfl rfl ?_
      refine thenK_n ?_
      refine W.cond rfl (fun c28 => ?_) (fun c28 => ?_)
      ·skip
       obtain rfl : x = 6 := by simpa using c28
       refine W.skip ?_
       refine thenK_n ?_
       refine W.cond rfl (fun c29 => ?_) (fun c29 => ?_)
       ·skip
        refine W.region ?_
        refine S.pure tOk zOk rfl rfl rfl ?_
        refine blockK_n ?_
        refine thenK_n ?_
        refine W.seq ?_
        refine W.seq ?_
        refine W.region ?_
        refine S.pure tOk zOk rfl rfl rfl ?_
        refine S.pure tOk zOk rfl rfl rfl ?_
        refine S.pure tOk zOk rfl rfl rfl ?_
        refine S.pureG tOk zOk rfl rfl tg (fun _ => rfl) rfl ?_
        refine S.pureG tOk zOk rfl rfl tg (fun _ => rfl) rfl ?_
        refine S.pureG tOk zOk rfl rfl tg (fun _ => rfl) rfl ?_
        refine S.pickAnd tOk zOk rfl rfl tg ?_
        refine S.pure tOk zOk rfl rfl rfl ?_
        refine S.pureG tOk zOk rfl rfl tg (fun _ => rfl) rfl ?_
        refine S.pureG tOk zOk rfl rfl tg (fun _ => rfl) rfl ?_
        refine S.pureG tOk zOk rfl rfl tg (fun _ => rfl) rfl ?_
        refine S.pureG tOk zOk rfl rfl tg (fun _ => rfl) rfl ?_
        refine S.pureG tOk zOk rfl rfl tg (fun _ => rfl) rfl ?_
        refine S.pureG tOk zOk rfl rfl tg (fun _ => rfl) rfl ?_
        refine S.pickAndG tOk zOk rfl rfl rfl tg tg ?_
        refine S.pickOr tOk zOk rfl rfl tg ?_
        refine S.pure tOk zOk rfl rfl rfl ?_
        refine S.pureG tOk zOk rfl rfl tg (fun _ => rfl) rfl ?_
        refine S.pureG tOk zOk rfl rfl tg (fun _ => rfl) rfl ?_
        refine S.pureG tOk zOk rfl rfl tg (fun _ => rfl) rfl ?_
        refine S.pureG tOk zOk rfl rfl tg (fun _ => rfl) rfl ?_
        refine S.pureG tOk zOk rfl rfl tg (fun _ => rfl) rfl ?_
        refine S.pureG tOk zOk rfl rfl tg (fun _ => rfl) rfl ?_
        refine S.pureG tOk zOk rfl rfl tg (fun _ => rfl) rfl ?_
        refine S.pickAndG tOk zOk rfl rfl rfl tg tg ?_
        refine S.pickOr tOk zOk rfl rfl tg ?_
        refine S.pure tOk zOk rfl rfl rfl ?_
        refine S.pureG tOk zOk rfl rfl tg (fun _ => rfl) rfl ?_
        refine S.pureG tOk zOk rfl rfl tg (fun _ => rfl) rfl ?_
        refine S.pureG tOk zOk rfl rfl tg (fun _ => rfl) rfl ?_
        refine S.pureG tOk zOk rfl rfl tg (fun _ => rfl) rfl ?_
        refine S.pureG tOk zOk rfl rfl tg (fun _ => rfl) rfl ?_
        refine S.pureG tOk zOk rfl rfl tg (fun _ => rfl) rfl ?_
        refine S.pureG tOk zOk rfl rfl tg (fun _ => rfl) rfl ?_
        refine S.pureG tOk zOk rfl rfl tg (fun _ => rfl) rfl ?_
        refine S.pickAndG tOk zOk rfl rfl rfl tg tg ?_
        refine S.pickOr tOk zOk rfl rfl tg ?_
        refine thenK_n ?_
        refine W.cond rfl (fun c30 => ?_) (fun c30 => ?_)
        ·skip
         refine W.seq ?_
         refine W.region ?_
         refine S.pure tOk zOk rfl rfl rfl ?_
         refine thenK_n ?_
         refine W.ret ?_
         refine thenK_r ?_
         exact ⟨_, rfl, rfl, LeV.of_force rfl (by clear E; rw [part_r]; first | (simp_all [value_nil]; done) | (simp only [beq_eq_false_iff_ne, ne_eq] at *; rw [if_pos (by simp; omega)]; rfl))⟩
        ·skip
         refine W.skip ?_
         refine thenK_n ?_
         refine W.seq ?_
         refine W.region ?_
         refine S.pure tOk zOk rfl rfl rfl ?_
         refine S.pure tOk zOk rfl rfl rfl ?_
         refine S.pure tOk zOk rfl rfl rfl ?_
         refine S.pure tOk zOk rfl rfl rfl ?_
         refine S.pureG tOk zOk rfl rfl tg (fun _ => rfl) rfl ?_
         refine S.pureG tOk zOk rfl rfl tg (fun _ => rfl) rfl ?_
         refine S.pureG tOk zOk rfl rfl tg (fun _ => rfl) rfl ?_
         refine S.pickOr tOk zOk rfl rfl tg ?_
         refine S.pure tOk zOk rfl rfl rfl ?_
         refine thenK_n ?_
         refine W.seq ?_
         refine W.seq ?_
         refine W.region ?_
         refine S.pure tOk zOk rfl rfl rfl ?_
         refine S.pure tOk zOk rfl rfl rfl ?_
         refine S.pureG tOk zOk rfl rfl tg (fun _ => rfl) rfl ?_
         refine S.pureG tOk zOk rfl rfl tg (fun _ => rfl) rfl ?_
         refine S.callG rfl rfl rfl rfl tg rfl rfl (fun h => pc_outref2_NameOf n (by omega)) ?_
         refine S.pureG tOk zOk rfl rfl tg (fun _ => rfl) rfl ?_
         refine S.pickAnd tOk zOk rfl rfl tg ?_
         refine S.pure tOk zOk rfl rfl rfl ?_
         refine S.pureG tOk zOk rfl rfl tg (fun _ => rfl) rfl ?_
         refine S.pureG tOk zOk rfl rfl tg (fun _ => rfl) rfl ?_
         refine S.pureG tOk zOk rfl rfl tg (fun _ => rfl) rfl ?_
         refine S.pureG tOk zOk rfl rfl tg (fun _ => rfl) rfl ?_
         refine S.pickAndG tOk zOk rfl rfl rfl tg tg ?_
         refine S.pureG tOk zOk rfl rfl tg (fun _ => rfl) rfl ?_
         refine S.pureG tOk zOk rfl rfl tg (fun _ => rfl) rfl ?_
         refine S.pureG tOk zOk rfl rfl tg (fun _ => rfl) rfl ?_
         refine S.callG rfl rfl rfl rfl tg rfl rfl (fun h => pc_outref2_PathOf n (by omega)) ?_
         refine S.pureG tOk zOk rfl rfl tg (fun _ => rfl) rfl ?_
         refine S.pickAndG tOk zOk rfl rfl rfl tg tg ?_
         refine S.pickOr tOk zOk rfl rfl tg ?_
         refine thenK_n ?_
         refine W.cond rfl (fun c31 => ?_) (fun c31 => ?_)
         ·skip
          refine W.seq ?_
          refine W.region ?_
          refine S.pure tOk zOk rfl rfl rfl ?_
          refine thenK_n ?_
          refine W.ret ?_
          refine thenK_r ?_
          exact ⟨_, rfl, rfl, LeV.of_force rfl (by clear E; rw [part_r]; first | (simp_all [value_nil]; done) | (simp only [beq_eq_false_iff_ne, ne_eq] at *; rw [if_pos (by simp; omega)]; rfl))⟩
         ·skip
          refine W.skip ?_
          refine thenK_n ?_
          refine W.seq ?_
          refine W.seq ?_
          refine W.region ?_
          refine S.pure tOk zOk rfl rfl rfl ?_
          refine S.pure tOk zOk rfl rfl rfl ?_
          refine S.call rfl rfl rfl rfl rfl (pc_outref2_ValueOf v (by omega)) ?_
          refine S.pure tOk zOk rfl rfl rfl ?_
          refine thenK_n ?_
          refine W.cond rfl (fun c32 => ?_) (fun c32 => ?_)
          ·skip
           refine W.seq ?_
           refine W.region ?_
           refine S.pure tOk zOk rfl rfl rfl ?_
           refine thenK_n ?_
           refine W.ret ?_
           refine thenK_r ?_
           exact ⟨_, rfl, rfl, LeV.of_force rfl (by clear E; rw [part_r]; first | (simp_all [value_nil]; done) | (simp only [beq_eq_false_iff_ne, ne_eq] at *; rw [if_pos (by simp; omega)]; rfl))⟩
          ·skip
           refine W.skip ?_
           refine thenK_n ?_
           refine W.seq ?_
           refine W.seq ?_
           refine W.region ?_
           refine S.pure tOk zOk rfl rfl rfl ?_
           refine S.pure tOk zOk rfl rfl rfl ?_
           refine S.pure tOk zOk rfl rfl rfl ?_
           refine thenK_n ?_
           refine W.cond rfl (fun c33 => ?_) (fun c33 => ?_)
           ·skip
            refine W.seq ?_
            refine W.region ?_
            refine S.pure tOk zOk rfl rfl rfl ?_
            refine S.pure tOk zOk rfl rfl rfl ?_
            refine S.call rfl rfl rfl rfl rfl (pc_outref2_ReadRange v hv) ?_
            refine S.pure tOk zOk rfl rfl rfl ?_
            refine S.pure tOk zOk rfl rfl rfl ?_
            refine S.pure tOk zOk rfl rfl rfl ?_
            refine S.alloc tOk rfl rfl rfl rfl ?_
            refine S.store tOk rfl rfl rfl rfl rfl rfl rfl rfl ?_
            refine S.pure tOk zOk rfl rfl rfl ?_
            refine thenK_n ?_
            refine W.seq ?_
            refine W.region ?_
            refine S.pure tOk zOk rfl rfl rfl ?_
            refine S.pure tOk zOk rfl rfl rfl ?_
            refine thenK_n ?_
            refine W.ret ?_
            refine thenK_r ?_
            exact ⟨_, rfl, rfl, LeV.of_force rfl (by clear E; rw [part_r]; first | (simp_all [value_nil]; done) | (simp only [beq_eq_false_iff_ne, ne_eq] at *; rw [if_pos (by simp; omega)]; rfl))⟩
           ·skip
            refine W.skip ?_
            refine thenK_n ?_
            refine W.seq ?_
            refine W.region ?_
            refine S.pure tOk zOk rfl rfl rfl ?_
            refine thenK_n ?_
            refine W.ret ?_
            exact ⟨_, rfl, rfl, LeV.of_force rfl (by clear E; rw [part_r]; first | (simp_all [value_nil]; done) | (simp only [beq_eq_false_iff_ne, ne_eq] at *; rw [if_pos (by simp; omega)]; rfl))⟩
       · exact absurd c29 (by rw [c28]; simp)
      ·skip
       refine W.seq ?_
       refine W.region ?_
       refine S.pure tOk zOk rfl rfl rfl ?_
       refine S.pure tOk zOk rfl rfl rfl ?_
       refine thenK_n ?_
       refine W.cond rfl (fun c34 => ?_) (fun c34 => ?_)
       ·skip
        obtain rfl : x = 7 := by simpa using c34
        refine W.skip ?_
        refine thenK_n ?_
        refine W.cond rfl (fun c35 => ?_) (fun c35 => ?_)
        ·skip
         refine W.region ?_
         refine S.pure tOk zOk rfl rfl rfl ?_
         refine blockK_n ?_
         refine thenK_n ?_
         refine W.seq ?_
         refine W.seq ?_
         refine W.region ?_
         refine S.pure tOk zOk rfl rfl rfl ?_
         refine S.pure tOk zOk rfl rfl rfl ?_
         refine S.pure tOk zOk rfl rfl rfl ?_
         refine S.pureG tOk zOk rfl rfl tg (fun _ => rfl) rfl ?_
         refine S.pureG tOk zOk rfl rfl tg (fun _ => rfl) rfl ?_
         refine S.pureG tOk zOk rfl rfl tg (fun _ => rfl) rfl ?_
         refine S.pickAnd tOk zOk rfl rfl tg ?_
         refine S.pure tOk zOk rfl rfl rfl ?_
         refine S.pureG tOk zOk rfl rfl tg (fun _ => rfl) rfl ?_
         refine S.pureG tOk zOk rfl rfl tg (fun _ => rfl) rfl ?_
         refine S.pureG tOk zOk rfl rfl tg (fun _ => rfl) rfl ?_
         refine S.pureG tOk zOk rfl rfl tg (fun _ => rfl) rfl ?_
         refine S.pureG tOk zOk rfl rfl tg (fun _ => rfl) rfl ?_
         refine S.pureG tOk zOk rfl rfl tg (fun _ => rfl) rfl ?_
         refine S.pickAndG tOk zOk rfl rfl rfl tg tg ?_
         refine S.pickOr tOk zOk rfl rfl tg ?_
         refine S.pure tOk zOk rfl rfl rfl ?_
         refine S.pureG tOk zOk rfl rfl tg (fun _ => rfl) rfl ?_
         refine S.pureG tOk zOk rfl rfl tg (fun _ => rfl) rfl ?_
         refine S.pureG tOk zOk rfl rfl tg (fun _ => rfl) rfl ?_
         refine S.pureG tOk zOk rfl rfl tg (fun _ => rfl) rfl ?_
         refine S.pureG tOk zOk rfl rfl tg (fun _ => rfl) rfl ?_
         refine S.pureG tOk zOk rfl rfl tg (fun _ => rfl) rfl ?_
         refine S.pureG tOk zOk rfl rfl tg (fun _ => rfl) rfl ?_
         refine S.pickAndG tOk zOk rfl rfl rfl tg tg ?_
         refine S.pickOr tOk zOk rfl rfl tg ?_
         refine S.pure tOk zOk rfl rfl rfl ?_
         refine S.pureG tOk zOk rfl rfl tg (fun _ => rfl) rfl ?_
         refine S.pureG tOk zOk rfl rfl tg (fun _ => rfl) rfl ?_
         refine S.pureG tOk zOk rfl rfl tg (fun _ => rfl) rfl ?_
         refine S.pureG tOk zOk rfl rfl tg (fun _ => rfl) rfl ?_
         refine S.pureG tOk zOk rfl rfl tg (fun _ => rfl) rfl ?_
         refine S.pureG tOk zOk rfl rfl tg (fun _ => rfl) rfl ?_
         refine S.pureG tOk zOk rfl rfl tg (fun _ => rfl) rfl ?_
         refine S.pureG tOk zOk rfl rfl tg (fun _ => rfl) rfl ?_
         refine S.pickAndG tOk zOk rfl rfl rfl tg tg ?_
         refine S.pickOr tOk zOk rfl rfl tg ?_
         refine thenK_n ?_
         refine W.cond rfl (fun c36 => ?_) (fun c36 => ?_)
         ·skip
          refine W.seq ?_
          refine W.region ?_
          refine S.pure tOk zOk rfl rfl rfl ?_
          refine thenK_n ?_
          refine W.ret ?_
          refine thenK_r ?_
          exact ⟨_, rfl, rfl, LeV.of_force rfl (by clear E; rw [part_r]; first | (simp_all [value_nil]; done) | (simp only [beq_eq_false_iff_ne, ne_eq] at *; rw [if_pos (by simp; omega)]; rfl))⟩
         ·skip
          refine W.skip ?_
          refine thenK_n ?_
          refine W.seq ?_
          refine W.region ?_
          refine S.pure tOk zOk rfl rfl rfl ?_
          refine S.pure tOk zOk rfl rfl rfl ?_
          refine S.pure tOk zOk rfl rfl rfl ?_
          refine S.pure tOk zOk rfl rfl rfl ?_
          refine S.pureG tOk zOk rfl rfl tg (fun _ => rfl) rfl ?_
          refine S.pureG tOk zOk rfl rfl tg (fun _ => rfl) rfl ?_
          refine S.pureG tOk zOk rfl rfl tg (fun _ => rfl) rfl ?_
          refine S.pickOr tOk zOk rfl rfl tg ?_
          refine S.pure tOk zOk rfl rfl rfl ?_
          refine thenK_n ?_
          refine W.seq ?_
          refine W.seq ?_
          refine W.region ?_
          refine S.pure tOk zOk rfl rfl rfl ?_
          refine S.pure tOk zOk rfl rfl rfl ?_
          refine S.pureG tOk zOk rfl rfl tg (fun _ => rfl) rfl ?_
          refine S.pureG tOk zOk rfl rfl tg (fun _ => rfl) rfl ?_
          refine S.callG rfl rfl rfl rfl tg rfl rfl (fun h => pc_outref2_NameOf n (by omega)) ?_
          refine S.pureG tOk zOk rfl rfl tg (fun _ => rfl) rfl ?_
          refine S.pickAnd tOk zOk rfl rfl tg ?_
          refine S.pure tOk zOk rfl rfl rfl ?_
          refine S.pureG tOk zOk rfl rfl tg (fun _ => rfl) rfl ?_
          refine S.pureG tOk zOk rfl rfl tg (fun _ => rfl) rfl ?_
          refine S.pureG tOk zOk rfl rfl tg (fun _ => rfl) rfl ?_
          refine S.pureG tOk zOk rfl rfl tg (fun _ => rfl) rfl ?_
          refine S.pickAndG tOk zOk rfl rfl rfl tg tg ?_
          refine S.pureG tOk zOk rfl rfl tg (fun _ => rfl) rfl ?_
          refine S.pureG tOk zOk rfl rfl tg (fun _ => rfl) rfl ?_
          refine S.pureG tOk zOk rfl rfl tg (fun _ => rfl) rfl ?_
          refine S.callG rfl rfl rfl rfl tg rfl rfl (fun h => pc_outref2_PathOf n (by omega)) ?_
          refine S.pureG tOk zOk rfl rfl tg (fun _ => rfl) rfl ?_
          refine S.pickAndG tOk zOk rfl rfl rfl tg tg ?_
          refine S.pickOr tOk zOk rfl rfl tg ?_
          refine thenK_n ?_
          refine W.cond rfl (fun c37 => ?_) (fun c37 => ?_)
          ·skip
           refine W.seq ?_
           refine W.region ?_
           refine S.pure tOk zOk rfl rfl rfl ?_
           refine thenK_n ?_
           refine W.ret ?_
           refine thenK_r ?_
           exact ⟨_, rfl, rfl, LeV.of_force rfl (by clear E; rw [part_r]; first | (simp_all [value_nil]; done) | (simp only [beq_eq_false_iff_ne, ne_eq] at *; rw [if_pos (by simp; omega)]; rfl))⟩
          ·skip
           refine W.skip ?_
           refine thenK_n ?_
           refine W.seq ?_
           refine W.seq ?_
           refine W.region ?_
           refine S.pure tOk zOk rfl rfl rfl ?_
           refine S.pure tOk zOk rfl rfl rfl ?_
           refine S.call rfl rfl rfl rfl rfl (pc_outref2_ValueOf v (by omega)) ?_
           refine S.pure tOk zOk rfl rfl rfl ?_
           refine thenK_n ?_
           refine W.cond rfl (fun c38 => ?_) (fun c38 => ?_)
           ·skip
            refine W.seq ?_
            refine W.region ?_
            refine S.pure tOk zOk rfl rfl rfl ?_
            refine thenK_n ?_
            refine W.ret ?_
            refine thenK_r ?_
            exact ⟨_, rfl, rfl, LeV.of_force rfl (by clear E; rw [part_r]; first | (simp_all [value_nil]; done) | (simp only [beq_eq_false_iff_ne, ne_eq] at *; rw [if_pos (by simp; omega)]; rfl))⟩
           ·skip
            refine W.skip ?_
            refine thenK_n ?_
            refine W.seq ?_
            refine W.seq ?_
            refine W.region ?_
            refine S.pure tOk zOk rfl rfl rfl ?_
            refine S.pure tOk zOk rfl rfl rfl ?_
            refine S.pure tOk zOk rfl rfl rfl ?_
            refine thenK_n ?_
            refine W.cond rfl (fun c39 => ?_) (fun c39 => ?_)
            ·skip
             refine W.seq ?_
             refine W.region ?_
             refine S.pure tOk zOk rfl rfl rfl ?_
             refine S.pure tOk zOk rfl rfl rfl ?_
             refine S.call rfl rfl rfl rfl rfl (pc_outref2_ReadRange v hv) ?_
             refine S.pure tOk zOk rfl rfl rfl ?_
             refine S.pure tOk zOk rfl rfl rfl ?_
             refine S.pure tOk zOk rfl rfl rfl ?_
             refine S.alloc tOk rfl rfl rfl rfl ?_
             refine S.store tOk rfl rfl rfl rfl rfl rfl rfl rfl ?_
             refine S.pure tOk zOk rfl rfl rfl ?_
             refine thenK_n ?_
             refine W.seq ?_
             refine W.region ?_
             refine S.pure tOk zOk rfl rfl rfl ?_
             refine S.pure tOk zOk rfl rfl rfl ?_
             refine thenK_n ?_
             refine W.ret ?_
             refine thenK_r ?_
             exact ⟨_, rfl, rfl, LeV.of_force rfl (by clear E; rw [part_r]; first | (simp_all [value_nil]; done) | (simp only [beq_eq_false_iff_ne, ne_eq] at *; rw [if_pos (by simp; omega)]; rfl))⟩
            ·skip
             refine W.skip ?_
             refine thenK_n ?_
             refine W.seq ?_
             refine W.region ?_
             refine S.pure tOk zOk rfl rfl rfl ?_
             refine thenK_n ?_
             refine W.ret ?_
             exact ⟨_, rfl, rfl, LeV.of_force rfl (by clear E; rw [part_r]; first | (simp_all [value_nil]; done) | (simp only [beq_eq_false_iff_ne, ne_eq] at *; rw [if_pos (by simp; omega)]; rfl))⟩
        · exact absurd c35 (by rw [c34]; simp)
       ·skip
        refine W.region ?_
        refine S.pure tOk zOk rfl rfl rfl ?_
        refine S.pure tOk zOk rfl rfl rfl ?_
        refine thenK_n ?_
        refine W.cond rfl (fun c40 => ?_) (fun c40 => ?_)
        ·skip
         obtain rfl : x = 8 := by simpa using c40
         refine W.region ?_
         refine S.pure tOk zOk rfl rfl rfl ?_
         refine blockK_n ?_
         refine thenK_n ?_
         refine W.seq ?_
         refine W.seq ?_
         refine W.region ?_
         refine S.pure tOk zOk rfl rfl rfl ?_
         refine S.pure tOk zOk rfl rfl rfl ?_
         refine S.pure tOk zOk rfl rfl rfl ?_
         refine S.pureG tOk zOk rfl rfl tg (fun _ => rfl) rfl ?_
         refine S.pureG tOk zOk rfl rfl tg (fun _ => rfl) rfl ?_
         refine S.pureG tOk zOk rfl rfl tg (fun _ => rfl) rfl ?_
         refine S.pickAnd tOk zOk rfl rfl tg ?_
         refine S.pure tOk zOk rfl rfl rfl ?_
         refine S.pureG tOk zOk rfl rfl tg (fun _ => rfl) rfl ?_
         refine S.pureG tOk zOk rfl rfl tg (fun _ => rfl) rfl ?_
         refine S.pureG tOk zOk rfl rfl tg (fun _ => rfl) rfl ?_
         refine S.pureG tOk zOk rfl rfl tg (fun _ => rfl) rfl ?_
         refine S.pureG tOk zOk rfl rfl tg (fun _ => rfl) rfl ?_
         refine S.pureG tOk zOk rfl rfl tg (fun _ => rfl) rfl ?_
         refine S.pickAndG tOk zOk rfl rfl rfl tg tg ?_
         refine S.pickOr tOk zOk rfl rfl tg ?_
         refine S.pure tOk zOk rfl rfl rfl ?_
         refine S.pureG tOk zOk rfl rfl tg (fun _ => rfl) rfl ?_
         refine S.pureG tOk zOk rfl rfl tg (fun _ => rfl) rfl ?_
         refine S.pureG tOk zOk rfl rfl tg (fun _ => rfl) rfl ?_
         refine S.pureG tOk zOk rfl rfl tg (fun _ => rfl) rfl ?_
         refine S.pureG tOk zOk rfl rfl tg (fun _ => rfl) rfl ?_
         refine S.pureG tOk zOk rfl rfl tg (fun _ => rfl) rfl ?_
         refine S.pureG tOk zOk rfl rfl tg (fun _ => rfl) rfl ?_
         refine S.pickAndG tOk zOk rfl rfl rfl tg tg ?_
         refine S.pickOr tOk zOk rfl rfl tg ?_
         refine S.pure tOk zOk rfl rfl rfl ?_
         refine S.pureG tOk zOk rfl rfl tg (fun _ => rfl) rfl ?_
         refine S.pureG tOk zOk rfl rfl tg (fun _ => rfl) rfl ?_
         refine S.pureG tOk zOk rfl rfl tg (fun _ => rfl) rfl ?_
         refine S.pureG tOk zOk rfl rfl tg (fun _ => rfl) rfl ?_
         refine S.pureG tOk zOk rfl rfl tg (fun _ => rfl) rfl ?_
         refine S.pureG tOk zOk rfl rfl tg (fun _ => rfl) rfl ?_
         refine S.pureG tOk zOk rfl rfl tg (fun _ => rfl) rfl ?_
         refine S.pureG tOk zOk rfl rfl tg (fun _ => rfl) rfl ?_
         refine S.pickAndG tOk zOk rfl rfl rfl tg tg ?_
         refine S.pickOr tOk zOk rfl rfl tg ?_
         refine thenK_n ?_
         refine W.cond rfl (fun c41 => ?_) (fun c41 => ?_)
         ·skip
          refine W.seq ?_
          refine W.region ?_
          refine S.pure tOk zOk rfl rfl rfl ?_
          refine thenK_n ?_
          refine W.ret ?_
          refine thenK_r ?_
          exact ⟨_, rfl, rfl, LeV.of_force rfl (by clear E; rw [part_r]; first | (simp_all [value_nil]; done) | (simp only [beq_eq_false_iff_ne, ne_eq] at *; rw [if_pos (by simp; omega)]; rfl))⟩
         ·skip
          refine W.skip ?_
          refine thenK_n ?_
          refine W.seq ?_
          refine W.region ?_
          refine S.pure tOk zOk rfl rfl rfl ?_
          refine S.pure tOk zOk rfl rfl rfl ?_
          refine S.pure tOk zOk rfl rfl rfl ?_
          refine S.pure tOk zOk rfl rfl rfl ?_
          refine S.pureG tOk zOk rfl rfl tg (fun _ => rfl) rfl ?_
          refine S.pureG tOk zOk rfl rfl tg (fun _ => rfl) rfl ?_
          refine S.pureG tOk zOk rfl rfl tg (fun _ => rfl) rfl ?_
          refine S.pickOr tOk zOk rfl rfl tg ?_
          refine S.pure tOk zOk rfl rfl rfl ?_
          refine thenK_n ?_
          refine W.seq ?_
          refine W.seq ?_
          refine W.region ?_
          refine S.pure tOk zOk rfl rfl rfl ?_
          refine S.pure tOk zOk rfl rfl rfl ?_
          refine S.pureG tOk zOk rfl rfl tg (fun _ => rfl) rfl ?_
          refine S.pureG tOk zOk rfl rfl tg (fun _ => rfl) rfl ?_
          refine S.callG rfl rfl rfl rfl tg rfl rfl (fun h => pc_outref2_NameOf n (by omega)) ?_
          refine S.pureG tOk zOk rfl rfl tg (fun _ => rfl) rfl ?_
          refine S.pickAnd tOk zOk rfl rfl tg ?_
          refine S.pure tOk zOk rfl rfl rfl ?_
          refine S.pureG tOk zOk rfl rfl tg (fun _ => rfl) rfl ?_
          refine S.pureG tOk zOk rfl rfl tg (fun _ => rfl) rfl ?_
          refine S.pureG tOk zOk rfl rfl tg (fun _ => rfl) rfl ?_
          refine S.pureG tOk zOk rfl rfl tg (fun _ => rfl) rfl ?_
          refine S.pickAndG tOk zOk rfl rfl rfl tg tg ?_
          refine S.pureG tOk zOk rfl rfl tg (fun _ => rfl) rfl ?_
          refine S.pureG tOk zOk rfl rfl tg (fun _ => rfl) rfl ?_
          refine S.pureG tOk zOk rfl rfl tg (fun _ => rfl) rfl ?_
          refine S.callG rfl rfl rfl rfl tg rfl rfl (fun h => pc_outref2_PathOf n (by omega)) ?_
          refine S.pureG tOk zOk rfl rfl tg (fun _ => rfl) rfl ?_
          refine S.pickAndG tOk zOk rfl rfl rfl tg tg ?_
          refine S.pickOr tOk zOk rfl rfl tg ?_
          refine thenK_n ?_
          refine W.cond rfl (fun c42 => ?_) (fun c42 => ?_)
          ·skip
           refine W.seq ?_
           refine W.region ?_
           refine S.pure tOk zOk rfl rfl rfl ?_
           refine thenK_n ?_
           refine W.ret ?_
           refine thenK_r ?_
           exact ⟨_, rfl, rfl, LeV.of_force rfl (by clear E; rw [part_r]; first | (simp_all [value_nil]; done) | (simp only [beq_eq_false_iff_ne, ne_eq] at *; rw [if_pos (by simp; omega)]; rfl))⟩
          ·skip
           refine W.skip ?_
           refine thenK_n ?_
           refine W.seq ?_
           refine W.seq ?_
           refine W.region ?_
           refine S.pure tOk zOk rfl rfl rfl ?_
           refine S.pure tOk zOk rfl rfl rfl ?_
           refine S.call rfl rfl rfl rfl rfl (pc_outref2_ValueOf v (by omega)) ?_
           refine S.pure tOk zOk rfl rfl rfl ?_
           refine thenK_n ?_
           refine W.cond rfl (fun c43 => ?_) (fun c43 => ?_)
           ·skip
            refine W.seq ?_
            refine W.region ?_
            refine S.pure tOk zOk rfl rfl rfl ?_
            refine thenK_n ?_
            refine W.ret ?_
            refine thenK_r ?_
            exact ⟨_, rfl, rfl, LeV.of_force rfl (by clear E; rw [part_r]; first | (simp_all [value_nil]; done) | (simp only [beq_eq_false_iff_ne, ne_eq] at *; rw [if_pos (by simp; omega)]; rfl))⟩
           ·skip
            refine W.skip ?_
            refine thenK_n ?_
            refine W.seq ?_
            refine W.seq ?_
            refine W.region ?_
            refine S.pure tOk zOk rfl rfl rfl ?_
            refine S.pure tOk zOk rfl rfl rfl ?_
            refine S.pure tOk zOk rfl rfl rfl ?_
            refine thenK_n ?_
            refine W.cond rfl (fun c44 => ?_) (fun c44 => ?_)
            ·skip
             refine W.seq ?_
             refine W.region ?_
             refine S.pure tOk zOk rfl rfl rfl ?_
             refine S.pure tOk zOk rfl rfl rfl ?_
             refine S.call rfl rfl rfl rfl rfl (pc_outref2_ReadRange v hv) ?_
             refine S.pure tOk zOk rfl rfl rfl ?_
             refine S.pure tOk zOk rfl rfl rfl ?_
             refine S.pure tOk zOk rfl rfl rfl ?_
             refine S.alloc tOk rfl rfl rfl rfl ?_
             refine S.store tOk rfl rfl rfl rfl rfl rfl rfl rfl ?_
             refine S.pure tOk zOk rfl rfl rfl ?_
             refine thenK_n ?_
             refine W.seq ?_
             refine W.region ?_
             refine S.pure tOk zOk rfl rfl rfl ?_
             refine S.pure tOk zOk rfl rfl rfl ?_
             refine thenK_n ?_
             refine W.ret ?_
             refine thenK_r ?_
             exact ⟨_, rfl, rfl, LeV.of_force rfl (by clear E; rw [part_r]; first | (simp_all [value_nil]; done) | (simp only [beq_eq_false_iff_ne, ne_eq] at *; rw [if_pos (by simp; omega)]; rfl))⟩
            ·skip
             refine W.skip ?_
             refine thenK_n ?_
             refine W.seq ?_
             refine W.region ?_
             refine S.pure tOk zOk rfl rfl rfl ?_
             refine thenK_n ?_
             refine W.ret ?_
             exact ⟨_, rfl, rfl, LeV.of_force rfl (by clear E; rw [part_r]; first | (simp_all [value_nil]; done) | (simp only [beq_eq_false_iff_ne, ne_eq] at *; rw [if_pos (by simp; omega)]; rfl))⟩
        ·skip
         refine W.seq ?_
         refine W.region ?_
         refine S.pure tOk zOk rfl rfl rfl ?_
         refine thenK_n ?_
         refine W.ret ?_
         refine blockK_r ?_
         refine thenK_r ?_
         exact ⟨_, rfl, rfl, LeV.of_force rfl (by clear E; rw [part_r]; first | (simp_all [value_nil]; done) | (simp only [beq_eq_false_iff_ne, ne_eq] at *; rw [if_pos (by simp; omega)]; rfl))⟩
end Go.Proofs.YtjibdoagpegniaaGreatDoor

/- Plain words: the reference's error of a condition. -/
set_option linter.unusedVariables false
set_option linter.unusedSimpArgs false
namespace Go.Proofs.YtjibdoagpegniaaGreatDoor
open Go
theorem visits_true {S : Type} {g : CT → S → Bool × S} : ∀ {l : List CT} {s : S}, (∀ c ∈ l, ∀ s, (g c s).1 = true) → (visits g l s).1 = true
  | [], s, h => rfl
  | c :: l, s, h => by
    unfold visits
    rw [if_pos (h c List.mem_cons_self s)]
    exact visits_true fun a ha => h a (List.mem_cons_of_mem _ ha)
theorem visit_true {S : Type} {f : CT → Int → S → Bool × S} (h : ∀ c lv s, (f c lv s).1 = true) : ∀ (n : Nat) (c : CT) (lv : Int) (s : S), c.w ≤ n → (visit f c lv s).1 = true
  | 0, c, lv, s, hn => by have := c.pos; omega
  | n + 1, c, lv, s, hn => by
    rw [visit_go (h c lv s)]
    exact visits_true fun a ha s => visit_true h n a (up1 lv) s (by have := CT.sz ha; omega)
def maxI (a b : Int) : Int := if a < b then b else a
def ce1 (c : CT) (lv : Int) (s : Int × Int) : Bool × (Int × Int) := (true, (up1 s.1, maxI s.2 lv))
def ce2 (c : CT) (lv : Int) (s : Int) : Bool × Int := (true, if s == 0 then c.part else s)
theorem ce1_t (c : CT) (lv : Int) (s : Int × Int) : (visit ce1 c lv s).1 = true := visit_true (fun _ _ _ => rfl) c.w c lv s (Nat.le_refl _)
theorem ce2_t (c : CT) (lv : Int) (s : Int) : (visit ce2 c lv s).1 = true := visit_true (fun _ _ _ => rfl) c.w c lv s (Nat.le_refl _)
/-- CondError, in plain words. -/
def errR (c : CT) : Int :=
  if decide ((visit ce1 c 0 (0, 0)).2.1 > 100) then 4
  else firstB (visit ce2 c 0 0).2 (if decide ((visit ce1 c 0 (0, 0)).2.2 > 20) then 4 else 0)
/-- ReadCond, in plain words. -/
def readR (s : List UInt8) : CT × PS := ((condR 100 ⟨toks s, -1⟩).1, (nxR 101 [] (condR 100 ⟨toks s, -1⟩).2).2)
def parseR (s : List UInt8) : CT × Int × Int :=
  if decide ((s.length : Int) > 4000) then (CT.z, 0, 4)
  else if decide ((readR s).2.w ≥ 0) then (CT.z, (readR s).2.w, 8)
  else if errR (readR s).1 != 0 then (CT.z, 0, errR (readR s).1)
  else ((readR s).1, 0, 0)
end Go.Proofs.YtjibdoagpegniaaGreatDoor

set_option linter.unusedVariables false
set_option linter.unusedSimpArgs false
set_option maxRecDepth 100000
set_option maxHeartbeats 4000000
namespace Go.Proofs.YtjibdoagpegniaaGreatDoor
open Go
open Go.RowKit
attribute [local irreducible] rangeB rangeR pathB nameB valueB visit visits checkP
theorem pc_ce1 (x : Int) (n v : List UInt8) (xs : List (List D)) (lv p d : Int) :
  HCall Tryz.prog J 32 ([.agg [.d (.int .i64 x), .d (.str n), .d (.str v), .d (.vec 4 xs)], .one (.d (.int .i64 lv)), .one (.ptr 0 0), .one (.ptr 1 0)]) ([[.d (.int .i64 p)], [.d (.int .i64 d)]]) ([]) ([]) (isH (.tup []) ([[.d (.int .i64 (up1 p))], [.d (.int .i64 (maxI d lv))]]) ([]) ([])) := by
 refine HCall.ofD tOk ⟨2, 0, 0⟩ (fn := Tryz.f32) Tryz.func32 (by kernel_rfl) rfl (Nat.le_of_ble_eq_true rfl) (fun E => ?_)
 refine W.seq ?_
 refine W.region ?_
 refine S.box rfl rfl rfl rfl ?_
 refine thenK_n ?_
 refine W.seq ?_
 refine W.region ?_
 refine S.pure tOk zOk rfl rfl rfl ?_
 refine S.pure tOk zOk rfl rfl rfl ?_
 refine S.store tOk rfl rfl rfl rfl rfl rfl rfl rfl ?_
 refine thenK_n ?_
 refine W.region ?_
 refine S.pure tOk zOk rfl rfl rfl ?_
 refine S.pure tOk zOk rfl rfl rfl ?_
 refine S.pure tOk zOk rfl rfl rfl ?_
 refine S.store tOk rfl rfl rfl rfl rfl rfl rfl rfl ?_
 exact ⟨_, rfl, rfl, LeG.refl _, rfl, rfl, rfl⟩
theorem pc_ce2 (x : Int) (n v : List UInt8) (xs : List (List D)) (hn : n.length < 4294967000) (hv : v.length < 4294967000) (lv e : Int) :
  HCall Tryz.prog J 33 ([.agg [.d (.int .i64 x), .d (.str n), .d (.str v), .d (.vec 4 xs)], .one (.d (.int .i64 lv)), .one (.ptr 0 0)]) ([[.d (.int .i64 e)]]) ([]) ([]) (isH (.tup []) ([[.d (.int .i64 (if e == 0 then partP x n v (xs.length : Int) else e))]]) ([]) ([])) := by
 refine HCall.ofD tOk ⟨1, 0, 0⟩ (fn := Tryz.f33) Tryz.func33 (by kernel_rfl) rfl (Nat.le_of_ble_eq_true rfl) (fun E => ?_)
 refine W.seq ?_
 refine W.region ?_
 refine S.box rfl rfl rfl rfl ?_
 refine thenK_n ?_
 refine W.seq ?_
 refine W.region ?_
 refine S.pure tOk zOk rfl rfl rfl ?_
 refine S.pure tOk zOk rfl rfl rfl ?_
 refine thenK_n ?_
 refine W.cond rfl (fun c1 => ?_) (fun c1 => ?_)
 ·skip
  refine W.region ?_
  refine S.pure tOk zOk rfl rfl rfl ?_
  refine S.call rfl rfl rfl rfl rfl (pc_partError x n v xs hn hv) ?_
  refine S.store tOk rfl rfl rfl rfl rfl rfl rfl rfl ?_
  exact ⟨_, rfl, rfl, LeG.refl _, (by rw [if_pos c1]; rfl), rfl, rfl⟩
 ·skip
  refine W.skip ?_
  exact ⟨_, rfl, rfl, LeG.refl _, (by rw [if_neg (Bool.eq_false_iff.1 c1)]; rfl), rfl, rfl⟩
theorem pc_parts1s (c : CT) (lv : Int) (p : Int) (d : Int) (hc : CtBig c) (ih : ∀ a ∈ c.l, ∀ (lv  : Int) (p : Int) (d : Int), CtBig a → HCall Tryz.prog J 31 [ctV a, .one (.d (.int .i64 lv)), .one (.clo 32 [.ptr 0 0, .ptr 1 0])] [[.d (.int .i64 p)], [.d (.int .i64 d)]] [] [] (isH (.tup []) [[.d (.int .i64 (visit ce1 a lv (p, d)).2.1)], [.d (.int .i64 (visit ce1 a lv (p, d)).2.2)]] [] [])) :
  HCall Tryz.prog J 31 ([ctV c, .one (.d (.int .i64 lv)), .one (.clo 32 [.ptr 0 0, .ptr 1 0])]) ([[.d (.int .i64 p)], [.d (.int .i64 d)]]) ([]) ([]) (isH (.tup []) ([[.d (.int .i64 (visit ce1 c lv (p, d)).2.1)], [.d (.int .i64 (visit ce1 c lv (p, d)).2.2)]]) ([]) ([])) := by
 have hbig := hc.ll
 have hf : (ce1 c lv (p, d)).1 = true := rfl
 unfold ctV
 rw [ds_map]
 have hlen : ((c.l.map CT.d).length : Int) = (c.l.length : Int) := by rw [List.length_map]
 refine HCall.ofD tOk ⟨2, 0, 0⟩ (fn := Tryz.f31) Tryz.func31 (by kernel_rfl) rfl (Nat.le_of_ble_eq_true rfl) (fun E => ?_)
 refine W.seq ?_
 refine W.region ?_
 refine S.box rfl rfl rfl rfl ?_
 refine thenK_n ?_
 refine W.seq ?_
 refine W.region ?_
 refine S.pure tOk zOk rfl rfl rfl ?_
 refine S.pure tOk zOk rfl rfl rfl ?_
 refine S.pure tOk zOk rfl rfl rfl ?_
 refine S.hcallD rfl rfl rfl rfl ((pc_ce1 c.k c.n c.v _ lv p d).frameD [0, 1] [] [] rfl rfl rfl rfl rfl rfl rfl rfl rfl) ?_
 refine thenK_n ?_
 refine W.seq ?_
 refine W.region ?_
 refine S.pure tOk zOk rfl rfl rfl ?_
 refine S.pure tOk zOk rfl rfl rfl ?_
 refine S.pure tOk zOk rfl rfl rfl ?_
 refine S.pure tOk zOk rfl rfl rfl ?_
 refine thenK_n ?_
 refine W.block ?_
 refine W.loop (fun k st => ∃ i : Nat, ∃ p1 : Int, ∃ d1 : Int, i ≤ c.l.length ∧ visits (fun a => visit ce1 a (up1 lv)) (c.l.take i) (ce1 c lv (p, d)).2 = (true, (p1, d1)) ∧ k = c.l.length - i ∧ ∃ t b2 r2 m2, st = ⟨t, [[.d (.int .i64 p1)], [.d (.int .i64 d1)], [.d (.int .i64 c.k), .d (.str c.n), .d (.str c.v), .d (.vec 4 (c.l.map CT.d))]] ++ b2, [] ++ r2, [] ++ m2⟩ ∧ holdsL t [(1, .one (.d (.int .i64 lv))), (2, .one (.clo 32 [.ptr 0 0, .ptr 1 0])), (13, .one (.d (.vec 4 (c.l.map CT.d)))), (14, .one (.d (.int .i64 ((c.l.map CT.d).length : Int)))), (15, .one (.d (.int .i64 (i : Int))))]) (c.l.length) ⟨0, _, _, Nat.zero_le _, visits_nil, rfl, _, _, _, _, rfl, rfl, rfl, rfl, rfl, rfl, trivial⟩ ?_
 rintro k0 _ ⟨i, p1, d1, f0_0, f0_1, rfl, t0, bb0, rr0, mm0, rfl, hh0⟩
 refine W.keepR _ _ _ _ _ _ _ hh0 rfl ?_
 refine W.seq ?_
 refine W.region ?_
 refine S.pure tOk zOk rfl rfl rfl ?_
 refine thenK_n ?_
 refine W.seq ?_
 refine W.cond rfl (fun c1 => ?_) (fun c1 => ?_)
 ·skip
  have hi := row_lt c1
  refine W.skip ?_
  refine thenK_n ?_
  refine W.seq ?_
  refine W.block ?_
  refine W.seq ?_
  refine W.region ?_
  refine S.pureE tOk zOk rfl (row_ok hi) (getD_map_ct hi) rfl ?_
  refine S.pure tOk zOk rfl rfl rfl ?_
  refine S.alloc tOk rfl rfl rfl rfl ?_
  refine S.store tOk rfl rfl rfl rfl rfl rfl rfl rfl ?_
  refine thenK_n ?_
  refine W.region ?_
  refine S.pure tOk zOk rfl rfl rfl ?_
  refine S.pure tOk zOk rfl rfl rfl ?_
  refine S.pure tOk zOk rfl rfl rfl ?_
  refine S.pure tOk zOk rfl rfl rfl ?_
  refine S.hcallD rfl rfl rfl rfl ((ih (c.l.getD i CT.z) (mem_ct hi) (up1 lv) p1 d1 (hc.l _ (mem_ct hi))).frameD [0, 1] [] [] rfl rfl rfl rfl rfl rfl rfl rfl rfl) ?_
  refine blockK_n ?_
  refine thenK_n ?_
  refine W.region ?_
  refine S.pure tOk zOk rfl rfl rfl ?_
  refine S.pure tOk zOk rfl rfl rfl ?_
  refine loop_n (c.l.length - (i + 1)) (by omega) ⟨i + 1, _, _, hi, visit_next hi f0_1 (ce1_t _ _ _), rfl, _, _, _, _, rfl, rfl, rfl, rfl, rfl, inc_i64 (by omega), trivial⟩
 ·skip
  have hi := row_ge c1
  have hv := visit_all hf hi f0_1
  refine W.exit ?_
  refine thenK_e ?_
  refine thenK_e ?_
  refine blockK_x ?_
  exact ⟨_, rfl, rfl, LeG.refl _, (by rw [hv]; rfl), rfl, rfl⟩
theorem pc_parts1 : ∀ (n : Nat) (c : CT), c.w ≤ n → ∀ (lv : Int) (p : Int) (d : Int), CtBig c → HCall Tryz.prog J 31 [ctV c, .one (.d (.int .i64 lv)), .one (.clo 32 [.ptr 0 0, .ptr 1 0])] [[.d (.int .i64 p)], [.d (.int .i64 d)]] [] [] (isH (.tup []) [[.d (.int .i64 (visit ce1 c lv (p, d)).2.1)], [.d (.int .i64 (visit ce1 c lv (p, d)).2.2)]] [] [])
  | 0, c, h => by have := c.pos; omega
  | n + 1, c, h => fun lv p d hc => pc_parts1s c lv p d hc (fun a ha => pc_parts1 n a (by have := CT.sz ha; omega))
theorem pc_parts2s (c : CT) (lv : Int) (e : Int) (hc : CtBig c) (ih : ∀ a ∈ c.l, ∀ (lv  : Int) (e : Int), CtBig a → HCall Tryz.prog J 31 [ctV a, .one (.d (.int .i64 lv)), .one (.clo 33 [.ptr 0 0])] [[.d (.int .i64 e)]] [] [] (isH (.tup []) [[.d (.int .i64 (visit ce2 a lv e).2)]] [] [])) :
  HCall Tryz.prog J 31 ([ctV c, .one (.d (.int .i64 lv)), .one (.clo 33 [.ptr 0 0])]) ([[.d (.int .i64 e)]]) ([]) ([]) (isH (.tup []) ([[.d (.int .i64 (visit ce2 c lv e).2)]]) ([]) ([])) := by
 have hbig := hc.ll
 have hf : (ce2 c lv e).1 = true := rfl
 unfold ctV
 rw [ds_map]
 have hlen : ((c.l.map CT.d).length : Int) = (c.l.length : Int) := by rw [List.length_map]
 have hcl2 := pc_ce2 c.k c.n c.v (c.l.map CT.d) hc.n hc.v lv e
 rw [hlen] at hcl2
 refine HCall.ofD tOk ⟨1, 0, 0⟩ (fn := Tryz.f31) Tryz.func31 (by kernel_rfl) rfl (Nat.le_of_ble_eq_true rfl) (fun E => ?_)
 refine W.seq ?_
 refine W.region ?_
 refine S.box rfl rfl rfl rfl ?_
 refine thenK_n ?_
 refine W.seq ?_
 refine W.region ?_
 refine S.pure tOk zOk rfl rfl rfl ?_
 refine S.pure tOk zOk rfl rfl rfl ?_
 refine S.pure tOk zOk rfl rfl rfl ?_
 refine S.hcallD rfl rfl rfl rfl (hcl2.frameD [0] [] [] rfl rfl rfl rfl rfl rfl rfl rfl rfl) ?_
 refine thenK_n ?_
 refine W.seq ?_
 refine W.region ?_
 refine S.pure tOk zOk rfl rfl rfl ?_
 refine S.pure tOk zOk rfl rfl rfl ?_
 refine S.pure tOk zOk rfl rfl rfl ?_
 refine S.pure tOk zOk rfl rfl rfl ?_
 refine thenK_n ?_
 refine W.block ?_
 refine W.loop (fun k st => ∃ i : Nat, ∃ e1 : Int, i ≤ c.l.length ∧ visits (fun a => visit ce2 a (up1 lv)) (c.l.take i) (ce2 c lv e).2 = (true, e1) ∧ k = c.l.length - i ∧ ∃ t b2 r2 m2, st = ⟨t, [[.d (.int .i64 e1)], [.d (.int .i64 c.k), .d (.str c.n), .d (.str c.v), .d (.vec 4 (c.l.map CT.d))]] ++ b2, [] ++ r2, [] ++ m2⟩ ∧ holdsL t [(1, .one (.d (.int .i64 lv))), (2, .one (.clo 33 [.ptr 0 0])), (13, .one (.d (.vec 4 (c.l.map CT.d)))), (14, .one (.d (.int .i64 ((c.l.map CT.d).length : Int)))), (15, .one (.d (.int .i64 (i : Int))))]) (c.l.length) ⟨0, _, Nat.zero_le _, visits_nil, rfl, _, _, _, _, rfl, rfl, rfl, rfl, rfl, rfl, trivial⟩ ?_
 rintro k0 _ ⟨i, e1, f0_0, f0_1, rfl, t0, bb0, rr0, mm0, rfl, hh0⟩
 refine W.keepR _ _ _ _ _ _ _ hh0 rfl ?_
 refine W.seq ?_
 refine W.region ?_
 refine S.pure tOk zOk rfl rfl rfl ?_
 refine thenK_n ?_
 refine W.seq ?_
 refine W.cond rfl (fun c1 => ?_) (fun c1 => ?_)
 ·skip
  have hi := row_lt c1
  refine W.skip ?_
  refine thenK_n ?_
  refine W.seq ?_
  refine W.block ?_
  refine W.seq ?_
  refine W.region ?_
  refine S.pureE tOk zOk rfl (row_ok hi) (getD_map_ct hi) rfl ?_
  refine S.pure tOk zOk rfl rfl rfl ?_
  refine S.alloc tOk rfl rfl rfl rfl ?_
  refine S.store tOk rfl rfl rfl rfl rfl rfl rfl rfl ?_
  refine thenK_n ?_
  refine W.region ?_
  refine S.pure tOk zOk rfl rfl rfl ?_
  refine S.pure tOk zOk rfl rfl rfl ?_
  refine S.pure tOk zOk rfl rfl rfl ?_
  refine S.pure tOk zOk rfl rfl rfl ?_
  refine S.hcallD rfl rfl rfl rfl ((ih (c.l.getD i CT.z) (mem_ct hi) (up1 lv) e1 (hc.l _ (mem_ct hi))).frameD [0] [] [] rfl rfl rfl rfl rfl rfl rfl rfl rfl) ?_
  refine blockK_n ?_
  refine thenK_n ?_
  refine W.region ?_
  refine S.pure tOk zOk rfl rfl rfl ?_
  refine S.pure tOk zOk rfl rfl rfl ?_
  refine loop_n (c.l.length - (i + 1)) (by omega) ⟨i + 1, _, hi, visit_next hi f0_1 (ce2_t _ _ _), rfl, _, _, _, _, rfl, rfl, rfl, rfl, rfl, inc_i64 (by omega), trivial⟩
 ·skip
  have hi := row_ge c1
  have hv := visit_all hf hi f0_1
  refine W.exit ?_
  refine thenK_e ?_
  refine thenK_e ?_
  refine blockK_x ?_
  exact ⟨_, rfl, rfl, LeG.refl _, (by rw [hv]; rfl), rfl, rfl⟩
theorem pc_parts2 : ∀ (n : Nat) (c : CT), c.w ≤ n → ∀ (lv : Int) (e : Int), CtBig c → HCall Tryz.prog J 31 [ctV c, .one (.d (.int .i64 lv)), .one (.clo 33 [.ptr 0 0])] [[.d (.int .i64 e)]] [] [] (isH (.tup []) [[.d (.int .i64 (visit ce2 c lv e).2)]] [] [])
  | 0, c, h => by have := c.pos; omega
  | n + 1, c, h => fun lv e hc => pc_parts2s c lv e hc (fun a ha => pc_parts2 n a (by have := CT.sz ha; omega))
theorem err_1 {c : CT} (h : decide ((visit ce1 c 0 (0, 0)).2.1 > 100) = true) : errR c = 4 := if_pos h
theorem err_0 {c : CT} (h : decide ((visit ce1 c 0 (0, 0)).2.1 > 100) = false) : errR c = firstB (visit ce2 c 0 0).2 (if decide ((visit ce1 c 0 (0, 0)).2.2 > 20) then 4 else 0) := if_neg (by rw [h]; simp)
theorem pc_CondErr (c : CT) (hc : CtBig c) :
  PureCall Tryz.prog J 11 [ctV c] (.one (.d (.int .i64 (errR c)))) := by
 refine PureCall.of_body tOk (fn := Tryz.f11) Tryz.func11 (by kernel_rfl) rfl (Nat.le_of_ble_eq_true rfl) (fun E => ?_)
 refine W.seq ?_
 refine W.region ?_
 refine S.box rfl rfl rfl rfl ?_
 refine S.pure tOk zOk rfl rfl rfl ?_
 refine thenK_n ?_
 refine W.seq ?_
 refine W.region ?_
 refine S.alloc tOk rfl rfl rfl rfl ?_
 refine S.alloc tOk rfl rfl rfl rfl ?_
 refine S.store tOk rfl rfl rfl rfl rfl rfl rfl rfl ?_
 refine S.store tOk rfl rfl rfl rfl rfl rfl rfl rfl ?_
 refine thenK_n ?_
 refine W.seq ?_
 refine W.region ?_
 refine S.pure tOk zOk rfl rfl rfl ?_
 refine S.makeFunc rfl rfl rfl ?_
 refine S.hcallD rfl rfl rfl rfl ((pc_parts1 c.w c (Nat.le_refl _) 0 0 0 hc).frameD [1, 2] [] [] rfl rfl rfl rfl rfl rfl rfl rfl rfl) ?_
 refine thenK_n ?_
 refine W.seq ?_
 refine W.seq ?_
 refine W.region ?_
 refine S.pure tOk zOk rfl rfl rfl ?_
 refine S.pure tOk zOk rfl rfl rfl ?_
 refine thenK_n ?_
 refine W.cond rfl (fun c1 => ?_) (fun c1 => ?_)
 ·skip
  refine W.seq ?_
  refine W.region ?_
  refine S.pure tOk zOk rfl rfl rfl ?_
  refine thenK_n ?_
  refine W.ret ?_
  refine thenK_r ?_
  exact ⟨_, rfl, rfl, LeV.of_force rfl (by rw [err_1 c1]; rfl)⟩
 ·skip
  refine W.skip ?_
  refine thenK_n ?_
  refine W.seq ?_
  refine W.region ?_
  refine S.alloc tOk rfl rfl rfl rfl ?_
  refine S.store tOk rfl rfl rfl rfl rfl rfl rfl rfl ?_
  refine thenK_n ?_
  refine W.seq ?_
  refine W.region ?_
  refine S.pure tOk zOk rfl rfl rfl ?_
  refine S.makeFunc rfl rfl rfl ?_
  refine S.hcallD rfl rfl rfl rfl ((pc_parts2 c.w c (Nat.le_refl _) 0 0 hc).frameD [3] [] [] rfl rfl rfl rfl rfl rfl rfl rfl rfl) ?_
  refine thenK_n ?_
  refine W.seq ?_
  refine W.regionD mixed (by kernel_rfl) ?_
  refine D.pure tOk zOk rfl rfl rfl rfl ?_
  refine D.pure tOk zOk rfl rfl rfl rfl ?_
  refine D.pure tOk zOk rfl rfl rfl rfl ?_
  refine D.call rfl rfl rfl rfl rfl (pc_outref2_When _ 4) ?_
  refine D.slice tOk rfl rfl ?_
  refine D.call rfl rfl rfl rfl rfl (pc_first2 (visit ce2 c 0 0).2 (if decide ((visit ce1 c 0 (0, 0)).2.2 > 20) then 4 else 0)) ?_
  refine D.pure tOk zOk rfl rfl rfl rfl ?_
  refine thenK_n ?_
  refine W.ret ?_
  exact ⟨_, rfl, rfl, LeV.of_force rfl (by rw [err_0 c1])⟩
end Go.Proofs.YtjibdoagpegniaaGreatDoor

/- Plain words: the program's reader of conditions and the reference's agree. -/
set_option linter.unusedVariables false
set_option linter.unusedSimpArgs false
namespace Go.Proofs.YtjibdoagpegniaaGreatDoor
open Go
/-- What a token is. -/
def TokOk (x : Tok) : Prop := (x.k = 0) ∨ x.k = 1 ∨ x.k = 2 ∨ (x.k = 3 ∧ (x.t = [40] ∨ x.t = [41] ∨ x.t = [61])) ∨ x.k = 4
def TO (T : List Tok) : Prop := ∀ x ∈ T, TokOk x
theorem TO.go {A B : List Tok} (t : TO A) (h : Rch A B) : TO B := fun x hx => t x (h.mem hx)
theorem TO.hd {T : List Tok} (t : TO T) : TokOk (hd T) := by
  match T, t with
  | [], _ => exact .inl rfl
  | x :: l, t => exact t x (List.mem_cons_self ..)
theorem next_ok (s : List UInt8) (p : Nat) : TokOk (nextT s p) := by
  unfold nextT tokAt
  split
  · exact .inl rfl
  · split
    · rename_i h
      refine .inr (.inr (.inr (.inl ⟨rfl, ?_⟩)))
      unfold sgn at h
      have h2 : s.getD (skipB s p) 0 = 40 ∨ s.getD (skipB s p) 0 = 41 ∨ s.getD (skipB s p) 0 = 61 := by simpa [or_assoc] using h
      rcases h2 with h2 | h2 | h2 <;> rw [h2] <;> simp
    · split
      · split
        · exact .inr (.inr (.inl rfl))
        · exact .inr (.inr (.inr (.inr rfl)))
      · exact .inr (.inl rfl)
theorem toksN_ok (s : List UInt8) : ∀ (n p : Nat), TO (toksN n s p)
  | 0, p => fun x hx => by
    obtain rfl : x = nextT s p := by simpa [toksN] using hx
    exact next_ok s p
  | n + 1, p => fun x hx => by
    unfold toksN at hx; split at hx
    · obtain rfl : x = nextT s p := by simpa using hx
      exact next_ok s p
    · rcases List.mem_cons.1 hx with rfl | hx
      · exact next_ok s p
      · exact toksN_ok s n _ x hx
theorem toks_to (s : List UInt8) : TO (toks s) := toksN_ok s _ _
section
variable {q : PS} (t : TO q.T)
include t
theorem wk_eq (b : Int) (x : List UInt8) (hb : (b = 40 ∧ x = [40]) ∨ (b = 41 ∧ x = [41]) ∨ (b = 61 ∧ x = [61])) : ((wOf (hd q.T)).k == b) = ((hd q.T).k == 3 && (hd q.T).t == x) := by
  have h : (wOf (hd q.T)).k = wK (hd q.T) := rfl
  rw [h]; unfold wK
  rcases t.hd with h | h | h | ⟨h, h2⟩ | h
  · rw [h]; rcases hb with ⟨rfl, rfl⟩ | ⟨rfl, rfl⟩ | ⟨rfl, rfl⟩ <;> rfl
  · rw [h]; rcases hb with ⟨rfl, rfl⟩ | ⟨rfl, rfl⟩ | ⟨rfl, rfl⟩ <;> rfl
  · rw [h]; rcases hb with ⟨rfl, rfl⟩ | ⟨rfl, rfl⟩ | ⟨rfl, rfl⟩ <;> rfl
  · rw [h]; rcases h2 with h2 | h2 | h2 <;> rw [h2] <;> rcases hb with ⟨rfl, rfl⟩ | ⟨rfl, rfl⟩ | ⟨rfl, rfl⟩ <;> rfl
  · rw [h]; rcases hb with ⟨rfl, rfl⟩ | ⟨rfl, rfl⟩ | ⟨rfl, rfl⟩ <;> rfl
theorem wk_1 : ((wOf (hd q.T)).k == 119) = ((hd q.T).k == 1) := by
  have h : (wOf (hd q.T)).k = wK (hd q.T) := rfl
  rw [h]; unfold wK
  rcases t.hd with h | h | h | ⟨h, h2⟩ | h
  · rw [h]; rfl
  · rw [h]; rfl
  · rw [h]; rfl
  · rw [h]; rcases h2 with h2 | h2 | h2 <;> rw [h2] <;> rfl
  · rw [h]; rfl
theorem wk_2 : ((wOf (hd q.T)).k == 113) = ((hd q.T).k == 2) := by
  have h : (wOf (hd q.T)).k = wK (hd q.T) := rfl
  rw [h]; unfold wK
  rcases t.hd with h | h | h | ⟨h, h2⟩ | h
  · rw [h]; rfl
  · rw [h]; rfl
  · rw [h]; rfl
  · rw [h]; rcases h2 with h2 | h2 | h2 <;> rw [h2] <;> rfl
  · rw [h]; rfl
theorem wk_0 : ((wOf (hd q.T)).k == 101) = ((hd q.T).k == 0) := by
  have h : (wOf (hd q.T)).k = wK (hd q.T) := rfl
  rw [h]; unfold wK
  rcases t.hd with h | h | h | ⟨h, h2⟩ | h
  · rw [h]; rfl
  · rw [h]; rfl
  · rw [h]; rfl
  · rw [h]; rcases h2 with h2 | h2 | h2 <;> rw [h2] <;> rfl
  · rw [h]; rfl
theorem is_sign (b : Int) (x : List UInt8) (hb : (b = 40 ∧ x = [40]) ∨ (b = 41 ∧ x = [41]) ∨ (b = 61 ∧ x = [61])) : isR b [] q = isT 3 x q := by
  unfold isR isT; rw [wk_eq t b x hb]
  show ((decide (q.w < 0) && ((hd q.T).k == 3 && (hd q.T).t == x)) && true) = _
  rw [Bool.and_true, Bool.and_assoc]
theorem is_word (x : List UInt8) (hx : (x == []) = false) : isR 119 x q = isT 1 x q := by
  unfold isR isT; rw [wk_1 t, hx, Bool.false_or]
  cases h : ((hd q.T).k == 1) with
  | false => simp
  | true =>
    have : (wOf (hd q.T)).t = (hd q.T).t := by
      show (if (hd q.T).k == 1 || (hd q.T).k == 3 then _ else _) = _
      rw [h]; rfl
    rw [this]
theorem nx_sign_eq (b : Int) (x : List UInt8) (hb : (b = 40 ∧ x = [40]) ∨ (b = 41 ∧ x = [41]) ∨ (b = 61 ∧ x = [61])) : (nxR b [] q).2 = (takeT 3 x q).2 := by
  have h1 := wk_eq t b x hb
  have hx : (x == []) = false := by rcases hb with ⟨rfl, rfl⟩ | ⟨rfl, rfl⟩ | ⟨rfl, rfl⟩ <;> rfl
  have hb2 : b ≠ 101 := by rcases hb with ⟨rfl, rfl⟩ | ⟨rfl, rfl⟩ | ⟨rfl, rfl⟩ <;> decide
  unfold takeT
  cases hw : decide (q.w ≥ 0) with
  | true =>
    have hw2 : decide (q.w < 0) = false := by simp at hw ⊢; omega
    rw [nxR_old hw2]; rfl
  | false =>
    have hw2 : decide (q.w < 0) = true := by simp at hw ⊢; omega
    cases hm : ((hd q.T).k == 3 && (hd q.T).t == x) with
    | true =>
      rw [hm] at h1
      have h2 : (wOf (hd q.T)).k = b := by simpa using h1
      have hn : noR b [] q = false := by unfold noR; rw [hw, h2]; simp
      rw [nx_go hn (by rw [h2]; simpa using hb2)]
      simp only [Bool.and_eq_true] at hm
      have hc : ((hd q.T).k != 3 || (!(x == []) && !((hd q.T).t == x))) = false := by
        have := hm.1
        rw [hm.2]; simp at this ⊢; exact this
      rw [hc]; rfl
    | false =>
      rw [hm] at h1
      have hn : noR b [] q = true := by
        unfold noR
        have : ((wOf (hd q.T)).k != b) = true := by simpa using h1
        rw [this]; simp
      rw [nx_err hn hw2]
      have hc : ((hd q.T).k != 3 || (!(x == []) && !((hd q.T).t == x))) = true := by
        rw [hx]
        cases h3 : ((hd q.T).k == 3) with
        | false => simp at h3 ⊢; exact .inl h3
        | true => rw [h3] at hm; rw [Bool.true_and] at hm; rw [hm]; simp
      rw [hc]; rfl
theorem nx_word_eq (x : List UInt8) : ((nxR 119 x q).1.t, (nxR 119 x q).2) = takeT 1 x q := by
  have h1 := wk_1 t
  unfold takeT
  cases hw : decide (q.w ≥ 0) with
  | true =>
    have hw2 : decide (q.w < 0) = false := by simp at hw ⊢; omega
    rw [nxR_old hw2]; rfl
  | false =>
    have hw2 : decide (q.w < 0) = true := by simp at hw ⊢; omega
    cases hm : ((hd q.T).k == 1) with
    | true =>
      rw [hm] at h1
      have h2 : (wOf (hd q.T)).k = 119 := by simpa using h1
      have h3 : (wOf (hd q.T)).t = (hd q.T).t := by
        show (if (hd q.T).k == 1 || (hd q.T).k == 3 then _ else _) = _
        rw [hm]; rfl
      have hk : ((hd q.T).k != 1) = false := by simpa using hm
      rw [hk, Bool.false_or]
      cases hx : (!(x == []) && !((hd q.T).t == x)) with
      | true =>
        have hn : noR 119 x q = true := by unfold noR; rw [h3, hx]; simp
        rw [nx_err hn hw2]; rfl
      | false =>
        have hn : noR 119 x q = false := by unfold noR; rw [h3, hx, hw, h2]; rfl
        rw [nx_go hn (by rw [h2]; rfl)]
        rw [h3]; rfl
    | false =>
      rw [hm] at h1
      have hn : noR 119 x q = true := by
        unfold noR
        have : ((wOf (hd q.T)).k != 119) = true := by simpa using h1
        rw [this]; simp
      rw [nx_err hn hw2]
      have hk : ((hd q.T).k != 1) = true := by simpa using hm
      rw [hk]; rfl
theorem nx_text_eq : ((nxR 113 [] q).1.v, (nxR 113 [] q).2) = takeT 2 [] q := by
  have h1 := wk_2 t
  unfold takeT
  cases hw : decide (q.w ≥ 0) with
  | true =>
    have hw2 : decide (q.w < 0) = false := by simp at hw ⊢; omega
    rw [nxR_old hw2]; rfl
  | false =>
    have hw2 : decide (q.w < 0) = true := by simp at hw ⊢; omega
    cases hm : ((hd q.T).k == 2) with
    | true =>
      rw [hm] at h1
      have h2 : (wOf (hd q.T)).k = 113 := by simpa using h1
      have h3 : (wOf (hd q.T)).v = (hd q.T).t := by
        show (if (hd q.T).k == 2 then _ else _) = _
        rw [hm]; rfl
      have hk : ((hd q.T).k != 2) = false := by simpa using hm
      have hn : noR 113 [] q = false := by unfold noR; rw [hw, h2]; rfl
      rw [nx_go hn (by rw [h2]; rfl), hk]
      rw [h3]; rfl
    | false =>
      rw [hm] at h1
      have hn : noR 113 [] q = true := by
        unfold noR
        have : ((wOf (hd q.T)).k != 113) = true := by simpa using h1
        rw [this]; simp
      rw [nx_err hn hw2]
      have hk : ((hd q.T).k != 2) = true := by simpa using hm
      rw [hk]; rfl
theorem nx_end_eq : (nxR 101 [] q).2 = endS q := by
  have h1 := wk_0 t
  unfold endS
  cases hw : decide (q.w < 0) with
  | false => rw [nxR_old hw]; rfl
  | true =>
    have hw2 : decide (q.w ≥ 0) = false := by simp at hw ⊢; omega
    cases hm : ((hd q.T).k == 0) with
    | true =>
      rw [hm] at h1
      have h2 : (wOf (hd q.T)).k = 101 := by simpa using h1
      have hn : noR 101 [] q = false := by unfold noR; rw [hw2, h2]; rfl
      have hk : ((hd q.T).k != 0) = false := by simpa using hm
      rw [nx_stay hn (by rw [h2]; rfl), hk]; rfl
    | false =>
      rw [hm] at h1
      have hn : noR 101 [] q = true := by
        unfold noR
        have : ((wOf (hd q.T)).k != 101) = true := by simpa using h1
        rw [this]; simp
      have hk : ((hd q.T).k != 0) = true := by simpa using hm
      rw [nx_err hn hw, hk, fail_1 hw]; rfl
end
def SameB {α : Type} (a b : α × PS) : Prop := a.2.w = b.2.w ∧ (a.2.w < 0 → a = b)
theorem SameB.refl {α : Type} (a : α × PS) : SameB a a := ⟨rfl, fun _ => rfl⟩
theorem SameB.bad {α : Type} {a b : α × PS} {n : Nat} (h : a.2.w = (n : Int)) (h2 : b.2.w = (n : Int)) : SameB a b := ⟨h.trans h2.symm, fun h3 => by omega⟩
theorem take_old {k : Int} {x : List UInt8} {q : PS} (h : ¬ q.w < 0) : takeT k x q = ([], q) := take_0 (by simp; omega)
theorem isT_old {k : Int} {x : List UInt8} {q : PS} (h : ¬ q.w < 0) : isT k x q = false := by
  unfold isT; rw [show decide (q.w < 0) = false from by simpa using h]; rfl
theorem fail_old {a : Int} {q : PS} (h : ¬ q.w < 0) : failT a q = q := fail_0 (by simpa using h)
theorem condG_old {b : Bool} {f : PS → CT × PS} {q : PS} (h : ¬ q.w < 0) : condG b f q = (CT.z, q) := by
  have h1 := take_old (k := 1) (x := []) h
  rw [cg_else (isT_old h) (by rw [h1]; rfl) (by rw [h1]; rfl) (by rw [h1]; rfl) (by rw [h1]; rfl) (by rw [h1]; rfl) (by rw [h1]; rfl), h1]
  show (CT.z, failT _ q) = _
  rw [fail_old h]
theorem condT_old (n : Nat) {q : PS} (h : ¬ q.w < 0) : condT n q = (CT.z, q) := by rw [condT_eq]; exact condG_old h
/-- A function that stays in an error. -/
def Old (f : PS → CT × PS) : Prop := ∀ q : PS, ¬ q.w < 0 → (f q).2 = q
theorem old_T (n : Nat) : Old (condT n) := fun q h => by rw [condT_old n h]
theorem old_R (n : Nat) : Old (condR n) := fun q h => condR_old n (by simpa using h)
theorem more_old {f : PS → CT × PS} {x : List UInt8} {n : Nat} {l : List CT} {q : PS} (h : ¬ q.w < 0) : moreG f x n l q = (l, q) := by
  cases n with
  | zero => rfl
  | succ n => unfold moreG; rw [if_neg (by rw [isT_old h]; simp)]
theorem moreR_old {f : PS → CT × PS} {x : List UInt8} {n : Nat} {b : Bool} {l : List CT} {q : PS} (h : ¬ q.w < 0) : moreR f x n b l q = (l, q) := by
  cases n with
  | zero => rfl
  | succ n => unfold moreR; rw [if_neg (by simpa using h)]
section
variable {s : List UInt8} {f g : PS → CT × PS} (hf : ∀ q, Rch q.T (f q).2.T) (hs : ∀ q, Good s q.T → TO q.T → SameB (f q) (g q)) (og : Old g)
include hf hs og
omit og in
theorem sameb_short (k : Int) {q : PS} (h : Good s q.T) (t : TO q.T) : SameB (shortG f k q) (shortR g k q) := by
  unfold shortG shortR
  rw [is_sign t 41 [41] (by simp)]
  split
  · obtain ⟨h1, h2⟩ := hs q h t
    by_cases hw : (f q).2.w < 0
    · rw [← h2 hw, nx_sign_eq (t.go (hf q)) 41 [41] (by simp)]; exact SameB.refl _
    · have hw2 : ¬ (g q).2.w < 0 := by omega
      refine ⟨?_, fun h3 => ?_⟩
      · show (takeT 3 [41] (f q).2).2.w = (nxR 41 [] (g q).2).2.w
        rw [take_old hw, nxR_old (by simpa using hw2)]; exact h1
      · have h3 : (takeT 3 [41] (f q).2).2.w < 0 := h3
        rw [take_old hw] at h3; exact (hw h3).elim
  · rw [nx_sign_eq t 41 [41] (by simp)]; exact SameB.refl _
theorem sameb_more {x : List UInt8} (hx : (x == []) = false) : ∀ (n : Nat) (b : Bool) (l : List CT) (q : PS), Good s q.T → TO q.T → (q.w < 0 → q.T.length < n) → (b = false → isT 1 x q = true) →
    SameB ((moreG f x n l q).1, (takeT 3 [41] (moreG f x n l q).2).2) (moreR g x n b l q)
  | 0, b, l, q, h, t, hn, hb => by
    have hw : ¬ q.w < 0 := fun hw => by have := hn hw; omega
    rw [more_old hw, moreR_old hw]
    show SameB (l, (takeT 3 [41] q).2) (l, q)
    rw [take_old hw]; exact SameB.refl _
  | n + 1, b, l, q, h, t, hn, hb => by
    by_cases hw : q.w < 0
    case neg =>
      rw [more_old hw, moreR_old hw]
      show SameB (l, (takeT 3 [41] q).2) (l, q)
      rw [take_old hw]; exact SameB.refl _
    case pos =>
      have hwt : decide (q.w < 0) = true := by simpa using hw
      have hge : decide (q.w ≥ 0) = false := by simp; omega
      cases hi : isT 1 x q with
      | true =>
        have hk : ((hd q.T).k == 1) = true := by unfold isT at hi; simp only [Bool.and_eq_true] at hi; exact hi.1.2
        have ht : ((hd q.T).t == x) = true := by unfold isT at hi; simp only [Bool.and_eq_true] at hi; exact hi.2
        have h41 : isR 41 [] q = false := by
          rw [is_sign t 41 [41] (by simp)]; unfold isT
          have : (hd q.T).k = 1 := by simpa using hk
          rw [this]; simp
        have hnx : (nxR 119 x q).2 = advS q := by
          have := nx_word_eq t x
          have h2 := congrArg Prod.snd this
          rw [show (nxR 119 x q).2 = (takeT 1 x q).2 from h2]
          rw [take_2 hge (by rw [ht]; have : (hd q.T).k = 1 := by simpa using hk
                             rw [this]; simp)]
        have hm : moreG f x (n + 1) l q = moreG f x n (l ++ [(f (advS q)).1]) (f (advS q)).2 := by
          rw [moreG.eq_2, if_pos hi]
        have hr : moreR g x (n + 1) b l q = moreR g x n true (l ++ [(g (advS q)).1]) (g (advS q)).2 := by
          rw [moreR.eq_2, if_pos hwt, h41, Bool.and_false, if_neg (by simp), hnx]
        rw [hm, hr]
        have ga : Good s (advS q).T := good_adv h
        have ta : TO (advS q).T := t.go (rch_adv q)
        obtain ⟨h1, h2⟩ := hs (advS q) ga ta
        have hlen := adv_short h hi
        have hq := hn hw
        by_cases hw3 : (f (advS q)).2.w < 0
        · rw [← h2 hw3]
          exact sameb_more hx n true _ _ ((hf _).good ga) (ta.go (hf _)) (fun _ => by have := (hf (advS q)).len; omega) (fun h => by cases h)
        · have hw4 : ¬ (g (advS q)).2.w < 0 := by omega
          rw [more_old hw3, moreR_old hw4]
          refine ⟨?_, fun h3 => ?_⟩
          · show (takeT 3 [41] (f (advS q)).2).2.w = (g (advS q)).2.w
            rw [take_old hw3]; exact h1
          · have h3 : (takeT 3 [41] (f (advS q)).2).2.w < 0 := h3
            rw [take_old hw3] at h3; exact (hw3 h3).elim
      | false =>
        have hb : b = true := by cases b with
          | true => rfl
          | false => rw [hb rfl] at hi; cases hi
        subst hb
        have hm : moreG f x (n + 1) l q = (l, q) := by rw [moreG.eq_2, if_neg (by rw [hi]; simp)]
        rw [hm]
        cases h41 : isT 3 [41] q with
        | true =>
          have h4 : isR 41 [] q = true := by rw [is_sign t 41 [41] (by simp)]; exact h41
          rw [moreR.eq_2, if_pos hwt, h4, if_pos (by rfl), nx_sign_eq t 41 [41] (by simp)]
          exact SameB.refl _
        | false =>
          have h4 : isR 41 [] q = false := by rw [is_sign t 41 [41] (by simp)]; exact h41
          rw [moreR.eq_2, if_pos hwt, h4, Bool.and_false, if_neg (by simp)]
          have hc : ((hd q.T).k != 3 || (!(([41] : List UInt8) == []) && !((hd q.T).t == [41]))) = true := by
            unfold isT at h41; rw [hwt, Bool.true_and] at h41
            cases h5 : ((hd q.T).k == 3) with
            | false => simp at h5 ⊢; exact .inl h5
            | true => rw [h5, Bool.true_and] at h41; rw [h41]; simp
          have hn2 : noR 119 x q = true := by
            have h6 : isR 119 x q = false := by rw [is_word t x hx]; exact hi
            unfold isR at h6; rw [hwt, Bool.true_and, hx, Bool.false_or] at h6
            unfold noR; rw [hx]
            cases h7 : ((wOf (hd q.T)).k == 119) with
            | false => have : ((wOf (hd q.T)).k != 119) = true := by simpa using h7
                       rw [this]; simp
            | true => rw [h7, Bool.true_and] at h6; rw [h6]; simp
          rw [nx_err hn2 hwt]
          refine SameB.bad (n := (hd q.T).a) ?_ ?_
          · show (takeT 3 [41] q).2.w = _
            rw [take_1 hge hc]
          · have h0 : ¬ (⟨q.T, ((hd q.T).a : Int)⟩ : PS).w < 0 := by show ¬ ((hd q.T).a : Int) < 0; omega
            show (moreR g x n true (l ++ [(g ⟨q.T, ((hd q.T).a : Int)⟩).1]) (g ⟨q.T, ((hd q.T).a : Int)⟩).2).2.w = _
            rw [og _ h0, moreR_old h0]
theorem sameb_long {q : PS} (h : Good s q.T) (t : TO q.T) : SameB (longG f q) (longR g q) := by
  obtain ⟨h1, h2⟩ := hs q h t
  unfold longG longR
  dsimp only
  by_cases hw : (f q).2.w < 0
  case neg =>
    have hw2 : ¬ (g q).2.w < 0 := by omega
    have hsg : signT (f q).2 = (f q).2 := sign_0 (by rw [show decide ((f q).2.w < 0) = false from by simpa using hw]; rfl)
    rw [hsg, more_old hw, moreR_old hw2]
    refine ⟨?_, fun h3 => ?_⟩
    · show (takeT 3 [41] (f q).2).2.w = (g q).2.w
      rw [take_old hw]; exact h1
    · have h3 : (takeT 3 [41] (f q).2).2.w < 0 := h3
      rw [take_old hw] at h3; exact (hw h3).elim
  case pos =>
    rw [← h2 hw]
    have gr := (hf q).good h
    have tr := t.go (hf q)
    have hwt : decide ((f q).2.w < 0) = true := by simpa using hw
    have hge : decide ((f q).2.w ≥ 0) = false := by simp; omega
    cases hsg : (decide ((f q).2.w < 0) && ((hd (f q).2.T).k != 1 || (!((hd (f q).2.T).t == wAnd) && !((hd (f q).2.T).t == wOr)))) with
    | true =>
      have hE : signT (f q).2 = ⟨(f q).2.T, (hd (f q).2.T).a⟩ := by rw [sign_1 hsg, fail_1 hwt]
      have h0 : ¬ (⟨(f q).2.T, ((hd (f q).2.T).a : Int)⟩ : PS).w < 0 := by show ¬ ((hd (f q).2.T).a : Int) < 0; omega
      rw [hE, more_old h0]
      rw [hwt, Bool.true_and] at hsg
      have hno : ∀ x : List UInt8, (x = wAnd ∨ x = wOr) → isT 1 x (f q).2 = false := fun x hx => by
        unfold isT; rw [hwt, Bool.true_and]
        cases h5 : ((hd (f q).2.T).k == 1) with
        | false => rfl
        | true =>
          have h5' : ((hd (f q).2.T).k != 1) = false := by simpa using h5
          rw [h5', Bool.false_or] at hsg
          simp only [Bool.and_eq_true, Bool.not_eq_true'] at hsg
          rw [Bool.true_and]
          rcases hx with rfl | rfl
          · exact hsg.1
          · exact hsg.2
      have hor : isR 119 wOr (f q).2 = false := by rw [is_word tr wOr rfl]; exact hno _ (.inr rfl)
      have hX : signR (f q).2 = wAnd := sr_0 hor
      rw [hX]
      have hand : isR 119 wAnd (f q).2 = false := by rw [is_word tr wAnd rfl]; exact hno _ (.inl rfl)
      have hn2 : noR 119 wAnd (f q).2 = true := by
        unfold isR at hand; rw [hwt, Bool.true_and, show (wAnd == ([] : List UInt8)) = false from rfl, Bool.false_or] at hand
        unfold noR; rw [show (wAnd == ([] : List UInt8)) = false from rfl]
        cases h7 : ((wOf (hd (f q).2.T)).k == 119) with
        | false => have : ((wOf (hd (f q).2.T)).k != 119) = true := by simpa using h7
                   rw [this]; simp
        | true => rw [h7, Bool.true_and] at hand; rw [hand]; simp
      refine SameB.bad (n := (hd (f q).2.T).a) ?_ ?_
      · show (takeT 3 [41] ⟨(f q).2.T, ((hd (f q).2.T).a : Int)⟩).2.w = _
        rw [take_old h0]
      · show (moreR g wAnd ((f q).2.T.length + 1) false [(f q).1] (f q).2).2.w = _
        rw [moreR.eq_2, if_pos hwt, Bool.false_and, if_neg (by simp), nx_err hn2 hwt]
        show (moreR g wAnd _ true _ (g ⟨(f q).2.T, ((hd (f q).2.T).a : Int)⟩).2).2.w = _
        rw [og _ h0, moreR_old h0]
    | false =>
      have hE : signT (f q).2 = (f q).2 := sign_0 hsg
      rw [hE]
      rw [hwt, Bool.true_and, Bool.or_eq_false_iff] at hsg
      have hk : ((hd (f q).2.T).k == 1) = true := by simpa using hsg.1
      have hx : (hd (f q).2.T).t = wAnd ∨ (hd (f q).2.T).t = wOr := by
        have h5 := hsg.2
        cases h6 : ((hd (f q).2.T).t == wAnd) with
        | true => exact .inl (by simpa using h6)
        | false => rw [h6] at h5; exact .inr (by simpa using h5)
      have hXe : signR (f q).2 = (hd (f q).2.T).t := by
        have hor : isR 119 wOr (f q).2 = ((hd (f q).2.T).t == wOr) := by
          rw [is_word tr wOr rfl]; unfold isT; rw [hwt, hk]; simp
        rcases hx with hx | hx
        · rw [hx] at hor ⊢; exact sr_0 hor
        · rw [hx] at hor ⊢; exact sr_1 hor
      have hi : isT 1 (hd (f q).2.T).t (f q).2 = true := by unfold isT; rw [hwt, hk]; simp
      have hne : ((hd (f q).2.T).t == []) = false := by rcases hx with hx | hx <;> rw [hx] <;> rfl
      rw [hXe]
      obtain ⟨h3, h4⟩ := sameb_more hf hs og hne ((f q).2.T.length + 1) false [(f q).1] (f q).2 gr tr (fun _ => by omega) (fun _ => hi)
      refine ⟨h3, fun h5 => ?_⟩
      have h6 := h4 h5
      have h7 : (moreG f (hd (f q).2.T).t ((f q).2.T.length + 1) [(f q).1] (f q).2).1 = (moreR g (hd (f q).2.T).t ((f q).2.T.length + 1) false [(f q).1] (f q).2).1 := (Prod.mk.inj (h6.trans (Prod.eta _).symm)).1
      have h8 : (takeT 3 [41] (moreG f (hd (f q).2.T).t ((f q).2.T.length + 1) [(f q).1] (f q).2).2).2 = (moreR g (hd (f q).2.T).t ((f q).2.T.length + 1) false [(f q).1] (f q).2).2 := (Prod.mk.inj (h6.trans (Prod.eta _).symm)).2
      show (CT.mk _ [] [] (moreG f (hd (f q).2.T).t ((f q).2.T.length + 1) [(f q).1] (f q).2).1, (takeT 3 [41] (moreG f (hd (f q).2.T).t ((f q).2.T.length + 1) [(f q).1] (f q).2).2).2) = _
      rw [h7, h8]
theorem sameb_list {q : PS} (h : Good s q.T) (t : TO q.T) : SameB (listG false f q) (groupR g q) := by
  have e := nx_sign_eq t 40 [40] (by simp)
  have g1 := (rch_take 3 [40] q).good h
  have t1 := t.go (rch_take 3 [40] q)
  unfold listG groupR
  rw [if_neg (by simp), e, is_word t1 wAnd rfl, is_word t1 wOr rfl]
  have hq : ∀ x : List UInt8, isT 1 x (takeT 3 [40] q).2 = true → (nxR 119 x (takeT 3 [40] q).2).2 = advS (takeT 3 [40] q).2 := fun x hx => by
    have h2 := congrArg Prod.snd (nx_word_eq t1 x)
    rw [show (nxR 119 x (takeT 3 [40] q).2).2 = (takeT 1 x (takeT 3 [40] q).2).2 from h2]
    unfold isT at hx; simp only [Bool.and_eq_true] at hx
    have hge : decide ((takeT 3 [40] q).2.w ≥ 0) = false := by have := hx.1.1; simp at this ⊢; omega
    rw [take_2 hge (by rw [hx.2]; have := hx.1.2; simp at this ⊢; exact this)]
  have ga := good_adv g1
  have ta := t1.go (rch_adv _)
  split
  · rename_i hx
    rw [hq _ hx]; exact sameb_short hf hs 7 ga ta
  · split
    · rename_i hx
      rw [hq _ hx]; exact sameb_short hf hs 8 ga ta
    · exact sameb_long hf hs og g1 t1
end
theorem sameb_fact {q : PS} (t : TO q.T) (k : Int) : factG k q = factR k q := by
  have e1 := nx_word_eq t []
  have t1 := t.go (rch_take 1 [] q)
  have e2 := nx_sign_eq t1 61 [61] (by simp)
  have t2 := t1.go (rch_take 3 [61] _)
  have e3 := nx_text_eq t2
  unfold factG factR
  dsimp only
  rw [← e1] at e2 e3 ⊢
  dsimp only at e2 e3 ⊢
  rw [e2, ← e3]
theorem sameb_version {q : PS} (t : TO q.T) : versionG q = versionR q := by
  have e1 := nx_word_eq t []
  have t1 := t.go (rch_take 1 [] q)
  have e2 := nx_word_eq t1 wIn
  have t2 := t1.go (rch_take 1 wIn _)
  have e3 := nx_text_eq t2
  unfold versionG versionR
  dsimp only
  rw [← e1] at e2 e3 ⊢
  dsimp only at e2 e3 ⊢
  rw [← e2] at e3 ⊢
  dsimp only at e3 ⊢
  rw [← e3]
theorem sameb_cond {s : List UInt8} {last : Bool} {f g : PS → CT × PS} (hf : ∀ q, Rch q.T (f q).2.T) (hs : last = false → ∀ q, Good s q.T → TO q.T → SameB (f q) (g q)) (og : last = false → Old g)
    {q : PS} (h : Good s q.T) (t : TO q.T) : SameB (condG last f q) (condRG last g q) := by
  by_cases hw : q.w < 0
  case neg =>
    rw [condG_old hw]
    refine ⟨?_, fun h3 => (hw h3).elim⟩
    rw [condRG_old (by simpa using hw)]
  case pos =>
  have hwt : decide (q.w < 0) = true := by simpa using hw
  have hge : decide (q.w ≥ 0) = false := by simp; omega
  have e40 := is_sign t 40 [40] (by simp)
  have en := is_word t wNot rfl
  have hno : ∀ {k x}, isT k x q = isT k x q := rfl
  cases hl : isT 3 [40] q with
  | true =>
    rw [cg_list hl]
    cases last with
    | true =>
      rw [cr_deep (by rw [e40, hl]; rfl), lg_last, fail_1 hwt]
      exact SameB.refl _
    | false =>
      rw [cr_group (by rw [Bool.and_false]) (by rw [e40, hl])]
      exact sameb_list hf (hs rfl) (og rfl) h t
  | false =>
    have r40 : isR 40 [] q = false := by rw [e40]; exact hl
    -- what the first word is
    cases hk : ((hd q.T).k == 1) with
    | false =>
      have hc : ((hd q.T).k != 1 || (!(([] : List UInt8) == []) && !((hd q.T).t == []))) = true := by
        have : ((hd q.T).k != 1) = true := by simpa using hk
        rw [this]; rfl
      have e1 := take_1 (k := 1) (x := []) hge hc
      have iR : ∀ x, isR 119 x q = false := fun x => by unfold isR; rw [wk_1 t, hk]; simp
      have nR : ∀ x, (!(isR 119 x q)) = true := fun x => by rw [iR]; rfl
      rw [cg_else hl (by rw [e1]; rfl) (by rw [e1]; rfl) (by rw [e1]; rfl) (by rw [e1]; rfl) (by rw [e1]; rfl) (by rw [e1]; rfl),
        cr_else (by rw [r40, iR]; rfl) r40 (nR _) (nR _) (nR _) (nR _) (nR _) (nR _), e1, stop_1 hwt]
      rw [fail_0 (by show decide (((hd q.T).a : Int) < 0) = false; simp)]
      exact SameB.refl _
    | true =>
      have hc : ((hd q.T).k != 1 || (!(([] : List UInt8) == []) && !((hd q.T).t == []))) = false := by
        have : ((hd q.T).k != 1) = false := by simpa using hk
        rw [this]; rfl
      have e1 := take_2 (k := 1) (x := []) hge hc
      have iR : ∀ x, (x == []) = false → isR 119 x q = ((hd q.T).t == x) := fun x hx => by
        rw [is_word t x hx]; unfold isT; rw [hwt, hk]; simp
      have iF : ∀ {x}, (x == []) = false → ((hd q.T).t == x) = false → (!(isR 119 x q)) = true := fun hx h => by rw [iR _ hx, h]; rfl
      have iT : ∀ {x}, (x == []) = false → ((hd q.T).t == x) = true → (!(isR 119 x q)) = false := fun hx h => by rw [iR _ hx, h]; rfl
      have nx : ∀ {x}, ((hd q.T).t == x) = true → (nxR 119 x q).2 = advS q := fun {x} hx => by
        have h2 := congrArg Prod.snd (nx_word_eq t x)
        rw [show (nxR 119 x q).2 = (takeT 1 x q).2 from h2]
        rw [take_2 hge (by rw [hx]; have : (hd q.T).k = 1 := by simpa using hk
                           rw [this]; simp)]
      have ga := good_adv h
      have ta := t.go (rch_adv q)
      have et1 : (takeT 1 [] q).1 = (hd q.T).t := by rw [e1]
      have et2 : (takeT 1 [] q).2 = advS q := by rw [e1]
      cases w1 : ((hd q.T).t == wAlways) with
      | true =>
        have hd1 : ((isR 40 [] q || isR 119 wNot q) && last) = false := by
          rw [r40, iR _ rfl]
          have : (hd q.T).t = wAlways := by simpa using w1
          rw [this]; rfl
        rw [cg_always hl (by rw [et1]; exact w1), cr_always hd1 r40 (iT rfl w1), et2, nx w1]; exact SameB.refl _
      | false =>
      cases w2 : ((hd q.T).t == wFact) with
      | true =>
        have hd1 : ((isR 40 [] q || isR 119 wNot q) && last) = false := by
          rw [r40, iR _ rfl]
          have : (hd q.T).t = wFact := by simpa using w2
          rw [this]; rfl
        rw [cg_fact hl (by rw [et1]; exact w1) (by rw [et1]; exact w2) (by rw [et1]; exact fact_set w2), cr_fact hd1 r40 (iF rfl w1) (iT rfl w2), et2, nx w2, sameb_fact ta]; exact SameB.refl _
      | false =>
      cases w3 : ((hd q.T).t == wSetting) with
      | true =>
        have hd1 : ((isR 40 [] q || isR 119 wNot q) && last) = false := by
          rw [r40, iR _ rfl]
          have : (hd q.T).t = wSetting := by simpa using w3
          rw [this]; rfl
        rw [cg_setting hl (by rw [et1]; exact w1) (by rw [et1]; exact w3), cr_setting hd1 r40 (iF rfl w1) (iF rfl w2) (iT rfl w3), et2, nx w3, sameb_fact ta]; exact SameB.refl _
      | false =>
      cases w4 : ((hd q.T).t == wHas) with
      | true =>
        have hd1 : ((isR 40 [] q || isR 119 wNot q) && last) = false := by
          rw [r40, iR _ rfl]
          have : (hd q.T).t = wHas := by simpa using w4
          rw [this]; rfl
        rw [cg_has hl (by rw [et1]; exact w1) (by rw [et1]; exact w2) (by rw [et1]; exact w3) (by rw [et1]; exact w4), cr_has hd1 r40 (iF rfl w1) (iF rfl w2) (iF rfl w3) (iT rfl w4), et2, nx w4]
        unfold haveR
        rw [← nx_word_eq ta []]; exact SameB.refl _
      | false =>
      cases w5 : ((hd q.T).t == wVersion) with
      | true =>
        have hd1 : ((isR 40 [] q || isR 119 wNot q) && last) = false := by
          rw [r40, iR _ rfl]
          have : (hd q.T).t = wVersion := by simpa using w5
          rw [this]; rfl
        rw [cg_version hl (by rw [et1]; exact w1) (by rw [et1]; exact w2) (by rw [et1]; exact w3) (by rw [et1]; exact w4) (by rw [et1]; exact w5), cr_version hd1 r40 (iF rfl w1) (iF rfl w2) (iF rfl w3) (iF rfl w4) (iT rfl w5), et2, nx w5, sameb_version ta]; exact SameB.refl _
      | false =>
      cases w6 : ((hd q.T).t == wNot) with
      | true =>
        cases last with
        | true =>
          rw [cg_not0 hl (by rw [et1]; exact w1) (by rw [et1]; exact w2) (by rw [et1]; exact w3) (by rw [et1]; exact w4) (by rw [et1]; exact w5) (by rw [et1]; exact w6) rfl, et2,
            cr_deep (by rw [r40, iR _ rfl, w6]; rfl), fail_1 (show decide ((advS q).w < 0) = true from hwt)]
          exact SameB.bad (n := (hd q.T).a) rfl rfl
        | false =>
          rw [cg_not hl (by rw [et1]; exact w1) (by rw [et1]; exact w2) (by rw [et1]; exact w3) (by rw [et1]; exact w4) (by rw [et1]; exact w5) (by rw [et1]; exact w6) rfl, et2,
            cr_not (by rw [Bool.and_false]) r40 (iF rfl w1) (iF rfl w2) (iF rfl w3) (iF rfl w4) (iF rfl w5) (iT rfl w6), nx w6]
          obtain ⟨h1, h2⟩ := hs rfl (advS q) ga ta
          exact ⟨h1, fun h3 => by rw [h2 h3]⟩
      | false =>
        have hd1 : ((isR 40 [] q || isR 119 wNot q) && last) = false := by rw [r40, iR _ rfl, w6]; rfl
        rw [cg_else hl (by rw [et1]; exact w1) (by rw [et1]; exact w2) (by rw [et1]; exact w3) (by rw [et1]; exact w4) (by rw [et1]; exact w5) (by rw [et1]; exact w6), et2,
          cr_else hd1 r40 (iF rfl w1) (iF rfl w2) (iF rfl w3) (iF rfl w4) (iF rfl w5) (iF rfl w6), stop_1 hwt, fail_1 (show decide ((advS q).w < 0) = true from hwt)]
        exact SameB.bad (n := (hd q.T).a) rfl rfl
theorem sameb_condT {s : List UInt8} : ∀ (n : Nat) (q : PS), Good s q.T → TO q.T → SameB (condT n q) (condR n q)
  | 0, q, h, t => sameb_cond (f := fun q => (CT.z, q)) (g := fun q => (CT.z, q)) (fun q => .refl _) (fun h => by cases h) (fun h => by cases h) h t
  | n + 1, q, h, t => sameb_cond (rch_condT n) (fun _ q h t => sameb_condT n q h t) (fun _ => old_R n) h t
theorem sameb_read {s : List UInt8} (hs : s.length ≤ 4000) : SameB (readP s) (readR s) := by
  have g := (toks_gd hs).1
  have t := toks_to s
  obtain ⟨h1, h2⟩ := sameb_condT 100 ⟨toks s, -1⟩ g t
  have tt := t.go (rch_condT 100 ⟨toks s, -1⟩)
  unfold readP readR
  by_cases hw : (condT 100 ⟨toks s, -1⟩).2.w < 0
  · rw [← h2 hw, nx_end_eq tt]; exact SameB.refl _
  · have hw2 : ¬ (condR 100 ⟨toks s, -1⟩).2.w < 0 := by omega
    rw [nxR_old (by simpa using hw2), end_0 (by rw [show decide ((condT 100 ⟨toks s, -1⟩).2.w < 0) = false from by simpa using hw]; rfl)]
    exact ⟨h1, fun h => (hw h).elim⟩
end Go.Proofs.YtjibdoagpegniaaGreatDoor

/- Plain words: what is read has no more parts than there are tokens; the two errors of a condition agree; so do both readers. -/
set_option linter.unusedVariables false
set_option linter.unusedSimpArgs false
namespace Go.Proofs.YtjibdoagpegniaaGreatDoor
open Go
theorem ws_app : ∀ (l m : List CT), CT.ws (l ++ m) = CT.ws l + CT.ws m
  | [], m => by show CT.ws m = 0 + CT.ws m; omega
  | c :: l, m => by
    show c.w + CT.ws (l ++ m) = (c.w + CT.ws l) + CT.ws m
    rw [ws_app l m]; omega
theorem take_cons {s : List UInt8} {k : Int} {x : List UInt8} {q : PS} (h : Good s q.T) (hk : k = 1 ∨ k = 2 ∨ k = 3) (hw : (takeT k x q).2.w < 0) : q.w < 0 ∧ (takeT k x q).2.T.length + 1 ≤ q.T.length := by
  by_cases h1 : q.w < 0
  case neg => rw [take_old h1] at hw; exact (h1 hw).elim
  case pos =>
  refine ⟨h1, ?_⟩
  have hge : decide (q.w ≥ 0) = false := by simp; omega
  cases hc : ((hd q.T).k != k || (!(x == []) && !((hd q.T).t == x))) with
  | true => rw [take_1 hge hc] at hw; have hw : ((hd q.T).a : Int) < 0 := hw; omega
  | false =>
    rw [take_2 hge hc]
    have hk2 : (hd q.T).k = k := by simp only [Bool.or_eq_false_iff] at hc; simpa using hc.1
    obtain ⟨T, w⟩ := q
    match T, h, hk2 with
    | [y], h, hk2 =>
      have hk2 : y.k = k := hk2
      refine (good_last h ?_).elim
      rw [hk2]; rcases hk with rfl | rfl | rfl <;> simp
    | y :: z :: l, h, hk2 => simp [advS, adv]
def Few (s : List UInt8) (f : PS → CT × PS) : Prop := ∀ q, Good s q.T → (f q).2.w < 0 → (f q).1.w + (f q).2.T.length ≤ q.T.length
section
variable {s : List UInt8} {f : PS → CT × PS} (hf : ∀ q, Rch q.T (f q).2.T) (hw : Few s f) (ho : Old f)
include hf hw
theorem few_short (k : Int) {q : PS} (h : Good s q.T) (h1 : (shortG f k q).2.w < 0) : (shortG f k q).1.w + (shortG f k q).2.T.length ≤ q.T.length := by
  unfold shortG at h1 ⊢
  split at h1
  · rename_i hc
    rw [if_pos hc]
    have h2 := take_cons ((hf q).good h) (.inr (.inr rfl)) h1
    have h3 := hw q h h2.1
    show (CT.ws [(f q).1] + 1) + (takeT 3 [41] (f q).2).2.T.length ≤ _
    have h4 : CT.ws [(f q).1] = (f q).1.w + 0 := rfl
    omega
  · rename_i hc
    rw [if_neg hc]
    have h2 := take_cons h (.inr (.inr rfl)) h1
    show (CT.ws [] + 1) + (takeT 3 [41] q).2.T.length ≤ _
    have h4 : CT.ws [] = 0 := rfl
    omega
theorem few_more (x : List UInt8) : ∀ (n : Nat) (l : List CT) (q : PS), Good s q.T → (moreG f x n l q).2.w < 0 → CT.ws (moreG f x n l q).1 + (moreG f x n l q).2.T.length ≤ CT.ws l + q.T.length
  | 0, l, q, h, h1 => Nat.le_refl _
  | n + 1, l, q, h, h1 => by
    rw [moreG.eq_2] at h1 ⊢
    split at h1
    · rename_i hc
      rw [if_pos hc]
      have h2 := few_more x n _ _ ((hf _).good (good_adv h)) h1
      have h5 : (f (advS q)).2.w < 0 := by
        by_cases h5 : (f (advS q)).2.w < 0
        · exact h5
        · rw [more_old h5] at h1; exact h1
      have h3 := hw (advS q) (good_adv h) h5
      have h4 := adv_short h hc
      rw [ws_app] at h2
      have h6 : CT.ws [(f (advS q)).1] = (f (advS q)).1.w + 0 := rfl
      omega
    · rename_i hc
      rw [if_neg hc]; exact Nat.le_refl _
theorem few_long {q : PS} (h : Good s q.T) (h1 : (longG f q).2.w < 0) : (longG f q).1.w + (longG f q).2.T.length ≤ q.T.length := by
  have hg := (hf q).good h
  have hsT : (signT (f q).2).T = (f q).2.T := by unfold signT failT; (repeat' split) <;> rfl
  have hgs : Good s (signT (f q).2).T := by rw [hsT]; exact hg
  have h1' : (takeT 3 [41] (moreG f (hd (f q).2.T).t (hd (f q).2.T :: (f q).2.T).length [(f q).1] (signT (f q).2)).2).2.w < 0 := h1
  have hr : Good s (moreG f (hd (f q).2.T).t (hd (f q).2.T :: (f q).2.T).length [(f q).1] (signT (f q).2)).2.T := (rch_more hf _ _ _ _).good hgs
  have h2 := take_cons hr (.inr (.inr rfl)) h1'
  have h3 := few_more hf hw _ _ _ _ hgs h2.1
  have h5 : (signT (f q).2).w < 0 := by
    by_cases h5 : (signT (f q).2).w < 0
    · exact h5
    · have h6 := h2.1; rw [more_old h5] at h6; exact h6
  have h6 : (f q).2.w < 0 := by
    by_cases h6 : (f q).2.w < 0
    · exact h6
    · rw [sign_0 (by rw [show decide ((f q).2.w < 0) = false from by simpa using h6]; rfl)] at h5; exact h5
  have h4 := hw q h h6
  show (CT.ws (moreG f (hd (f q).2.T).t (hd (f q).2.T :: (f q).2.T).length [(f q).1] (signT (f q).2)).1 + 1) + (takeT 3 [41] (moreG f (hd (f q).2.T).t (hd (f q).2.T :: (f q).2.T).length [(f q).1] (signT (f q).2)).2).2.T.length ≤ _
  have h7 : CT.ws [(f q).1] = (f q).1.w + 0 := rfl
  rw [h7, hsT] at h3
  omega
end
theorem few_leaf {k : Int} {n v : List UInt8} {A B : List Tok} (h : A.length + 1 ≤ B.length) : (CT.mk k n v []).w + A.length ≤ B.length := by
  show (CT.ws [] + 1) + _ ≤ _
  have : CT.ws [] = 0 := rfl
  omega
theorem few_list {s : List UInt8} {f : PS → CT × PS} (hf : ∀ q, Rch q.T (f q).2.T) (b : Bool) (hw : b = false → Few s f) (ho : b = false → Old f) {q : PS} (h : Good s q.T) (h1 : (listG b f q).2.w < 0) : (listG b f q).1.w + (listG b f q).2.T.length ≤ q.T.length := by
  have hg := (rch_take 3 [40] q).good h
  have hl := (rch_take 3 [40] q).len
  unfold listG at h1 ⊢
  split at h1
  · exfalso
    have h1 : (failT ((hd q.T).a : Int) q).w < 0 := h1
    unfold failT at h1; split at h1
    · have h1 : ((hd q.T).a : Int) < 0 := h1
      omega
    · rename_i hc; simp at hc; omega
  · rename_i hb
    rw [if_neg hb]
    replace hw := hw (by simpa using hb)
    replace ho := ho (by simpa using hb)
    split at h1
    · rename_i hc
      rw [if_pos hc]
      have h2 := few_short hf hw 7 (good_adv hg) h1
      have h3 := adv_short hg hc
      omega
    · rename_i hc
      rw [if_neg hc]
      split at h1
      · rename_i hc2
        rw [if_pos hc2]
        have h2 := few_short hf hw 8 (good_adv hg) h1
        have h3 := adv_short hg hc2
        omega
      · rename_i hc2
        rw [if_neg hc2]
        have h2 := few_long hf hw hg h1
        omega
theorem few_cond {s : List UInt8} {f : PS → CT × PS} (hf : ∀ q, Rch q.T (f q).2.T) (b : Bool) (hw : b = false → Few s f) (ho : b = false → Old f) {q : PS} (h : Good s q.T) (h1 : (condG b f q).2.w < 0) : (condG b f q).1.w + (condG b f q).2.T.length ≤ q.T.length := by
  have hg := (rch_take 1 [] q).good h
  have fact : ∀ k, (factG k (takeT 1 [] q).2).2.w < 0 → (factG k (takeT 1 [] q).2).1.w + (factG k (takeT 1 [] q).2).2.T.length ≤ q.T.length := fun k h2 => by
    have g2 := (rch_take 1 [] _).good hg
    have g3 := (rch_take 3 [61] _).good g2
    have a1 := take_cons g3 (.inr (.inl rfl)) h2
    have a2 := take_cons g2 (.inr (.inr rfl)) a1.1
    have a3 := take_cons hg (.inl rfl) a2.1
    have a4 := take_cons h (.inl rfl) a3.1
    refine few_leaf ?_
    show (takeT 2 [] (takeT 3 [61] (takeT 1 [] (takeT 1 [] q).2).2).2).2.T.length + 1 ≤ _
    omega
  have bad : ∀ a : Nat, (failT (a : Int) (takeT 1 [] q).2).w < 0 → False := fun a h2 => by
    unfold failT at h2; split at h2
    · have h2 : (a : Int) < 0 := h2
      omega
    · rename_i hc; simp at hc; omega
  unfold condG at h1 ⊢
  split at h1
  · rename_i hc
    rw [if_pos hc]; exact few_list hf b hw ho h h1
  · rename_i hc
    rw [if_neg hc]
    dsimp only at h1 ⊢
    split at h1
    · rename_i c1
      rw [if_pos c1]
      exact few_leaf (take_cons h (.inl rfl) h1).2
    · rename_i c1
      rw [if_neg c1]
      split at h1
      · rename_i c2
        rw [if_pos c2]; exact fact _ h1
      · rename_i c2
        rw [if_neg c2]
        split at h1
        · rename_i c3
          rw [if_pos c3]
          have a3 := take_cons hg (.inl rfl) h1
          have a4 := take_cons h (.inl rfl) a3.1
          exact few_leaf (by show (takeT 1 [] (takeT 1 [] q).2).2.T.length + 1 ≤ _; omega)
        · rename_i c3
          rw [if_neg c3]
          split at h1
          · rename_i c4
            rw [if_pos c4]
            have g2 := (rch_take 1 [] _).good hg
            have g3 := (rch_take 1 wIn _).good g2
            have a1 := take_cons g3 (.inr (.inl rfl)) h1
            have a2 := take_cons g2 (.inl rfl) a1.1
            have a3 := take_cons hg (.inl rfl) a2.1
            have a4 := take_cons h (.inl rfl) a3.1
            refine few_leaf ?_
            show (takeT 2 [] (takeT 1 wIn (takeT 1 [] (takeT 1 [] q).2).2).2).2.T.length + 1 ≤ _
            omega
          · rename_i c4
            rw [if_neg c4]
            split at h1
            · rename_i c5
              rw [if_pos c5]
              split at h1
              · exact (bad _ h1).elim
              · rename_i c6
                rw [if_neg c6]
                replace hw := hw (by simpa using c6)
                replace ho := ho (by simpa using c6)
                have h1' : (f (takeT 1 [] q).2).2.w < 0 := h1
                have a1 := hw _ hg h1'
                have a2 : (takeT 1 [] q).2.w < 0 := by
                  by_cases a2 : (takeT 1 [] q).2.w < 0
                  · exact a2
                  · rw [ho _ a2] at h1'; exact (a2 h1').elim
                have a3 := take_cons h (.inl rfl) a2
                show (CT.ws [(f (takeT 1 [] q).2).1] + 1) + (f (takeT 1 [] q).2).2.T.length ≤ _
                have h7 : CT.ws [(f (takeT 1 [] q).2).1] = (f (takeT 1 [] q).2).1.w + 0 := rfl
                omega
            · exact (bad _ h1).elim
theorem few_condT {s : List UInt8} : ∀ (n : Nat), Few s (condT n)
  | 0 => fun q h h1 => few_cond (f := fun q => (CT.z, q)) (fun q => .refl _) true (fun h => by cases h) (fun h => by cases h) h h1
  | n + 1 => fun q h h1 => few_cond (rch_condT n) false (fun _ => few_condT n) (fun _ => old_T n) h h1
theorem few_read {s : List UInt8} (hs : s.length ≤ 4000) (h : (readP s).2.w < 0) : (readP s).1.w ≤ 5000 := by
  have g := toks_gd hs
  have h2 : (condT 100 ⟨toks s, -1⟩).2.w < 0 := by
    by_cases h2 : (condT 100 ⟨toks s, -1⟩).2.w < 0
    · exact h2
    · have h3 : (endS (condT 100 ⟨toks s, -1⟩).2).w < 0 := h
      rw [end_0 (by rw [show decide ((condT 100 ⟨toks s, -1⟩).2.w < 0) = false from by simpa using h2]; rfl)] at h3
      exact h3
  have h3 := few_condT 100 ⟨toks s, -1⟩ g.1 h2
  have h4 := g.2
  show (condT 100 ⟨toks s, -1⟩).1.w ≤ 5000
  have h5 : (⟨toks s, -1⟩ : PS).T.length = (toks s).length := rfl
  omega
mutual
def CT.pt : CT → Int → List (CT × Int)
  | .mk k n v l, lv => (.mk k n v l, lv) :: CT.pts l (up1 lv)
def CT.pts : List CT → Int → List (CT × Int)
  | [], _ => []
  | c :: l, lv => c.pt lv ++ CT.pts l lv
end
theorem pt_eq (c : CT) (lv : Int) : c.pt lv = (c, lv) :: CT.pts c.l (up1 lv) := by cases c; rfl
theorem pts_len : ∀ (n : Nat) (l : List CT) (lv : Int), CT.ws l ≤ n → (CT.pts l lv).length = CT.ws l
  | n, [], lv, h => rfl
  | 0, c :: l, lv, h => by
    have h1 : CT.ws (c :: l) = c.w + CT.ws l := rfl
    have := c.pos; omega
  | n + 1, c :: l, lv, h => by
    have h1 : CT.ws (c :: l) = c.w + CT.ws l := rfl
    have h2 := c.pos
    have h3 : c.w = CT.ws c.l + 1 := by cases c; rfl
    show (c.pt lv ++ CT.pts l lv).length = _
    rw [pt_eq, List.length_append, List.length_cons, pts_len n l lv (by omega), pts_len n c.l _ (by omega)]
    omega
theorem pt_len (c : CT) (lv : Int) : (c.pt lv).length = c.w := by
  have h3 : c.w = CT.ws c.l + 1 := by cases c; rfl
  rw [pt_eq, List.length_cons, pts_len _ c.l _ (Nat.le_refl _), h3]
def runs {S : Type} (f : CT → Int → S → Bool × S) : List (CT × Int) → S → Bool × S
  | [], s => (true, s)
  | (c, lv) :: L, s => if (f c lv s).1 then runs f L (f c lv s).2 else (false, (f c lv s).2)
theorem runs_app {S : Type} {f : CT → Int → S → Bool × S} : ∀ (A B : List (CT × Int)) (s : S), runs f (A ++ B) s = if (runs f A s).1 then runs f B (runs f A s).2 else (false, (runs f A s).2)
  | [], B, s => rfl
  | (c, lv) :: A, B, s => by
    have e : ∀ L : List (CT × Int), runs f ((c, lv) :: L) s = if (f c lv s).1 then runs f L (f c lv s).2 else (false, (f c lv s).2) := fun L => rfl
    rw [List.cons_append, e, e]
    cases h : (f c lv s).1 with
    | true => rw [if_pos rfl, if_pos rfl]; exact runs_app A B _
    | false => simp
theorem visits_runs {S : Type} {f : CT → Int → S → Bool × S} : ∀ (n : Nat) (l : List CT) (lv : Int) (s : S), CT.ws l ≤ n → visits (fun a => visit f a lv) l s = runs f (CT.pts l lv) s
  | n, [], lv, s, h => rfl
  | 0, c :: l, lv, s, h => by
    have h1 : CT.ws (c :: l) = c.w + CT.ws l := rfl
    have := c.pos; omega
  | n + 1, c :: l, lv, s, h => by
    have h1 : CT.ws (c :: l) = c.w + CT.ws l := rfl
    have h2 := c.pos
    have h3 : c.w = CT.ws c.l + 1 := by cases c; rfl
    have hc : ∀ s, visit f c lv s = runs f (c.pt lv) s := fun s => by
      rw [visit_eq, pt_eq, visits_runs n c.l _ _ (by omega)]; rfl
    show (if (visit f c lv s).1 then visits (fun a => visit f a lv) l (visit f c lv s).2 else (false, (visit f c lv s).2)) = runs f (c.pt lv ++ CT.pts l lv) s
    rw [runs_app, hc, visits_runs n l lv _ (by omega)]
theorem visit_runs {S : Type} {f : CT → Int → S → Bool × S} (c : CT) (lv : Int) (s : S) : visit f c lv s = runs f (c.pt lv) s := by
  rw [visit_eq, pt_eq, visits_runs _ c.l _ _ (Nat.le_refl _)]; rfl
theorem up1_of {n : Nat} (h : n < 1000000) : up1 (n : Int) = ((n + 1 : Nat) : Int) := by
  unfold up1
  rw [IntKind.wrap_i64]; omega
def deepB (L : List (CT × Int)) : Bool := L.any fun p => decide (p.2 > 20)
theorem run_ce1 : ∀ (L : List (CT × Int)) (n : Nat) (d : Int), n + L.length < 1000000 → (runs ce1 L ((n : Int), d)).2.1 = ((n + L.length : Nat) : Int) ∧ decide ((runs ce1 L ((n : Int), d)).2.2 > 20) = (decide (d > 20) || deepB L)
  | [], n, d, h => by
    refine ⟨rfl, ?_⟩
    show decide (d > 20) = (decide (d > 20) || false)
    rw [Bool.or_false]
  | (c, lv) :: L, n, d, h => by
    have hl : ((c, lv) :: L).length = L.length + 1 := rfl
    rw [hl] at h
    have h1 : runs ce1 ((c, lv) :: L) ((n : Int), d) = runs ce1 L (((n + 1 : Nat) : Int), maxI d lv) := by
      show runs ce1 L (up1 (n : Int), maxI d lv) = _
      rw [up1_of (by omega)]
    have ih := run_ce1 L (n + 1) (maxI d lv) (by omega)
    rw [h1]
    refine ⟨ih.1.trans (by rw [hl]; congr 1; omega), ih.2.trans ?_⟩
    have : decide (maxI d lv > 20) = (decide (d > 20) || decide (lv > 20)) := by
      unfold maxI; split <;> simp <;> omega
    rw [this]
    show _ = (decide (d > 20) || (decide (lv > 20) || deepB L))
    rw [Bool.or_assoc]
theorem run_cc1 : ∀ (L : List (CT × Int)) (n : Nat) (b : Bool), n ≤ 100 → (n + L.length ≤ 100 → runs cc1 L ((n : Int), b) = (true, (((n + L.length : Nat) : Int), b || deepB L))) ∧ (100 < n + L.length → (runs cc1 L ((n : Int), b)).2.1 = 101)
  | [], n, b, h => by
    refine ⟨fun _ => ?_, fun h2 => by simp at h2; omega⟩
    show (true, ((n : Int), b)) = (true, ((n : Int), b || false))
    rw [Bool.or_false]
  | (c, lv) :: L, n, b, h => by
    have hl : ((c, lv) :: L).length = L.length + 1 := rfl
    have h1 : runs cc1 ((c, lv) :: L) ((n : Int), b) = if decide (((n + 1 : Nat) : Int) ≤ 100) then runs cc1 L (((n + 1 : Nat) : Int), b || decide (lv > 20)) else (false, (((n + 1 : Nat) : Int), b || decide (lv > 20))) := by
      show (if decide (up1 (n : Int) ≤ 100) then runs cc1 L (up1 (n : Int), b || decide (lv > 20)) else (false, (up1 (n : Int), b || decide (lv > 20)))) = _
      rw [up1_of (by omega)]
    rw [h1, hl]
    by_cases h2 : n + 1 ≤ 100
    · rw [if_pos (by simp; omega)]
      have ih := run_cc1 L (n + 1) (b || decide (lv > 20)) h2
      refine ⟨fun h3 => (ih.1 (by omega)).trans ?_, fun h3 => ih.2 (by omega)⟩
      show (true, _, (b || decide (lv > 20)) || deepB L) = (true, _, b || (decide (lv > 20) || deepB L))
      rw [Bool.or_assoc]
      have : n + 1 + L.length = n + (L.length + 1) := by omega
      rw [this]
    · rw [if_neg (by simp; omega)]
      refine ⟨fun h3 => by omega, fun _ => ?_⟩
      show ((n + 1 : Nat) : Int) = 101
      omega
theorem run_ce2_old : ∀ (L : List (CT × Int)) (e : Int), (e == 0) = false → (runs ce2 L e).2 = e
  | [], e, h => rfl
  | (c, lv) :: L, e, h => by
    show (runs ce2 L (if e == 0 then c.part else e)).2 = e
    rw [h]; exact run_ce2_old L e h
theorem run_2 : ∀ (L : List (CT × Int)), (runs ce2 L 0).2 = (runs cc2 L 0).2
  | [] => rfl
  | (c, lv) :: L => by
    show (runs ce2 L c.part).2 = (if c.part == 0 then runs cc2 L c.part else (false, c.part)).2
    cases h : (c.part == 0) with
    | true =>
      have h0 : c.part = 0 := by simpa using h
      rw [h0]; exact run_2 L
    | false => exact run_ce2_old L _ h
theorem errs_eq {c : CT} (h : c.w < 900000) : errR c = checkP c := by
  unfold errR checkP
  rw [visit_runs, visit_runs, visit_runs, visit_runs]
  have hl := pt_len c 0
  have h1 := run_ce1 (c.pt 0) 0 0 (by omega)
  have h2 := run_cc1 (c.pt 0) 0 false (by omega)
  simp only [Int.ofNat_zero, Int.natCast_zero, show ((0 : Nat) : Int) = 0 from rfl, Nat.zero_add] at h1 h2
  rw [h1.1, h1.2, hl, run_2]
  rw [hl] at h2
  by_cases h3 : c.w ≤ 100
  · have h4 := h2.1 h3
    rw [h4]
    have : decide (((c.w : Nat) : Int) > 100) = false := by simp; omega
    rw [this]
    unfold firstB
    show (if false then _ else _) = _
    cases hp : ((runs cc2 (c.pt 0) 0).2 == 0) with
    | true =>
      have hp0 : (runs cc2 (c.pt 0) 0).2 = 0 := by simpa using hp
      cases hd : deepB (c.pt 0) <;> simp [hp0]
    | false =>
      simp at hp
      simp [hp]
  · have h4 := h2.2 (by omega)
    rw [h4]
    have : decide (((c.w : Nat) : Int) > 100) = true := by simp; omega
    rw [this]; rfl
/-- Both readers agree on every text. -/
theorem parse_eq (s : List UInt8) : parseP s = parseR s := by
  unfold parseP parseR
  cases hs : decide ((s.length : Int) > 4000) with
  | true => rfl
  | false =>
    have hs2 : s.length ≤ 4000 := by simp at hs; omega
    obtain ⟨h1, h2⟩ := sameb_read hs2
    have hF : ∀ (a b : CT × Int × Int), (if (false = true) then a else b) = b := fun a b => rfl
    have hT : ∀ (a b : CT × Int × Int), (if (true = true) then a else b) = a := fun a b => rfl
    rw [hF, hF, ← h1]
    cases hw : decide ((readP s).2.w ≥ 0) with
    | true => rw [hT, hT]
    | false =>
      have hw2 : (readP s).2.w < 0 := by simp at hw; omega
      rw [hF, hF, ← h2 hw2, errs_eq (by have := few_read hs2 hw2; omega)]
end Go.Proofs.YtjibdoagpegniaaGreatDoor

set_option linter.unusedVariables false
set_option linter.unusedSimpArgs false
set_option maxRecDepth 100000
set_option maxHeartbeats 4000000
namespace Go.Proofs.YtjibdoagpegniaaGreatDoor
open Go
open Go.RowKit
attribute [local irreducible] rangeB rangeR pathB nameB valueB visit visits checkP errR quoteL qAt nextT skipB wordE toks refL noR nxR isR condR condRG groupR shortR longR moreR signR stopR condT condG listG parseP parseR
theorem big_readR {s : List UInt8} (hs : s.length ≤ 4000) (h : decide ((nxR 101 [] (condR 100 ⟨toks s, -1⟩).2).2.w ≥ 0) = false) : CtBig (condR 100 ⟨toks s, -1⟩).1 := by
  have h1 := sameb_read hs
  have h2 : (readR s).2.w < 0 := by
    show (nxR 101 [] (condR 100 ⟨toks s, -1⟩).2).2.w < 0
    simp at h; omega
  have h3 := congrArg Prod.fst (h1.2 (by rw [h1.1]; exact h2))
  have h4 : (readR s).1 = (condR 100 ⟨toks s, -1⟩).1 := rfl
  rw [← h4, ← h3]
  exact big_condT 100 ⟨toks s, -1⟩ (toks_tl hs)
theorem pr_0 {s : List UInt8} (h : decide ((s.length : Int) > 4000) = true) : parseR s = (CT.z, 0, 4) := by unfold parseR; exact if_pos h
section
variable {s : List UInt8} {q : PS} (h : decide ((s.length : Int) > 4000) = false)
include h
theorem pr_1 (h1 : decide ((nxR 101 [] (condR 100 ⟨toks s, -1⟩).2).2.w ≥ 0) = true) : parseR s = (CT.z, (nxR 101 [] (condR 100 ⟨toks s, -1⟩).2).2.w, 8) := by
  unfold parseR; rw [if_neg (by rw [h]; simp)]; exact if_pos h1
variable (h1 : decide ((nxR 101 [] (condR 100 ⟨toks s, -1⟩).2).2.w ≥ 0) = false)
include h1
theorem pr_2 (h2 : (errR (condR 100 ⟨toks s, -1⟩).1 != 0) = true) : parseR s = (CT.z, 0, errR (condR 100 ⟨toks s, -1⟩).1) := by
  unfold parseR; rw [if_neg (by rw [h]; simp)]; exact (if_neg (Bool.eq_false_iff.1 h1)).trans (if_pos h2)
theorem pr_3 (h2 : (errR (condR 100 ⟨toks s, -1⟩).1 != 0) = false) : parseR s = ((condR 100 ⟨toks s, -1⟩).1, 0, 0) := by
  unfold parseR; rw [if_neg (by rw [h]; simp)]; exact (if_neg (Bool.eq_false_iff.1 h1)).trans (if_neg (Bool.eq_false_iff.1 h2))
end
theorem pc_outref2_ReadCond (s : List UInt8) (hs : s.length < 4294967281) :
  PureCall Tryz.prog J 6 [.one (.d (.str s))] (.tup [ctV (parseR s).1, .one (.d (.int .i64 (parseR s).2.1)), .one (.d (.int .i64 (parseR s).2.2))]) := by
 refine PureCall.of_body tOk (fn := Tryz.f6) Tryz.func6 (by kernel_rfl) rfl (Nat.le_of_ble_eq_true rfl) (fun E => ?_)
 refine W.seq ?_
 refine W.region ?_
 refine S.alloc tOk rfl rfl rfl rfl ?_
 refine S.pure tOk zOk rfl rfl rfl ?_
 refine S.pure tOk zOk rfl rfl rfl ?_
 refine thenK_n ?_
 refine W.seq ?_
 refine W.seq ?_
 refine W.region ?_
 refine S.pure tOk zOk rfl rfl rfl ?_
 refine S.pure tOk zOk rfl rfl rfl ?_
 refine S.pure tOk zOk rfl rfl rfl ?_
 refine thenK_n ?_
 refine W.cond rfl (fun c1 => ?_) (fun c1 => ?_)
 ·skip
  refine W.seq ?_
  refine W.region ?_
  refine S.pure tOk zOk rfl rfl rfl ?_
  refine S.store tOk rfl rfl rfl rfl rfl rfl rfl rfl ?_
  refine S.pure tOk zOk rfl rfl rfl ?_
  refine S.pure tOk zOk rfl rfl rfl ?_
  refine thenK_n ?_
  refine W.ret ?_
  refine thenK_r ?_
  exact ⟨_, rfl, rfl, le_ctNil (pr_0 c1)⟩
 ·skip
  have hsz : s.length ≤ 4000 := by have := c1; simp at this; omega
  refine W.skip ?_
  refine thenK_n ?_
  refine W.seq ?_
  refine W.region ?_
  refine S.pure tOk zOk rfl rfl rfl ?_
  refine S.call rfl rfl rfl rfl rfl (pc_outref2_condWords s hsz) ?_
  refine S.pure tOk zOk rfl rfl rfl ?_
  refine S.box rfl rfl rfl rfl ?_
  refine S.pure tOk zOk rfl rfl rfl ?_
  refine thenK_n ?_
  refine W.seq ?_
  refine W.region ?_
  refine S.pure tOk zOk rfl rfl rfl ?_
  refine S.hcallD rfl rfl rfl rfl ((pc_condRC s 100 0 (⟨toks s, -1⟩ : PS) rfl (toks_gd hsz)).frameD [1] [] [] rfl rfl rfl rfl rfl rfl rfl rfl rfl) ?_
  refine S.alloc tOk rfl rfl rfl rfl ?_
  refine S.store tOk rfl rfl rfl rfl rfl rfl rfl rfl ?_
  refine thenK_n ?_
  refine W.seq ?_
  refine W.region ?_
  refine S.pure tOk zOk rfl rfl rfl ?_
  refine S.hcallD rfl rfl rfl rfl ((pc_nextR s (condR 100 (⟨toks s, -1⟩ : PS)).2 (Gd.go (toks_gd hsz) (rch_condR 100 (⟨toks s, -1⟩ : PS))) 101 [] (by decide)).frameD [1] [] [] rfl rfl rfl rfl rfl rfl rfl rfl rfl) ?_
  refine thenK_n ?_
  refine W.seq ?_
  refine W.seq ?_
  refine W.region ?_
  refine S.pure tOk zOk rfl rfl rfl ?_
  refine S.pure tOk zOk rfl rfl rfl ?_
  refine S.pure tOk zOk rfl rfl rfl ?_
  refine S.pure tOk zOk rfl rfl rfl ?_
  refine S.pure tOk zOk rfl rfl rfl ?_
  refine thenK_n ?_
  refine W.cond rfl (fun c2 => ?_) (fun c2 => ?_)
  ·skip
   refine W.seq ?_
   refine W.regionS 6 mixed rfl (by kernel_rfl) ?_
   refine AnyZ.eager 0 rfl (by kernel_rfl) (Eag.pure tOk zOk rfl (fun _ _ _ => rfl) rfl rfl) ?_
   refine AnyZ.eager 1 rfl (by kernel_rfl) (Eag.pure tOk zOk rfl (fun _ _ _ => rfl) rfl rfl) ?_
   refine AnyZ.eager 2 rfl (by kernel_rfl) (Eag.pure tOk zOk rfl (fun _ _ _ => rfl) rfl rfl) ?_
   refine AnyZ.eager 3 rfl (by kernel_rfl) (Eag.pure tOk zOk rfl (fun _ _ _ => rfl) rfl rfl) ?_
   refine AnyZ.two 4 5 (by kernel_rfl) rfl rfl ?_ ?_
   ·skip
    refine OpZ.d ?_
    refine D.pure tOk zOk rfl rfl rfl rfl ?_
    refine WD.nil ?_
    refine AnyZ.one 5 (by kernel_rfl) rfl ?_
    refine OpZ.d ?_
    refine D.store tOk rfl rfl rfl rfl rfl rfl rfl rfl ?_
    refine WD.nil ?_
    refine AnyZ.nil (by kernel_rfl) ?_
    refine S.pure tOk zOk rfl rfl rfl ?_
    refine S.pure tOk zOk rfl rfl rfl ?_
    refine thenK_n ?_
    refine W.ret ?_
    refine thenK_r ?_
    exact ⟨_, rfl, rfl, le_ctNil (pr_1 c1 c2)⟩
   ·skip
    refine OpZ.d ?_
    refine D.store tOk rfl rfl rfl rfl rfl rfl rfl rfl ?_
    refine WD.nil ?_
    refine AnyZ.one 4 (by kernel_rfl) rfl ?_
    refine OpZ.d ?_
    refine D.pure tOk zOk rfl rfl rfl rfl ?_
    refine WD.nil ?_
    refine AnyZ.nil (by kernel_rfl) ?_
    refine S.pure tOk zOk rfl rfl rfl ?_
    refine S.pure tOk zOk rfl rfl rfl ?_
    refine thenK_n ?_
    refine W.ret ?_
    refine thenK_r ?_
    exact ⟨_, rfl, rfl, le_ctNil (pr_1 c1 c2)⟩
  ·skip
   refine W.skip ?_
   refine thenK_n ?_
   refine W.seq ?_
   refine W.seq ?_
   refine W.region ?_
   refine S.pure tOk zOk rfl rfl rfl ?_
   refine S.call rfl rfl rfl rfl rfl (pc_CondErr (condR 100 (⟨toks s, -1⟩ : PS)).1 (big_readR hsz c2)) ?_
   refine S.pure tOk zOk rfl rfl rfl ?_
   refine thenK_n ?_
   refine W.seq ?_
   refine W.region ?_
   refine S.pure tOk zOk rfl rfl rfl ?_
   refine S.pure tOk zOk rfl rfl rfl ?_
   refine thenK_n ?_
   refine W.cond rfl (fun c3 => ?_) (fun c3 => ?_)
   ·skip
    refine W.seq ?_
    refine W.region ?_
    refine S.pure tOk zOk rfl rfl rfl ?_
    refine S.pure tOk zOk rfl rfl rfl ?_
    refine S.store tOk rfl rfl rfl rfl rfl rfl rfl rfl ?_
    refine S.pure tOk zOk rfl rfl rfl ?_
    refine S.pure tOk zOk rfl rfl rfl ?_
    refine thenK_n ?_
    refine W.ret ?_
    refine thenK_r ?_
    exact ⟨_, rfl, rfl, le_ctNil (pr_2 c1 c2 c3)⟩
   ·skip
    refine W.skip ?_
    refine thenK_n ?_
    refine W.seq ?_
    refine W.region ?_
    refine S.pure tOk zOk rfl rfl rfl ?_
    refine S.store tOk rfl rfl rfl rfl rfl rfl rfl rfl ?_
    refine S.pure tOk zOk rfl rfl rfl ?_
    refine S.pure tOk zOk rfl rfl rfl ?_
    refine thenK_n ?_
    refine W.ret ?_
    exact ⟨_, rfl, rfl, le_ct (pr_3 c1 c2 c3)⟩
theorem pc_EqualCond (l : List CT) (hl : l.length ≤ 4294967000) (hc : ∀ a ∈ l, PureCall Tryz.prog J 8 [ctV a, ctV a] (.one (.d (.bool true)))) :
  PureCall Tryz.prog J 22 [.one (.d (.vec 4 (l.map CT.d))), .one (.d (.vec 4 (l.map CT.d))), .one (.d (.fn 8))] (.one (.d (.bool true))) := by
 refine PureCall.of_body tOk (fn := Tryz.f22) Tryz.func22 (by kernel_rfl) rfl (Nat.le_of_ble_eq_true rfl) (fun E => ?_)
 refine W.seq ?_
 refine W.region ?_
 refine S.pure tOk zOk rfl rfl rfl ?_
 refine thenK_n ?_
 refine W.seq ?_
 refine W.seq ?_
 refine W.region ?_
 refine S.pure tOk zOk rfl rfl rfl ?_
 refine S.pure tOk zOk rfl rfl rfl ?_
 refine S.pure tOk zOk rfl rfl rfl ?_
 refine S.pure tOk zOk rfl rfl rfl ?_
 refine S.pure tOk zOk rfl rfl rfl ?_
 refine thenK_n ?_
 refine W.cond rfl (fun c1 => ?_) (fun c1 => ?_)
 · exact absurd c1 (by simp)
 ·skip
  refine W.skip ?_
  refine thenK_n ?_
  refine W.seq ?_
  refine W.seq ?_
  refine W.region ?_
  refine S.pure tOk zOk rfl rfl rfl ?_
  refine S.pure tOk zOk rfl rfl rfl ?_
  refine S.pure tOk zOk rfl rfl rfl ?_
  refine thenK_n ?_
  refine W.block ?_
  refine W.loop (fun k st => ∃ i : Nat, i ≤ l.length ∧ k = l.length - i ∧ ∃ t b2 r2 m2, st = ⟨t, [] ++ b2, [] ++ r2, [] ++ m2⟩ ∧ holdsL t [(1, .one (.d (.vec 4 (l.map CT.d)))), (2, .one (.d (.fn 8))), (15, .one (.d (.vec 4 (l.map CT.d)))), (16, .one (.d (.int .i64 ((l.map CT.d).length : Int)))), (17, .one (.d (.int .i64 (i : Int))))]) (l.length) ⟨0, Nat.zero_le _, rfl, _, _, _, _, rfl, rfl, rfl, rfl, rfl, rfl, trivial⟩ ?_
  rintro k0 _ ⟨i, f0_0, rfl, t0, bb0, rr0, mm0, rfl, hh0⟩
  refine W.keepR _ _ _ _ _ _ _ hh0 rfl ?_
  refine W.seq ?_
  refine W.region ?_
  refine S.pure tOk zOk rfl rfl rfl ?_
  refine thenK_n ?_
  refine W.seq ?_
  refine W.cond rfl (fun c2 => ?_) (fun c2 => ?_)
  ·skip
   have hi := row_lt c2
   refine W.skip ?_
   refine thenK_n ?_
   refine W.seq ?_
   refine W.block ?_
   refine W.seq ?_
   refine W.region ?_
   refine S.pure tOk zOk rfl rfl rfl ?_
   refine S.pureE tOk zOk rfl (row_ok hi) (getD_map_ct hi) rfl ?_
   refine S.pure tOk zOk rfl rfl rfl ?_
   refine S.alloc tOk rfl rfl rfl rfl ?_
   refine S.pure tOk zOk rfl rfl rfl ?_
   refine S.store tOk rfl rfl rfl rfl rfl rfl rfl rfl ?_
   refine thenK_n ?_
   refine W.seq ?_
   refine W.region ?_
   refine S.pure tOk zOk rfl rfl rfl ?_
   refine S.pure tOk zOk rfl rfl rfl ?_
   refine S.pureE tOk zOk rfl (row_ok hi) (getD_map_ct hi) rfl ?_
   refine S.pure tOk zOk rfl rfl rfl ?_
   refine S.alloc tOk rfl rfl rfl rfl ?_
   refine S.store tOk rfl rfl rfl rfl rfl rfl rfl rfl ?_
   refine thenK_n ?_
   refine W.seq ?_
   refine W.region ?_
   refine S.pure tOk zOk rfl rfl rfl ?_
   refine S.pure tOk zOk rfl rfl rfl ?_
   refine S.pure tOk zOk rfl rfl rfl ?_
   refine S.call rfl rfl rfl rfl rfl (hc (l.getD i CT.z) (mem_ct hi)) ?_
   refine S.pure tOk zOk rfl rfl rfl ?_
   refine thenK_n ?_
   refine W.cond rfl (fun c3 => ?_) (fun c3 => ?_)
   · exact absurd c3 (by simp)
   ·skip
    refine W.skip ?_
    refine blockK_n ?_
    refine thenK_n ?_
    refine W.region ?_
    refine S.pure tOk zOk rfl rfl rfl ?_
    refine S.pure tOk zOk rfl rfl rfl ?_
    refine loop_n (l.length - (i + 1)) (by omega) ⟨i + 1, hi, rfl, _, _, _, _, rfl, rfl, rfl, rfl, rfl, inc_i64 (by omega), trivial⟩
  ·skip
   refine W.exit ?_
   refine thenK_e ?_
   refine thenK_e ?_
   refine blockK_x ?_
   refine thenK_n ?_
   refine W.seq ?_
   refine W.region ?_
   refine S.pure tOk zOk rfl rfl rfl ?_
   refine thenK_n ?_
   refine W.ret ?_
   exact ⟨_, rfl, rfl, LeV.refl _⟩
theorem pc_sameS (c : CT) (hc : CtBig c) (ih : ∀ a ∈ c.l, PureCall Tryz.prog J 8 [ctV a, ctV a] (.one (.d (.bool true)))) :
  PureCall Tryz.prog J 8 [ctV c, ctV c] (.one (.d (.bool true))) := by
 have hl := hc.ll
 unfold ctV
 rw [ds_map]
 refine PureCall.of_body tOk (fn := Tryz.f8) Tryz.func8 (by kernel_rfl) rfl (Nat.le_of_ble_eq_true rfl) (fun E => ?_)
 refine W.seq ?_
 refine W.region ?_
 refine S.box rfl rfl rfl rfl ?_
 refine S.box rfl rfl rfl rfl ?_
 refine S.pure tOk zOk rfl rfl rfl ?_
 refine thenK_n ?_
 refine W.seq ?_
 refine W.region ?_
 refine S.pure tOk zOk rfl rfl rfl ?_
 refine S.pure tOk zOk rfl rfl rfl ?_
 refine S.pure tOk zOk rfl rfl rfl ?_
 refine S.pure tOk zOk rfl rfl rfl ?_
 refine S.pure tOk zOk rfl rfl rfl ?_
 refine S.pure tOk zOk rfl rfl rfl ?_
 refine S.pureG tOk zOk rfl rfl tg (fun _ => rfl) rfl ?_
 refine S.pureG tOk zOk rfl rfl tg (fun _ => rfl) rfl ?_
 refine S.pureG tOk zOk rfl rfl tg (fun _ => rfl) rfl ?_
 refine S.pureG tOk zOk rfl rfl tg (fun _ => rfl) rfl ?_
 refine S.pureG tOk zOk rfl rfl tg (fun _ => rfl) rfl ?_
 refine S.pickAnd tOk zOk rfl rfl tg ?_
 refine S.pure tOk zOk rfl rfl rfl ?_
 refine S.pureG tOk zOk rfl rfl tg (fun _ => rfl) rfl ?_
 refine S.pureG tOk zOk rfl rfl tg (fun _ => rfl) rfl ?_
 refine S.pureG tOk zOk rfl rfl tg (fun _ => rfl) rfl ?_
 refine S.pureG tOk zOk rfl rfl tg (fun _ => rfl) rfl ?_
 refine S.pureG tOk zOk rfl rfl tg (fun _ => rfl) rfl ?_
 refine S.pickAnd tOk zOk rfl rfl tg ?_
 refine S.pure tOk zOk rfl rfl rfl ?_
 refine S.pureG tOk zOk rfl rfl tg (fun _ => rfl) rfl ?_
 refine S.pureG tOk zOk rfl rfl tg (fun _ => rfl) rfl ?_
 refine S.pureG tOk zOk rfl rfl tg (fun _ => rfl) rfl ?_
 refine S.pureG tOk zOk rfl rfl tg (fun _ => rfl) rfl ?_
 refine S.callG rfl rfl rfl rfl tg rfl rfl (fun h => pc_EqualCond c.l (by omega) ih) ?_
 refine S.pickAnd tOk zOk rfl rfl tg ?_
 refine S.pure tOk zOk rfl rfl rfl ?_
 refine thenK_n ?_
 refine W.ret ?_
 exact ⟨_, rfl, rfl, LeV.of_force rfl (by simp)⟩
theorem pc_same : ∀ (n : Nat) (c : CT), c.w ≤ n → CtBig c → PureCall Tryz.prog J 8 [ctV c, ctV c] (.one (.d (.bool true)))
  | 0, c, h => by have := c.pos; omega
  | n + 1, c, h => fun hc => pc_sameS c hc (fun a ha => pc_same n a (by have := CT.sz ha; omega) (hc.l a ha))
theorem big_parse (s : List UInt8) : CtBig (parseP s).1 := by
  unfold parseP
  split
  · exact big_z
  · rename_i h
    split
    · exact big_z
    · split
      · exact big_z
      · exact big_condT 100 _ (toks_tl (by simp at h; omega))
theorem pc_outlaw2_CondsRead (s : List UInt8) (hs : s.length < 4294967281) :
  PureCall Tryz.prog J 3 [.one (.d (.str s))] (.one (.d (.bool true))) := by
 have pcR := pc_outref2_ReadCond s hs
 rw [← parse_eq] at pcR
 refine PureCall.of_body tOk (fn := Tryz.f3) Tryz.func3 (by kernel_rfl) rfl (Nat.le_of_ble_eq_true rfl) (fun E => ?_)
 refine W.seq ?_
 refine W.region ?_
 refine S.pure tOk zOk rfl rfl rfl ?_
 refine thenK_n ?_
 refine W.seq ?_
 refine W.region ?_
 refine S.pure tOk zOk rfl rfl rfl ?_
 refine S.call rfl rfl rfl rfl rfl (pc_ver_ParseCond s hs) ?_
 refine S.pure tOk zOk rfl rfl rfl ?_
 refine S.pure tOk zOk rfl rfl rfl ?_
 refine S.pure tOk zOk rfl rfl rfl ?_
 refine S.pure tOk zOk rfl rfl rfl ?_
 refine S.alloc tOk rfl rfl rfl rfl ?_
 refine S.store tOk rfl rfl rfl rfl rfl rfl rfl rfl ?_
 refine S.pure tOk zOk rfl rfl rfl ?_
 refine S.pure tOk zOk rfl rfl rfl ?_
 refine thenK_n ?_
 refine W.seq ?_
 refine W.region ?_
 refine S.pure tOk zOk rfl rfl rfl ?_
 refine S.call rfl rfl rfl rfl rfl (pcR) ?_
 refine S.pure tOk zOk rfl rfl rfl ?_
 refine S.pure tOk zOk rfl rfl rfl ?_
 refine S.pure tOk zOk rfl rfl rfl ?_
 refine S.pure tOk zOk rfl rfl rfl ?_
 refine S.alloc tOk rfl rfl rfl rfl ?_
 refine S.store tOk rfl rfl rfl rfl rfl rfl rfl rfl ?_
 refine S.pure tOk zOk rfl rfl rfl ?_
 refine S.pure tOk zOk rfl rfl rfl ?_
 refine thenK_n ?_
 refine W.seq ?_
 refine W.region ?_
 refine S.call rfl rfl rfl rfl rfl (pc_outlaw2_versions) ?_
 refine S.pure tOk zOk rfl rfl rfl ?_
 refine S.pureG tOk zOk rfl rfl tg (fun _ => rfl) rfl ?_
 refine S.pureG tOk zOk rfl rfl tg (fun _ => rfl) rfl ?_
 refine S.pureG tOk zOk rfl rfl tg (fun _ => rfl) rfl ?_
 refine S.pickAnd tOk zOk rfl rfl tg ?_
 refine S.pure tOk zOk rfl rfl rfl ?_
 refine S.pureG tOk zOk rfl rfl tg (fun _ => rfl) rfl ?_
 refine S.pureG tOk zOk rfl rfl tg (fun _ => rfl) rfl ?_
 refine S.pureG tOk zOk rfl rfl tg (fun _ => rfl) rfl ?_
 refine S.pickAnd tOk zOk rfl rfl tg ?_
 refine S.pure tOk zOk rfl rfl rfl ?_
 refine S.pureG tOk zOk rfl rfl tg (fun _ => rfl) rfl ?_
 refine S.pureG tOk zOk rfl rfl tg (fun _ => rfl) rfl ?_
 refine S.callG rfl rfl rfl rfl tg rfl rfl (fun h => pc_same _ (parseP s).1 (Nat.le_refl _) (big_parse s)) ?_
 refine S.pickAnd tOk zOk rfl rfl tg ?_
 refine S.pure tOk zOk rfl rfl rfl ?_
 refine thenK_n ?_
 refine W.ret ?_
 exact ⟨_, rfl, rfl, LeV.of_force rfl (by simp)⟩
end Go.Proofs.YtjibdoagpegniaaGreatDoor

/- From a row's argument to pure data: decoders, put together type by type. -/
set_option linter.unusedVariables false
set_option linter.unusedSimpArgs false
namespace Go.Proofs.YtjibdoagpegniaaGreatDoor
open Go Go.RowKit Go.ChangeShapes
/-- Cells that hold these data, all blocks of the world being left as they are. -/
def RDs (w : World) (cs : List Value) (ds : List D) : Prop :=
  cs.length = ds.length ∧ ∀ (i : Nat) (c : Value) (d : D), cs[i]? = some c → ds[i]? = some d → RD (fun b => b < w.heap.size) w d c
theorem RDs.one {w : World} {c : Value} {d : D} (h : RD (fun b => b < w.heap.size) w d c) : RDs w [c] [d] :=
  ⟨rfl, fun i a b h1 h2 => by
    match i with
    | 0 => simp at h1 h2; subst h1; subst h2; exact h
    | i + 1 => simp at h1⟩
/-- A decoder of a type: the data that its cells hold; what is known of it, where the reading's bulk is N. -/
structure Dec (P : Program) (t : TypeId) (α : Type) where
  ds : α → List D
  wf : Nat → α → Prop
  up : ∀ (m n : Nat) (x : α), m ≤ n → wf m x → wf n x
  ok : ∀ {H : Type} {enc : TypeId × Value → H} {w : World} {fuel : Nat} {cs : List Value} {d : DataW H} {ps : List MemPlace}, DataW.trod enc P w 0 (fun _ => true) true fuel t cs = some (d, ps) →
    ∃ x : α, RDs w cs (ds x) ∧ wf (Rows.uptoBulk d) x
theorem trod_str {H : Type} {enc : TypeId × Value → H} {P : Program} {w : World} {fuel : Nat} {t : TypeId} {cs : List Value} {x : DataW H × List MemPlace} (ht : P.underlying t = some .string) (h : DataW.trod enc P w 0 (fun _ => true) true fuel t cs = some x) :
    ∃ s : ByteArray, cs = [.string s] ∧ x.1 = .lit (.string s.data.toList) := by
  cases fuel with
  | zero => simp [DataW.trod] at h
  | succ fuel =>
    unfold DataW.trod at h
    rw [ht] at h
    split at h <;> first
      | (split at h
         · cases h; exact ⟨_, rfl, rfl⟩
         · cases h)
      | (simp_all; done)
def Dec.str {P : Program} {t : TypeId} (ht : P.underlying t = some .string) : Dec P t (List UInt8) where
  ds s := [.str s]
  wf N s := s.length < N
  up _ _ _ h1 h := Nat.lt_of_lt_of_le h h1
  ok h := by
    obtain ⟨s, rfl, hx⟩ := trod_str ht h
    refine ⟨s.data.toList, .one (.str s.data.toList), ?_⟩
    simp only at hx
    rw [hx]
    simp [Rows.uptoBulk]
end Go.Proofs.YtjibdoagpegniaaGreatDoor

/- From a pure call to a row's statement. -/
set_option linter.unusedVariables false
set_option linter.unusedSimpArgs false
namespace Go.Proofs.YtjibdoagpegniaaGreatDoor
open Go Go.RowKit Go.ChangeShapes Go.WideShapes Go.ChangeAt
theorem Below.trodAll {H : Type} {enc : TypeId × Value → H} {P : Program} (hl : laidOutB P = true) {W W' : World} (hb : Below W.heap.size W W') : ∀ {ts : List TypeId} {vs : List Value} {ds : List (DataW H)} {ps : List MemPlace},
    ts.all (fun t => P.readableRec t && decide (t < P.types.size)) = true → DataW.TrodAll enc P W 0 (fun _ => true) true ts vs ds ps → (∀ x ∈ ps, x.block < W.heap.size) → DataW.TrodAll enc P W' 0 (fun b => decide (b < W.heap.size)) true ts vs ds ps
  | [], [], [], _, _, h, _ => h
  | [], [], _ :: _, _, _, h, _ => h.elim
  | [], _ :: _, _, _, _, h, _ => h.elim
  | _ :: _, [], _, _, _, h, _ => h.elim
  | _ :: _, _ :: _, [], _, _, h, _ => h.elim
  | t :: ts, v :: vs, d :: ds, ps, ha, h, hp => by
    simp only [List.all_cons, Bool.and_eq_true, decide_eq_true_eq] at ha
    obtain ⟨p, q, h1, h2, rfl⟩ := h
    exact ⟨p, q, Below.trod hl ha.1.1 ha.1.2 h1 hb (fun x hx => hp x (List.mem_append.2 (.inl hx))), Below.trodAll hl hb (by simpa using ha.2) h2 (fun x hx => hp x (List.mem_append.2 (.inr hx))), rfl⟩
theorem law_post {P : Program} {J : Inv} {f : FuncId} {fn : Func} {s : ChangeSpec} {tb : TypeId} (hl : laidOutB P = true) (hts : fn.params.toList.all (fun t => P.readableRec t && decide (t < P.types.size)) = true)
    (hv : s.vars = []) (hres : fn.resultTypes = #[tb]) (htb : P.underlying tb = some .bool) {H : Type} {enc : TypeId × Value → H} {W : World} {args : Array Value} {ds gs : List (DataW H)} {before : List MemPlace}
    (hW : DataW.Whole enc P fn.params.toList s.vars false W args.toList ds gs before) (hs : (s.fn H (ds ++ gs)).results = [.lit (.bool true)] ∧ (s.fn H (ds ++ gs)).args = ds ∧ (s.fn H (ds ++ gs)).vars = [])
    {us : List V} (pc : PureCall P J f us (.one (.d (.bool true)))) (hJ : J.I W) (hn : args.size = us.length) (hx : ∀ (i : Nat) (u : V) (v : Value), us[i]? = some u → args[i]? = some v → RV (noGh fun b => b < W.heap.size) noSh W u v) :
    Calls P f args W fun e W' => ∃ v, e = .returned v ∧ s.post enc P fn false true false false W args v W' := by
  have h := pc.calls (fun b => b < W.heap.size) W args.toList hJ (fun b hb => hb) (by simpa using hn) (fun i u v h1 h2 => hx i u v h1 (by simpa using h2))
  have h' : Calls P f args W _ := h
  refine h'.mono fun e W' ⟨v, im', he, hB, _, _, _, hr⟩ => ⟨v, he, ?_⟩
  obtain rfl : v = .bool true := by
    cases hr with | one _ _ h => cases h with | d _ _ h => cases h with | bool => rfl
  have hlt : ∀ x ∈ before, x.block < W.heap.size := fun x hx => by simpa using hW.lt x hx
  have hW' := hW
  obtain ⟨p, q, hA, hV, rfl, _, _⟩ := hW
  rw [hv] at hV
  have hgs : gs = [] ∧ q = [] := by
    cases gs with
    | nil => exact ⟨rfl, hV⟩
    | cons g gs => exact hV.elim
  obtain ⟨rfl, rfl⟩ := hgs
  refine ⟨ds, [], p ++ [], [], p, [], hW', ?_, ?_, ?_, hB.frame _, fun h => by cases h⟩
  · rw [hs.1, hres]
    exact trodAll_cons_mk (shut_bool htb true) trodAll_mk0
  · rw [hs.2.1]
    exact Below.trodAll hl hB hts hA (fun x hx => hlt x (by simp [hx]))
  · rw [hs.2.2, hv]; rfl
/-- An argument that is a struct or an array; one that is not. -/
theorem arg_agg {P : Program} {t : TypeId} {α : Type} (de : Dec P t α) {W : World} {r : Reach} {base : Nat} {v : Value} (ht : (match P.underlying t with | some (.struct _) | some (.array _ _) => true | _ => false) = true) (hv : Value.okWide P W r base t v)
    {H : Type} {enc : TypeId × Value → H} {d : DataW H} {ps : List MemPlace} (h : DataW.Trod enc P W 0 (fun _ => true) true t v d ps) : ∃ x : α, RV (noGh fun b => b < W.heap.size) noSh W (.agg ((de.ds x).map .d)) v ∧ de.wf (Rows.uptoBulk d) x := by
  obtain ⟨fuel, h⟩ := h
  obtain ⟨x, h1, h2⟩ := de.ok h
  refine ⟨x, ?_, h2⟩
  have hc : ∃ cs, v = .agg cs := by
    unfold Value.okWide at hv
    split at hv
    · exact ⟨_, hv.choose_spec.1⟩
    · exact ⟨_, hv.choose_spec.1⟩
    · rename_i h3 h4
      split at ht
      · rename_i fs h5; exact absurd h5 (h3 _)
      · rename_i n e h5; exact absurd h5 (h4 _ _)
      · cases ht
  obtain ⟨cs, rfl⟩ := hc
  have h3 : RDs W cs.toList (de.ds x) := h1
  have := RV.agg (g := noGh fun b => b < W.heap.size) (h := noSh) (w := W) ((de.ds x).map .d) cs.toList (by simp [h3.1]) (fun i c v hc hv => by
    simp only [List.getElem?_map, Option.map_eq_some_iff] at hc
    obtain ⟨d, hd, rfl⟩ := hc
    exact .d _ _ (h3.2 i v d hv hd))
  simpa using this
theorem arg_one {P : Program} {t : TypeId} {α : Type} (de : Dec P t α) {W : World} {r : Reach} {base : Nat} {v : Value} (ht : (match P.underlying t with | some .bool | some (.int _) | some .string | some (.slice _) | some (.pointer _) | some (.map _ _) => true | _ => false) = true) (hv : Value.okWide P W r base t v)
    {H : Type} {enc : TypeId × Value → H} {d : DataW H} {ps : List MemPlace} (h : DataW.Trod enc P W 0 (fun _ => true) true t v d ps) : ∃ x : α, (∀ e, de.ds x = [e] → RV (noGh fun b => b < W.heap.size) noSh W (.one (.d e)) v) ∧ de.wf (Rows.uptoBulk d) x := by
  obtain ⟨fuel, h⟩ := h
  obtain ⟨x, h1, h2⟩ := de.ok h
  refine ⟨x, fun e he => ?_, h2⟩
  have hc : v.cells.toList = [v] := by
    cases v with
    | agg cs =>
      exfalso
      unfold Value.okWide Cell.okWide Cell.ok at hv
      split at ht <;> simp_all
    | _ => rfl
  rw [hc, he] at h1
  exact .one _ _ (.d _ _ (h1.2 0 v e rfl rfl))
end Go.Proofs.YtjibdoagpegniaaGreatDoor

/- The world in which a row's call begins: what the listed variables give; a world for the witness. -/
set_option linter.unusedVariables false
set_option linter.unusedSimpArgs false
set_option maxRecDepth 100000
namespace Go.Proofs.YtjibdoagpegniaaGreatDoor
open Go Go.RowKit Go.ChangeShapes Go.WideShapes Go.ChangeAt
theorem trod_iface {H : Type} {enc : TypeId × Value → H} {P : Program} {w : World} {fuel : Nat} {t : TypeId} {cs : List Value} {nm : String} {x : DataW H} {p : List MemPlace} {ms : Array (String × TypeId)} (ht : P.underlying t = some (.interface ms))
    (h : DataW.trod enc P w 0 (fun _ => true) false fuel t cs = some (.iface nm x, p)) : ∃ u v, cs = [.iface u v] := by
  cases fuel with
  | zero => simp [DataW.trod] at h
  | succ fuel =>
    unfold DataW.trod at h
    rw [ht] at h
    split at h <;> first
      | exact ⟨_, _, rfl⟩
      | (simp_all; done)
theorem err_of {P : Program} {W : World} {n : String} {nm : String} {d : DataW Unit} {g : Nat} {t : TypeId} {ms : Array (String × TypeId)} (hg : P.globalNamed n = some g) (hty : (P.globals[g]?).map (·.type) = some t) (ht : P.underlying t = some (.interface ms))
    (h : Lib.VarReads P W n (.iface nm d)) : ∃ t p, W.var? P n = some #[.iface t p] := by
  obtain ⟨g', t', cs, fuel, p, hg', ht', hvar, hd⟩ := h
  obtain rfl := Option.some.inj (hg.symm.trans hg')
  obtain rfl := Option.some.inj (hty.symm.trans ht')
  obtain ⟨u, v, hc⟩ := trod_iface ht hd
  exact ⟨u, v, by rw [hvar]; congr 1; exact Array.ext' (by simpa using hc)⟩
theorem pow_of {W : World} (h : Lib.VarReads Tryz.prog W "internal/strconv.uint64pow10" Rows.laid_internal_strconv_uint64pow10) : Lib.TabIs Tryz.prog W "internal/strconv.uint64pow10" .u64 Lib.pow10Tab := by
  obtain ⟨g', t', cs, fuel, p, hg', ht', hvar, hd⟩ := h
  obtain rfl := Option.some.inj ((show Tryz.prog.globalNamed "internal/strconv.uint64pow10" = some 1 by kernel_rfl).symm.trans hg')
  obtain rfl := Option.some.inj ((show (Tryz.prog.globals[1]?).map (·.type) = some 214 by kernel_rfl).symm.trans ht')
  unfold Lib.TabIs
  rw [hvar, ← Lib.cells_of_tab (k := .u64) (zs := Lib.pow10Tab) Tryz.underlying214 Tryz.underlying180 (by kernel_rfl) (by kernel_rfl) hd]
theorem base_of {W : World} {l : List (String × DataW Unit)} (hl : laidMet Tryz.prog l W) (h1 : ("internal/strconv.uint64pow10", Rows.laid_internal_strconv_uint64pow10) ∈ l) (h2 : ("strconv.ErrSyntax", Rows.laid_strconv_ErrSyntax) ∈ l)
    (h3 : ("strconv.ErrRange", Rows.laid_strconv_ErrRange) ∈ l) (hS : W.ShapedOpen Tryz.prog) : J.I W where
  max := cell_of_shapedOpen_int (t := 3) (zero := #[.int .i64 0]) hS (of_decide_eq_true (by kernel_rfl)) (by kernel_rfl) rfl (by kernel_rfl) (by kernel_rfl) Tryz.underlying3
  pow := pow_of (Lib.laidMet.reads hl h1)
  esyn := err_of (g := 2) (by kernel_rfl) (by kernel_rfl) Tryz.underlying153 (Lib.laidMet.reads hl h2)
  eran := err_of (g := 3) (by kernel_rfl) (by kernel_rfl) Tryz.underlying153 (Lib.laidMet.reads hl h3)
mutual
def dcells : DataW Unit → List Value
  | .lit (.int k n) => [.int k n]
  | .agg ds => dcellsL ds
  | _ => []
def dcellsL : List (DataW Unit) → List Value
  | [] => []
  | d :: ds => dcells d ++ dcellsL ds
end
def putCs (cs : List Value) : Obj → Obj
  | .cells _ t fr => .cells cs.toArray t fr
  | o => o
def errText : DataW Unit → ByteArray
  | .iface _ (.ptr (.agg [.lit (.string s)])) => ⟨s.toArray⟩
  | _ => ByteArray.empty
def errCell (b : Nat) : List Value := [.iface 231 (.pointer (some ⟨b, 0, none⟩))]
/-- The settled world, the listed variables holding what their initialisers lay. -/
noncomputable def laidWorld (os : Os) : World :=
  { World.holding Tryz.prog os ⟨#[], #[], []⟩ with heap :=
    let h := (World.holding Tryz.prog os ⟨#[], #[], []⟩).heap
    let h := h.modify 1 (putCs (dcells Rows.laid_internal_strconv_uint64pow10))
    let h := h.modify 4 (putCs (dcells Rows.laid_unicode_utf8_first))
    let h := h.modify 5 (putCs (dcells Rows.laid_unicode_utf8_acceptRanges))
    let h := h.modify 6 (putCs (dcells Rows.laid_math_bits_deBruijn32tab))
    let h := h.modify 7 (putCs (dcells Rows.laid_math_bits_deBruijn64tab))
    let n := h.size
    let h := h.modify 2 (putCs (errCell n))
    let h := h.modify 3 (putCs (errCell (n + 1)))
    (h.push (.cells #[.string (errText Rows.laid_strconv_ErrSyntax)] 233 (0, 0))).push (.cells #[.string (errText Rows.laid_strconv_ErrRange)] 233 (0, 0)) }
end Go.Proofs.YtjibdoagpegniaaGreatDoor

/- Decoders of the seat's types. -/
set_option linter.unusedVariables false
namespace Go.Proofs.YtjibdoagpegniaaGreatDoor
open Go Go.RowKit
end Go.Proofs.YtjibdoagpegniaaGreatDoor

/- Decoders of spans and ranges. -/
set_option linter.unusedVariables false
namespace Go.Proofs.YtjibdoagpegniaaGreatDoor
open Go Go.RowKit
end Go.Proofs.YtjibdoagpegniaaGreatDoor

/- CondsRead: the contract of its row. -/
set_option linter.unusedVariables false
set_option linter.unusedSimpArgs false
set_option maxRecDepth 100000
set_option maxHeartbeats 4000000
namespace Go.Proofs.YtjibdoagpegniaaGreatDoor.fnCondsRead
open Go Go.RowKit Go.ChangeShapes Go.WideShapes Go.ChangeAt
theorem contract (H : Type) (enc : TypeId × Value → H) (W : World) (base : Nat) (args : Array Value) (ds gs : List (DataW H)) (before : List MemPlace)
    (hval : ∀ (j : Nat) t v, Tryz.f3.params[j]? = some t → args[j]? = some v → Value.okWide Tryz.prog W .any base t v)
    (hW : DataW.Whole enc Tryz.prog Tryz.f3.params.toList Rows.condsReadSpec.vars false W args.toList ds gs before) (hc : Rows.uptoSmall H (ds ++ gs) = true)
    (hL : laidMetH Tryz.prog Rows.condsReadUptoRow.laid W) (hS : W.ShapedOpen Tryz.prog) :
    Calls Tryz.prog 3 args W fun e W' => ∃ v, e = .returned v ∧ Rows.condsReadSpec.post enc Tryz.prog Tryz.f3 false true false false W args v W' := by
  have hW' := hW
  obtain ⟨p, q, hA0, hV, rfl, hfz, hnd⟩ := hW
  have hA : DataW.TrodAll enc Tryz.prog W 0 (fun _ => true) true Tryz.f3.params.toList args.toList ds p := hA0
  rw [Tryz.params3] at hA hval
  obtain ⟨v0, vs0, d0, ds0, p0, q0, hargs, rfl, rfl, h0, r0⟩ := trodAll_cons hA
  obtain ⟨rfl, rfl, rfl⟩ := trodAll_nil r0
  obtain rfl : args = #[v0] := Array.ext' (by simpa using hargs)
  obtain ⟨rfl, rfl⟩ := trodVars_none hV
  obtain ⟨s, e0, w0⟩ := arg_one (Dec.str Tryz.underlying9) (by kernel_rfl) (hval 0 9 v0 rfl rfl) h0
  have hbulk : Rows.uptoBulkAll ([d0] ++ []) ≤ 1048576 := of_decide_eq_true hc
  simp only [List.append_nil, Rows.uptoBulkAll] at hbulk
  have h0 : s.length < Rows.uptoBulk d0 := w0
  have pc := pc_outlaw2_CondsRead s (by omega)
  refine law_post (by kernel_rfl) (by kernel_rfl) rfl rfl Tryz.underlying4 hW' ⟨rfl, rfl, rfl⟩ pc (base_of (l := Rows.condsReadUptoRow.laid) hL (.tail _ (.tail _ (.head _))) (.tail _ (.tail _ (.tail _ (.tail _ (.tail _ (.head _)))))) (.tail _ (.tail _ (.tail _ (.tail _ (.head _))))) hS) rfl (fun i u v hu hv => ?_)
  match i with
  | 0 => simp at hu hv; subst hu; subst hv; exact e0 _ rfl
  | i + 1 => simp at hu
end Go.Proofs.YtjibdoagpegniaaGreatDoor.fnCondsRead
