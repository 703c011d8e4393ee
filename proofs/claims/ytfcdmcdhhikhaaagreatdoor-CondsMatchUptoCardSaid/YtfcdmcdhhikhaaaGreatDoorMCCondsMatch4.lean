/- Part 4 of a proof: W82, V24, V25, V67, V81, W83, W33, W34, W35, W36, V26, V27, V28, W41, V29, W42, V40, V41, W43, V85, W88, V17, V87, W90. -/
import Derived.Lib.Replace
import Derived.Lib.ReplaceLaws
import Derived.Lib.Join
import Derived.Test.YtfcdmcdhhikhaaaGreatDoorMCCondsMatch3
set_option linter.unusedVariables false
set_option linter.unusedSimpArgs false
set_option maxRecDepth 100000
set_option maxHeartbeats 4000000
namespace Go.Proofs.YtfcdmcdhhikhaaaGreatDoor
section
open Go
open Go.RowKit
attribute [local irreducible] thenK blockK W
attribute [local irreducible] escB fillTo lenTo replD spec
theorem s_lt {s : List UInt8} {i : Nat} (h : decide ((i : Int) < (s.length : Int)) = true) : i < s.length := by simpa using h
theorem off_is (c : UInt8) : 0 + ((c.toNat : Nat) : Int).toNat * 1 = c.toNat := by rw [Int.toNat_natCast, Nat.mul_one, Nat.zero_add]
theorem len_t0 (s : List UInt8) : V.one (.d (.int .i64 0)) = V.one (.d (.int .i64 ((escB (s.take 0)).length : Int))) := by rw [List.take_zero, esc_nil]; rfl
theorem cz {x : Nat} (h : ((x : Int) != 0) = false) : x = 0 := by simpa using h
theorem an {s : List UInt8} (h : (!(s.take s.length).any spec) = true) : s.any spec = false := by rw [List.take_length] at h; simpa using h
theorem s_ge {s : List UInt8} {i : Nat} (h : decide ((i : Int) < (s.length : Int)) = false) : s.length ≤ i := by simpa using h
theorem pc_Count1 (s : List UInt8) (c : UInt8) :
  PureCall Tryz.prog J 172 [.one (.d (.str s)), .one (.d (.str [c]))] (.one (.d (.int .i64 (Lib.countByte s c : Int)))) := by
 refine PureCall.of_body tOk (fn := Tryz.f172) Tryz.func172 (by kernel_rfl) rfl (Nat.le_of_ble_eq_true rfl) (fun E => ?_)
 iterate 9 first|refine Yp rfl ?_|apply Y1|apply Yn|apply Ys
 refine W.condF rfl rfl ?_
 iterate 8 first|refine Yp rfl ?_|apply Yk|apply Y1|apply Yn|apply Ys
 refine W.condT rfl rfl ?_
 apply Y1
 iterate 2 refine Yp rfl ?_
 refine YP rfl (by first | rfl | exact idx_ok (by omega) (by omega)) rfl ?_
 refine S.countB (s := s) (c := c) Tryz.func203 (by kernel_rfl) (by kernel_rfl) (by kernel_rfl) (by kernel_rfl) rfl rfl rfl ?_
 refine Yp rfl ?_
 apply Yn
 apply Yt
 apply Yu
 exact ⟨_, rfl, rfl, LeV.refl _⟩
theorem pc_BSReplace (s : List UInt8) (hs : s.length ≤ 4000000) :
  HCall Tryz.prog J 295 ([.one (.ptr 0 0), .one (.d (.str s))]) ([bsr]) ([some ⟨true, 2, 1, 9, [[.str [34]], [.str [92]]]⟩]) ([]) (isH (.one (.d (.str (escB s)))) ([bsr]) ([some ⟨true, 2, 1, 9, [[.str [34]], [.str [92]]]⟩]) ([])) := by
 have hc34 := cnt_le s 34
 have hc92 := cnt_le s 92
 have hel := esc_len s
 have hle := esc_le s
 refine HCall.ofD tOk ⟨1, 1, 0⟩ (fn := Tryz.f295) Tryz.func295 (by kernel_rfl) rfl (Nat.le_of_ble_eq_true rfl) (fun E => ?_)
 iterate 14 first|refine Yp rfl ?_|apply Y1|apply Y3|apply Ys|apply Yn
 refine S.loadC tOk rfl rfl rfl rfl rfl (bsr_row rfl) ?_
 iterate 5 refine Yp rfl ?_
 apply Yn
 refine W.cond rfl (fun c1=>?_) fun c1=>?_
 ·skip
  apply Y1
  iterate 3 refine Yp rfl ?_
  refine S.loadC tOk rfl rfl rfl rfl rfl (bsr_row rfl) ?_
  iterate 2 refine Yp rfl ?_
  apply Yn
  apply Yb
  refine W.rounds 3 ?_
  refine WR.succ ?_
  apply Y1
  refine Yp rfl ?_
  apply Yn
  apply Ys
  refine W.condT rfl rfl ?_
  apply Yk
  apply Yn
  apply Ys
  apply Yb
  apply Y1
  refine YP rfl (by first | rfl | exact idx_ok (by omega) (by omega)) rfl ?_
  refine S.rload tOk rfl rfl rfl rfl rfl rfl ?_
  iterate 4 first|refine Yp rfl ?_|apply Y3
  refine S.call rfl rfl rfl rfl rfl (pc_Count1 s 34) ?_
  iterate 5 first|refine Yp rfl ?_|apply Y3|apply Yn
  refine W.cond rfl (fun c3=>?_) fun c3=>?_
  ·skip
   apply Ys
   refine W.regionS 13 mixed rfl (by kernel_rfl) ?_
   refine AnyZ.eager 0 rfl (by kernel_rfl) (Eag.pure tOk zOk rfl (fun _ _ _ => rfl) rfl rfl) ?_
   refine AnyZ.eager 1 rfl (by kernel_rfl) (Eag.pure tOk zOk rfl (fun _ _ _ => rfl) rfl rfl) ?_
   refine AnyZ.eager 2 rfl (by kernel_rfl) (Eag.pure tOk zOk rfl (fun _ _ _ => rfl) rfl rfl) ?_
   refine AnyZ.eager 3 rfl (by kernel_rfl) (Eag.pure tOk zOk rfl (fun _ _ _ => rfl) rfl rfl) ?_
   refine AnyZ.eager 4 rfl (by kernel_rfl) (Eag.pure tOk zOk rfl (fun _ _ _ => rfl) rfl rfl) ?_
   refine AnyZ.eager 5 rfl (by kernel_rfl) (Eag.pure tOk zOk rfl (fun _ _ _ => rfl) rfl rfl) ?_
   refine AnyZ.eager 6 rfl (by kernel_rfl) (Eag.pure tOk zOk rfl (fun _ _ _ => rfl) rfl rfl) ?_
   refine AnyZ.eager 7 rfl (by kernel_rfl) (Eag.pure tOk zOk rfl (fun _ _ _ => rfl) rfl rfl) ?_
   refine AnyZ.one 8 (by kernel_rfl) rfl ?_
   refine OpZ.loadC tOk rfl rfl rfl rfl rfl (by first | exact bsr_34 rfl | exact bsr_92 rfl) ?_
   refine AnyZ.eager 9 rfl (by kernel_rfl) (Eag.pure tOk zOk rfl (fun _ _ _ => rfl) rfl rfl) ?_
   refine AnyZ.eager 10 rfl (by kernel_rfl) (Eag.pure tOk zOk rfl (fun _ _ _ => congrArg (fun x => some (_, x)) (len_m1 _)) rfl rfl) ?_
   refine AnyZ.eager 11 rfl (by kernel_rfl) (Eag.pure tOk zOk rfl (fun _ _ _ => congrArg (fun x => some (_, x)) (mul_1 (by omega) (by omega))) rfl rfl) ?_
   refine AnyZ.eager 12 rfl (by kernel_rfl) (Eag.pure tOk zOk rfl (fun _ _ _ => congrArg (fun x => some (_, x)) (add_i (by omega) (by omega))) rfl rfl) ?_
   refine AnyZ.nil (by kernel_rfl) ?_
   iterate 8 first|refine Yp rfl ?_|apply Yw|apply Y4|apply Yn
   refine WR.succ ?_
   apply Y1
   refine Yp rfl ?_
   apply Yn
   apply Ys
   refine W.condT rfl rfl ?_
   apply Yk
   apply Yn
   apply Ys
   apply Yb
   apply Y1
   refine YP rfl (by first | rfl | exact idx_ok (by omega) (by omega)) rfl ?_
   refine S.rload tOk rfl rfl rfl rfl rfl rfl ?_
   iterate 4 first|refine Yp rfl ?_|apply Y3
   refine S.call rfl rfl rfl rfl rfl (pc_Count1 s 92) ?_
   iterate 5 first|refine Yp rfl ?_|apply Y3|apply Yn
   refine W.cond rfl (fun c5=>?_) fun c5=>?_
   ·skip
    apply Ys
    refine W.regionS 13 mixed rfl (by kernel_rfl) ?_
    refine AnyZ.eager 0 rfl (by kernel_rfl) (Eag.pure tOk zOk rfl (fun _ _ _ => rfl) rfl rfl) ?_
    refine AnyZ.eager 1 rfl (by kernel_rfl) (Eag.pure tOk zOk rfl (fun _ _ _ => rfl) rfl rfl) ?_
    refine AnyZ.eager 2 rfl (by kernel_rfl) (Eag.pure tOk zOk rfl (fun _ _ _ => rfl) rfl rfl) ?_
    refine AnyZ.eager 3 rfl (by kernel_rfl) (Eag.pure tOk zOk rfl (fun _ _ _ => rfl) rfl rfl) ?_
    refine AnyZ.eager 4 rfl (by kernel_rfl) (Eag.pure tOk zOk rfl (fun _ _ _ => rfl) rfl rfl) ?_
    refine AnyZ.eager 5 rfl (by kernel_rfl) (Eag.pure tOk zOk rfl (fun _ _ _ => rfl) rfl rfl) ?_
    refine AnyZ.eager 6 rfl (by kernel_rfl) (Eag.pure tOk zOk rfl (fun _ _ _ => rfl) rfl rfl) ?_
    refine AnyZ.eager 7 rfl (by kernel_rfl) (Eag.pure tOk zOk rfl (fun _ _ _ => rfl) rfl rfl) ?_
    refine AnyZ.one 8 (by kernel_rfl) rfl ?_
    refine OpZ.loadC tOk rfl rfl rfl rfl rfl (by first | exact bsr_34 rfl | exact bsr_92 rfl) ?_
    refine AnyZ.eager 9 rfl (by kernel_rfl) (Eag.pure tOk zOk rfl (fun _ _ _ => rfl) rfl rfl) ?_
    refine AnyZ.eager 10 rfl (by kernel_rfl) (Eag.pure tOk zOk rfl (fun _ _ _ => congrArg (fun x => some (_, x)) (len_m1 _)) rfl rfl) ?_
    refine AnyZ.eager 11 rfl (by kernel_rfl) (Eag.pure tOk zOk rfl (fun _ _ _ => congrArg (fun x => some (_, x)) (mul_1 (by omega) (by omega))) rfl rfl) ?_
    refine AnyZ.eager 12 rfl (by kernel_rfl) (Eag.pure tOk zOk rfl (fun _ _ _ => congrArg (fun x => some (_, x)) (add_i (by omega) (by omega))) rfl rfl) ?_
    refine AnyZ.nil (by kernel_rfl) ?_
    iterate 8 first|refine Yp rfl ?_|apply Yw|apply Y4|apply Yn
    refine WR.succ ?_
    apply Y1
    refine Yp rfl ?_
    apply Yn
    apply Ys
    refine W.condF rfl rfl ?_
    iterate 10 first|refine Yp rfl ?_|apply Ye|apply Yx|apply Yq|apply Y1|apply Yn|apply Ys
    refine W.cond rfl (fun c7=>?_) fun c7=>?_
    ·skip
     iterate 6 first|refine Yp rfl ?_|apply Yu|apply Yt|apply Y1|apply Yn
     exact ⟨_, rfl, rfl, LeG.of_force rfl (by first | rfl | exact absurd (show (!true) = true by assumption) (by decide) | (rw [cnt_same (by omega) (by omega)]) | (rw [esc_same (an (by assumption))])), rfl, rfl, rfl⟩
    apply Yk
    apply Y3
    refine YE rfl rfl (len_is (k := (escB s).length) (by first | omega | (rw [lenTo_end]))) rfl ?_
    refine S.makeSlice tOk (zd := [.int .u8 0]) (r' := [some ⟨true, 2, 1, 9, [[.str [34]], [.str [92]]]⟩, some ⟨true, 0, 1, 5, fillTo s 0⟩]) (escB s).length rfl rfl rfl rfl rfl rfl rfl (by omega) rfl (congrArg (fun z => [some (RowO.mk true 2 1 9 [[D.str [34]], [D.str [92]]]), some (RowO.mk true 0 1 5 z)]) (fill_0 s)) ?_
    iterate 9 first|refine Yp rfl ?_|apply Yb|apply Y1|apply Y3|apply Yn|apply Ys
    refine W.loop (fun k st => ∃ i : Nat, i ≤ s.length ∧ k = s.length - i ∧ ∃ t b2 r2 m2, st = ⟨t, [bsr] ++ b2, [some ⟨true, 2, 1, 9, [[.str [34]], [.str [92]]]⟩, some ⟨true, 0, 1, 5, fillTo s i⟩] ++ r2, [] ++ m2⟩ ∧ holdsL t [(0, .one (.ptr 0 0)), (1, .one (.d (.str s))), (12, .one (.row 1 0 0 (escB s).length)), (13, .one (.d (.int .i64 ((escB (s.take i)).length : Int)))), (14, .one (.d (.int .i64 (i : Int))))]) (s.length) ⟨0, Nat.zero_le _, rfl, _, _, _, _, rfl, rfl, rfl, rfl, (len_t0 s), rfl, trivial⟩ ?_
    rintro k4 _ ⟨i, f4_0, rfl, t4, bb4, rr4, mm4, rfl, hh4⟩
    refine W.keepR _ _ _ _ _ _ _ hh4 rfl ?_
    iterate 7 first|refine Yp rfl ?_|apply Y1|apply Yn|apply Ys
    refine W.cond rfl (fun c8=>?_) fun c8=>?_
    ·skip
     have hi := s_lt (by assumption)
     have hlt := escTake_lt hi
     rw [esc1_len] at hlt
     iterate 7 first|refine Yp rfl ?_|apply Yb|apply Yk|apply Y1|apply Ys|apply Yn
     refine YP rfl (str_ok hi) rfl ?_
     iterate 6 first|refine Yp rfl ?_|apply Y3
     refine YP rfl (arr_ok _) rfl ?_
     refine S.loadC tOk rfl rfl rfl rfl rfl (bsr_at (s.getD i 0) (off_is (s.getD i 0))) ?_
     refine S.notNilD tOk (!spec (s.getD i 0)) (replD_nil _) rfl rfl rfl ?_
     apply Yn
     refine W.cond rfl (fun c9=>?_) fun c9=>?_
     ·skip
      have hsp : spec (s.getD i 0) = true := nn (by assumption)
      rw [if_pos hsp] at hlt
      refine W.regionS 12 mixed rfl (by kernel_rfl) ?_
      refine AnyZ.eager 0 rfl (by kernel_rfl) (Eag.pure tOk zOk rfl (fun _ _ _ => rfl) rfl rfl) ?_
      refine AnyZ.eager 1 rfl (by kernel_rfl) (Eag.pure tOk zOk rfl (fun _ _ _ => rfl) rfl rfl) ?_
      refine AnyZ.eager 2 rfl (by kernel_rfl) (Eag.pure tOk zOk rfl (fun _ _ _ => rfl) rfl rfl) ?_
      refine AnyZ.eager 4 rfl (by kernel_rfl) (Eag.pure tOk zOk rfl (fun _ _ _ => rfl) rfl rfl) ?_
      refine AnyZ.eager 5 rfl (by kernel_rfl) (Eag.pure tOk zOk rfl (fun _ _ _ => rfl) rfl rfl) ?_
      refine AnyZ.eager 6 rfl (by kernel_rfl) (Eag.pure tOk zOk rfl (fun _ _ _ => rfl) rfl rfl) ?_
      refine AnyZ.eager 7 rfl (by kernel_rfl) (Eag.pure tOk zOk rfl (fun _ _ _ => rfl) rfl rfl) ?_
      refine AnyZ.eager 8 rfl (by kernel_rfl) (Eag.pure tOk zOk rfl (fun _ _ _ => rfl) (arr_ok _) rfl) ?_
      refine AnyZ.two 3 9 (by kernel_rfl) rfl rfl ?_ ?_
      ·skip
       refine OpZ.sliceRow tOk (escB (s.take i)).length rfl rfl rfl rfl rfl rfl rfl (by omega) (Nat.zero_add _) rfl ?_
       refine AnyZ.one 9 (by kernel_rfl) rfl ?_
       refine OpZ.loadC tOk rfl rfl rfl rfl rfl (bsr_sp hsp (off_is (s.getD i 0))) ?_
       refine AnyZ.one 10 (by kernel_rfl) rfl ?_
       refine OpZ.copyRow tOk (news := [.int .u8 ((92 : UInt8).toNat : Int), .int .u8 ((s.getD i 0).toNat : Int)]) rfl rfl rfl rfl rfl rfl rfl rfl (by simp) (show 2 ≤ _ by omega) (fill_s hi hsp) rfl ?_
       refine AnyZ.eager 11 rfl (by kernel_rfl) (Eag.pure tOk zOk rfl (fun _ _ _ => congrArg (fun x => some (_, x)) (esc_add hi hsp hs)) rfl rfl) ?_
       refine AnyZ.nil (by kernel_rfl) ?_
       iterate 6 first|refine Yp rfl ?_|apply Yw|apply Y4
       refine loop_n (s.length - (i + 1)) (by omega) ⟨i + 1, hi, rfl, _, _, _, _, rfl, rfl, rfl, rfl, rfl, inc_i64 (by omega), trivial⟩
      refine OpZ.loadC tOk rfl rfl rfl rfl rfl (bsr_sp hsp (off_is (s.getD i 0))) ?_
      refine AnyZ.one 3 (by kernel_rfl) rfl ?_
      refine OpZ.sliceRow tOk (escB (s.take i)).length rfl rfl rfl rfl rfl rfl rfl (by omega) (Nat.zero_add _) rfl ?_
      refine AnyZ.one 10 (by kernel_rfl) rfl ?_
      refine OpZ.copyRow tOk (news := [.int .u8 ((92 : UInt8).toNat : Int), .int .u8 ((s.getD i 0).toNat : Int)]) rfl rfl rfl rfl rfl rfl rfl rfl (by simp) (show 2 ≤ _ by omega) (fill_s hi hsp) rfl ?_
      refine AnyZ.eager 11 rfl (by kernel_rfl) (Eag.pure tOk zOk rfl (fun _ _ _ => congrArg (fun x => some (_, x)) (esc_add hi hsp hs)) rfl rfl) ?_
      refine AnyZ.nil (by kernel_rfl) ?_
      iterate 6 first|refine Yp rfl ?_|apply Yw|apply Y4
      refine loop_n (s.length - (i + 1)) (by omega) ⟨i + 1, hi, rfl, _, _, _, _, rfl, rfl, rfl, rfl, rfl, inc_i64 (by omega), trivial⟩
     have hsp : spec (s.getD i 0) = false := nf (by assumption)
     rw [if_neg (by rw [hsp]; simp)] at hlt
     apply Y1
     iterate 3 refine Yp rfl ?_
     refine YP rfl (idx_ok (Int.natCast_nonneg _) (by omega)) rfl ?_
     refine S.rstore tOk rfl rfl rfl rfl rfl rfl rfl (fill_set (by simp) hi hsp) rfl ?_
     apply Y4
     refine Yp rfl ?_
     refine YE rfl rfl (esc_inc hi hsp hs) rfl ?_
     iterate 6 first|refine Yp rfl ?_|apply Yw|apply Y4
     refine loop_n (s.length - (i + 1)) (by omega) ⟨i + 1, hi, rfl, _, _, _, _, rfl, rfl, rfl, rfl, rfl, inc_i64 (by omega), trivial⟩
    have hi := s_ge (by assumption)
    obtain rfl : i = s.length := by omega
    iterate 6 first|apply Ye|refine Yp rfl ?_|apply Yx|apply Yq|apply Y3
    refine S.convRow (sz := 1) tOk (escB s) rfl rfl rfl rfl rfl rfl rfl (congrArg (fun z => some (some (RowO.mk true 0 1 5 z))) (fill_end s)) rfl ?_
    refine Yp rfl ?_
    apply Yn
    apply Yt
    exact ⟨_, rfl, rfl, LeG.of_force rfl (by first | rfl | exact absurd (show (!true) = true by assumption) (by decide) | (rw [cnt_same (by omega) (by omega)]) | (rw [esc_same (an (by assumption))])), rfl, rfl, rfl⟩
   have hz := cz (by assumption)
   iterate 6 first|refine Yp rfl ?_|apply Yw|apply Yk|apply Y4|apply Yn
   refine WR.succ ?_
   apply Y1
   refine Yp rfl ?_
   apply Yn
   apply Ys
   refine W.condF rfl rfl ?_
   iterate 10 first|refine Yp rfl ?_|apply Ye|apply Yx|apply Yq|apply Y1|apply Yn|apply Ys
   refine W.cond rfl (fun c11=>?_) fun c11=>?_
   ·skip
    iterate 6 first|refine Yp rfl ?_|apply Yu|apply Yt|apply Y1|apply Yn
    exact ⟨_, rfl, rfl, LeG.of_force rfl (by first | rfl | exact absurd (show (!true) = true by assumption) (by decide) | (rw [cnt_same (by omega) (by omega)]) | (rw [esc_same (an (by assumption))])), rfl, rfl, rfl⟩
   apply Yk
   apply Y3
   refine YE rfl rfl (len_is (k := (escB s).length) (by first | omega | (rw [lenTo_end]))) rfl ?_
   refine S.makeSlice tOk (zd := [.int .u8 0]) (r' := [some ⟨true, 2, 1, 9, [[.str [34]], [.str [92]]]⟩, some ⟨true, 0, 1, 5, fillTo s 0⟩]) (escB s).length rfl rfl rfl rfl rfl rfl rfl (by omega) rfl (congrArg (fun z => [some (RowO.mk true 2 1 9 [[D.str [34]], [D.str [92]]]), some (RowO.mk true 0 1 5 z)]) (fill_0 s)) ?_
   iterate 9 first|refine Yp rfl ?_|apply Yb|apply Y1|apply Y3|apply Yn|apply Ys
   refine W.loop (fun k st => ∃ i : Nat, i ≤ s.length ∧ k = s.length - i ∧ ∃ t b2 r2 m2, st = ⟨t, [bsr] ++ b2, [some ⟨true, 2, 1, 9, [[.str [34]], [.str [92]]]⟩, some ⟨true, 0, 1, 5, fillTo s i⟩] ++ r2, [] ++ m2⟩ ∧ holdsL t [(0, .one (.ptr 0 0)), (1, .one (.d (.str s))), (12, .one (.row 1 0 0 (escB s).length)), (13, .one (.d (.int .i64 ((escB (s.take i)).length : Int)))), (14, .one (.d (.int .i64 (i : Int))))]) (s.length) ⟨0, Nat.zero_le _, rfl, _, _, _, _, rfl, rfl, rfl, rfl, (len_t0 s), rfl, trivial⟩ ?_
   rintro k4 _ ⟨i, f4_0, rfl, t4, bb4, rr4, mm4, rfl, hh4⟩
   refine W.keepR _ _ _ _ _ _ _ hh4 rfl ?_
   iterate 7 first|refine Yp rfl ?_|apply Y1|apply Yn|apply Ys
   refine W.cond rfl (fun c12=>?_) fun c12=>?_
   ·skip
    have hi := s_lt (by assumption)
    have hlt := escTake_lt hi
    rw [esc1_len] at hlt
    iterate 7 first|refine Yp rfl ?_|apply Yb|apply Yk|apply Y1|apply Ys|apply Yn
    refine YP rfl (str_ok hi) rfl ?_
    iterate 6 first|refine Yp rfl ?_|apply Y3
    refine YP rfl (arr_ok _) rfl ?_
    refine S.loadC tOk rfl rfl rfl rfl rfl (bsr_at (s.getD i 0) (off_is (s.getD i 0))) ?_
    refine S.notNilD tOk (!spec (s.getD i 0)) (replD_nil _) rfl rfl rfl ?_
    apply Yn
    refine W.cond rfl (fun c13=>?_) fun c13=>?_
    ·skip
     have hsp : spec (s.getD i 0) = true := nn (by assumption)
     rw [if_pos hsp] at hlt
     refine W.regionS 12 mixed rfl (by kernel_rfl) ?_
     refine AnyZ.eager 0 rfl (by kernel_rfl) (Eag.pure tOk zOk rfl (fun _ _ _ => rfl) rfl rfl) ?_
     refine AnyZ.eager 1 rfl (by kernel_rfl) (Eag.pure tOk zOk rfl (fun _ _ _ => rfl) rfl rfl) ?_
     refine AnyZ.eager 2 rfl (by kernel_rfl) (Eag.pure tOk zOk rfl (fun _ _ _ => rfl) rfl rfl) ?_
     refine AnyZ.eager 4 rfl (by kernel_rfl) (Eag.pure tOk zOk rfl (fun _ _ _ => rfl) rfl rfl) ?_
     refine AnyZ.eager 5 rfl (by kernel_rfl) (Eag.pure tOk zOk rfl (fun _ _ _ => rfl) rfl rfl) ?_
     refine AnyZ.eager 6 rfl (by kernel_rfl) (Eag.pure tOk zOk rfl (fun _ _ _ => rfl) rfl rfl) ?_
     refine AnyZ.eager 7 rfl (by kernel_rfl) (Eag.pure tOk zOk rfl (fun _ _ _ => rfl) rfl rfl) ?_
     refine AnyZ.eager 8 rfl (by kernel_rfl) (Eag.pure tOk zOk rfl (fun _ _ _ => rfl) (arr_ok _) rfl) ?_
     refine AnyZ.two 3 9 (by kernel_rfl) rfl rfl ?_ ?_
     ·skip
      refine OpZ.sliceRow tOk (escB (s.take i)).length rfl rfl rfl rfl rfl rfl rfl (by omega) (Nat.zero_add _) rfl ?_
      refine AnyZ.one 9 (by kernel_rfl) rfl ?_
      refine OpZ.loadC tOk rfl rfl rfl rfl rfl (bsr_sp hsp (off_is (s.getD i 0))) ?_
      refine AnyZ.one 10 (by kernel_rfl) rfl ?_
      refine OpZ.copyRow tOk (news := [.int .u8 ((92 : UInt8).toNat : Int), .int .u8 ((s.getD i 0).toNat : Int)]) rfl rfl rfl rfl rfl rfl rfl rfl (by simp) (show 2 ≤ _ by omega) (fill_s hi hsp) rfl ?_
      refine AnyZ.eager 11 rfl (by kernel_rfl) (Eag.pure tOk zOk rfl (fun _ _ _ => congrArg (fun x => some (_, x)) (esc_add hi hsp hs)) rfl rfl) ?_
      refine AnyZ.nil (by kernel_rfl) ?_
      iterate 6 first|refine Yp rfl ?_|apply Yw|apply Y4
      refine loop_n (s.length - (i + 1)) (by omega) ⟨i + 1, hi, rfl, _, _, _, _, rfl, rfl, rfl, rfl, rfl, inc_i64 (by omega), trivial⟩
     refine OpZ.loadC tOk rfl rfl rfl rfl rfl (bsr_sp hsp (off_is (s.getD i 0))) ?_
     refine AnyZ.one 3 (by kernel_rfl) rfl ?_
     refine OpZ.sliceRow tOk (escB (s.take i)).length rfl rfl rfl rfl rfl rfl rfl (by omega) (Nat.zero_add _) rfl ?_
     refine AnyZ.one 10 (by kernel_rfl) rfl ?_
     refine OpZ.copyRow tOk (news := [.int .u8 ((92 : UInt8).toNat : Int), .int .u8 ((s.getD i 0).toNat : Int)]) rfl rfl rfl rfl rfl rfl rfl rfl (by simp) (show 2 ≤ _ by omega) (fill_s hi hsp) rfl ?_
     refine AnyZ.eager 11 rfl (by kernel_rfl) (Eag.pure tOk zOk rfl (fun _ _ _ => congrArg (fun x => some (_, x)) (esc_add hi hsp hs)) rfl rfl) ?_
     refine AnyZ.nil (by kernel_rfl) ?_
     iterate 6 first|refine Yp rfl ?_|apply Yw|apply Y4
     refine loop_n (s.length - (i + 1)) (by omega) ⟨i + 1, hi, rfl, _, _, _, _, rfl, rfl, rfl, rfl, rfl, inc_i64 (by omega), trivial⟩
    have hsp : spec (s.getD i 0) = false := nf (by assumption)
    rw [if_neg (by rw [hsp]; simp)] at hlt
    apply Y1
    iterate 3 refine Yp rfl ?_
    refine YP rfl (idx_ok (Int.natCast_nonneg _) (by omega)) rfl ?_
    refine S.rstore tOk rfl rfl rfl rfl rfl rfl rfl (fill_set (by simp) hi hsp) rfl ?_
    apply Y4
    refine Yp rfl ?_
    refine YE rfl rfl (esc_inc hi hsp hs) rfl ?_
    iterate 6 first|refine Yp rfl ?_|apply Yw|apply Y4
    refine loop_n (s.length - (i + 1)) (by omega) ⟨i + 1, hi, rfl, _, _, _, _, rfl, rfl, rfl, rfl, rfl, inc_i64 (by omega), trivial⟩
   have hi := s_ge (by assumption)
   obtain rfl : i = s.length := by omega
   iterate 6 first|apply Ye|refine Yp rfl ?_|apply Yx|apply Yq|apply Y3
   refine S.convRow (sz := 1) tOk (escB s) rfl rfl rfl rfl rfl rfl rfl (congrArg (fun z => some (some (RowO.mk true 0 1 5 z))) (fill_end s)) rfl ?_
   refine Yp rfl ?_
   apply Yn
   apply Yt
   exact ⟨_, rfl, rfl, LeG.of_force rfl (by first | rfl | exact absurd (show (!true) = true by assumption) (by decide) | (rw [cnt_same (by omega) (by omega)]) | (rw [esc_same (an (by assumption))])), rfl, rfl, rfl⟩
  have hz := cz (by assumption)
  iterate 6 first|refine Yp rfl ?_|apply Yw|apply Yk|apply Y4|apply Yn
  refine WR.succ ?_
  apply Y1
  refine Yp rfl ?_
  apply Yn
  apply Ys
  refine W.condT rfl rfl ?_
  apply Yk
  apply Yn
  apply Ys
  apply Yb
  apply Y1
  refine YP rfl (by first | rfl | exact idx_ok (by omega) (by omega)) rfl ?_
  refine S.rload tOk rfl rfl rfl rfl rfl rfl ?_
  iterate 4 first|refine Yp rfl ?_|apply Y3
  refine S.call rfl rfl rfl rfl rfl (pc_Count1 s 92) ?_
  iterate 5 first|refine Yp rfl ?_|apply Y3|apply Yn
  refine W.cond rfl (fun c15=>?_) fun c15=>?_
  ·skip
   apply Ys
   refine W.regionS 13 mixed rfl (by kernel_rfl) ?_
   refine AnyZ.eager 0 rfl (by kernel_rfl) (Eag.pure tOk zOk rfl (fun _ _ _ => rfl) rfl rfl) ?_
   refine AnyZ.eager 1 rfl (by kernel_rfl) (Eag.pure tOk zOk rfl (fun _ _ _ => rfl) rfl rfl) ?_
   refine AnyZ.eager 2 rfl (by kernel_rfl) (Eag.pure tOk zOk rfl (fun _ _ _ => rfl) rfl rfl) ?_
   refine AnyZ.eager 3 rfl (by kernel_rfl) (Eag.pure tOk zOk rfl (fun _ _ _ => rfl) rfl rfl) ?_
   refine AnyZ.eager 4 rfl (by kernel_rfl) (Eag.pure tOk zOk rfl (fun _ _ _ => rfl) rfl rfl) ?_
   refine AnyZ.eager 5 rfl (by kernel_rfl) (Eag.pure tOk zOk rfl (fun _ _ _ => rfl) rfl rfl) ?_
   refine AnyZ.eager 6 rfl (by kernel_rfl) (Eag.pure tOk zOk rfl (fun _ _ _ => rfl) rfl rfl) ?_
   refine AnyZ.eager 7 rfl (by kernel_rfl) (Eag.pure tOk zOk rfl (fun _ _ _ => rfl) rfl rfl) ?_
   refine AnyZ.one 8 (by kernel_rfl) rfl ?_
   refine OpZ.loadC tOk rfl rfl rfl rfl rfl (by first | exact bsr_34 rfl | exact bsr_92 rfl) ?_
   refine AnyZ.eager 9 rfl (by kernel_rfl) (Eag.pure tOk zOk rfl (fun _ _ _ => rfl) rfl rfl) ?_
   refine AnyZ.eager 10 rfl (by kernel_rfl) (Eag.pure tOk zOk rfl (fun _ _ _ => congrArg (fun x => some (_, x)) (len_m1 _)) rfl rfl) ?_
   refine AnyZ.eager 11 rfl (by kernel_rfl) (Eag.pure tOk zOk rfl (fun _ _ _ => congrArg (fun x => some (_, x)) (mul_1 (by omega) (by omega))) rfl rfl) ?_
   refine AnyZ.eager 12 rfl (by kernel_rfl) (Eag.pure tOk zOk rfl (fun _ _ _ => congrArg (fun x => some (_, x)) (add_i (by omega) (by omega))) rfl rfl) ?_
   refine AnyZ.nil (by kernel_rfl) ?_
   iterate 8 first|refine Yp rfl ?_|apply Yw|apply Y4|apply Yn
   refine WR.succ ?_
   apply Y1
   refine Yp rfl ?_
   apply Yn
   apply Ys
   refine W.condF rfl rfl ?_
   iterate 10 first|refine Yp rfl ?_|apply Ye|apply Yx|apply Yq|apply Y1|apply Yn|apply Ys
   refine W.cond rfl (fun c17=>?_) fun c17=>?_
   ·skip
    iterate 6 first|refine Yp rfl ?_|apply Yu|apply Yt|apply Y1|apply Yn
    exact ⟨_, rfl, rfl, LeG.of_force rfl (by first | rfl | exact absurd (show (!true) = true by assumption) (by decide) | (rw [cnt_same (by omega) (by omega)]) | (rw [esc_same (an (by assumption))])), rfl, rfl, rfl⟩
   apply Yk
   apply Y3
   refine YE rfl rfl (len_is (k := (escB s).length) (by first | omega | (rw [lenTo_end]))) rfl ?_
   refine S.makeSlice tOk (zd := [.int .u8 0]) (r' := [some ⟨true, 2, 1, 9, [[.str [34]], [.str [92]]]⟩, some ⟨true, 0, 1, 5, fillTo s 0⟩]) (escB s).length rfl rfl rfl rfl rfl rfl rfl (by omega) rfl (congrArg (fun z => [some (RowO.mk true 2 1 9 [[D.str [34]], [D.str [92]]]), some (RowO.mk true 0 1 5 z)]) (fill_0 s)) ?_
   iterate 9 first|refine Yp rfl ?_|apply Yb|apply Y1|apply Y3|apply Yn|apply Ys
   refine W.loop (fun k st => ∃ i : Nat, i ≤ s.length ∧ k = s.length - i ∧ ∃ t b2 r2 m2, st = ⟨t, [bsr] ++ b2, [some ⟨true, 2, 1, 9, [[.str [34]], [.str [92]]]⟩, some ⟨true, 0, 1, 5, fillTo s i⟩] ++ r2, [] ++ m2⟩ ∧ holdsL t [(0, .one (.ptr 0 0)), (1, .one (.d (.str s))), (12, .one (.row 1 0 0 (escB s).length)), (13, .one (.d (.int .i64 ((escB (s.take i)).length : Int)))), (14, .one (.d (.int .i64 (i : Int))))]) (s.length) ⟨0, Nat.zero_le _, rfl, _, _, _, _, rfl, rfl, rfl, rfl, (len_t0 s), rfl, trivial⟩ ?_
   rintro k4 _ ⟨i, f4_0, rfl, t4, bb4, rr4, mm4, rfl, hh4⟩
   refine W.keepR _ _ _ _ _ _ _ hh4 rfl ?_
   iterate 7 first|refine Yp rfl ?_|apply Y1|apply Yn|apply Ys
   refine W.cond rfl (fun c18=>?_) fun c18=>?_
   ·skip
    have hi := s_lt (by assumption)
    have hlt := escTake_lt hi
    rw [esc1_len] at hlt
    iterate 7 first|refine Yp rfl ?_|apply Yb|apply Yk|apply Y1|apply Ys|apply Yn
    refine YP rfl (str_ok hi) rfl ?_
    iterate 6 first|refine Yp rfl ?_|apply Y3
    refine YP rfl (arr_ok _) rfl ?_
    refine S.loadC tOk rfl rfl rfl rfl rfl (bsr_at (s.getD i 0) (off_is (s.getD i 0))) ?_
    refine S.notNilD tOk (!spec (s.getD i 0)) (replD_nil _) rfl rfl rfl ?_
    apply Yn
    refine W.cond rfl (fun c19=>?_) fun c19=>?_
    ·skip
     have hsp : spec (s.getD i 0) = true := nn (by assumption)
     rw [if_pos hsp] at hlt
     refine W.regionS 12 mixed rfl (by kernel_rfl) ?_
     refine AnyZ.eager 0 rfl (by kernel_rfl) (Eag.pure tOk zOk rfl (fun _ _ _ => rfl) rfl rfl) ?_
     refine AnyZ.eager 1 rfl (by kernel_rfl) (Eag.pure tOk zOk rfl (fun _ _ _ => rfl) rfl rfl) ?_
     refine AnyZ.eager 2 rfl (by kernel_rfl) (Eag.pure tOk zOk rfl (fun _ _ _ => rfl) rfl rfl) ?_
     refine AnyZ.eager 4 rfl (by kernel_rfl) (Eag.pure tOk zOk rfl (fun _ _ _ => rfl) rfl rfl) ?_
     refine AnyZ.eager 5 rfl (by kernel_rfl) (Eag.pure tOk zOk rfl (fun _ _ _ => rfl) rfl rfl) ?_
     refine AnyZ.eager 6 rfl (by kernel_rfl) (Eag.pure tOk zOk rfl (fun _ _ _ => rfl) rfl rfl) ?_
     refine AnyZ.eager 7 rfl (by kernel_rfl) (Eag.pure tOk zOk rfl (fun _ _ _ => rfl) rfl rfl) ?_
     refine AnyZ.eager 8 rfl (by kernel_rfl) (Eag.pure tOk zOk rfl (fun _ _ _ => rfl) (arr_ok _) rfl) ?_
     refine AnyZ.two 3 9 (by kernel_rfl) rfl rfl ?_ ?_
     ·skip
      refine OpZ.sliceRow tOk (escB (s.take i)).length rfl rfl rfl rfl rfl rfl rfl (by omega) (Nat.zero_add _) rfl ?_
      refine AnyZ.one 9 (by kernel_rfl) rfl ?_
      refine OpZ.loadC tOk rfl rfl rfl rfl rfl (bsr_sp hsp (off_is (s.getD i 0))) ?_
      refine AnyZ.one 10 (by kernel_rfl) rfl ?_
      refine OpZ.copyRow tOk (news := [.int .u8 ((92 : UInt8).toNat : Int), .int .u8 ((s.getD i 0).toNat : Int)]) rfl rfl rfl rfl rfl rfl rfl rfl (by simp) (show 2 ≤ _ by omega) (fill_s hi hsp) rfl ?_
      refine AnyZ.eager 11 rfl (by kernel_rfl) (Eag.pure tOk zOk rfl (fun _ _ _ => congrArg (fun x => some (_, x)) (esc_add hi hsp hs)) rfl rfl) ?_
      refine AnyZ.nil (by kernel_rfl) ?_
      iterate 6 first|refine Yp rfl ?_|apply Yw|apply Y4
      refine loop_n (s.length - (i + 1)) (by omega) ⟨i + 1, hi, rfl, _, _, _, _, rfl, rfl, rfl, rfl, rfl, inc_i64 (by omega), trivial⟩
     refine OpZ.loadC tOk rfl rfl rfl rfl rfl (bsr_sp hsp (off_is (s.getD i 0))) ?_
     refine AnyZ.one 3 (by kernel_rfl) rfl ?_
     refine OpZ.sliceRow tOk (escB (s.take i)).length rfl rfl rfl rfl rfl rfl rfl (by omega) (Nat.zero_add _) rfl ?_
     refine AnyZ.one 10 (by kernel_rfl) rfl ?_
     refine OpZ.copyRow tOk (news := [.int .u8 ((92 : UInt8).toNat : Int), .int .u8 ((s.getD i 0).toNat : Int)]) rfl rfl rfl rfl rfl rfl rfl rfl (by simp) (show 2 ≤ _ by omega) (fill_s hi hsp) rfl ?_
     refine AnyZ.eager 11 rfl (by kernel_rfl) (Eag.pure tOk zOk rfl (fun _ _ _ => congrArg (fun x => some (_, x)) (esc_add hi hsp hs)) rfl rfl) ?_
     refine AnyZ.nil (by kernel_rfl) ?_
     iterate 6 first|refine Yp rfl ?_|apply Yw|apply Y4
     refine loop_n (s.length - (i + 1)) (by omega) ⟨i + 1, hi, rfl, _, _, _, _, rfl, rfl, rfl, rfl, rfl, inc_i64 (by omega), trivial⟩
    have hsp : spec (s.getD i 0) = false := nf (by assumption)
    rw [if_neg (by rw [hsp]; simp)] at hlt
    apply Y1
    iterate 3 refine Yp rfl ?_
    refine YP rfl (idx_ok (Int.natCast_nonneg _) (by omega)) rfl ?_
    refine S.rstore tOk rfl rfl rfl rfl rfl rfl rfl (fill_set (by simp) hi hsp) rfl ?_
    apply Y4
    refine Yp rfl ?_
    refine YE rfl rfl (esc_inc hi hsp hs) rfl ?_
    iterate 6 first|refine Yp rfl ?_|apply Yw|apply Y4
    refine loop_n (s.length - (i + 1)) (by omega) ⟨i + 1, hi, rfl, _, _, _, _, rfl, rfl, rfl, rfl, rfl, inc_i64 (by omega), trivial⟩
   have hi := s_ge (by assumption)
   obtain rfl : i = s.length := by omega
   iterate 6 first|apply Ye|refine Yp rfl ?_|apply Yx|apply Yq|apply Y3
   refine S.convRow (sz := 1) tOk (escB s) rfl rfl rfl rfl rfl rfl rfl (congrArg (fun z => some (some (RowO.mk true 0 1 5 z))) (fill_end s)) rfl ?_
   refine Yp rfl ?_
   apply Yn
   apply Yt
   exact ⟨_, rfl, rfl, LeG.of_force rfl (by first | rfl | exact absurd (show (!true) = true by assumption) (by decide) | (rw [cnt_same (by omega) (by omega)]) | (rw [esc_same (an (by assumption))])), rfl, rfl, rfl⟩
  have hz := cz (by assumption)
  iterate 6 first|refine Yp rfl ?_|apply Yw|apply Yk|apply Y4|apply Yn
  refine WR.succ ?_
  apply Y1
  refine Yp rfl ?_
  apply Yn
  apply Ys
  refine W.condF rfl rfl ?_
  iterate 10 first|refine Yp rfl ?_|apply Ye|apply Yx|apply Yq|apply Y1|apply Yn|apply Ys
  refine W.cond rfl (fun c21=>?_) fun c21=>?_
  ·skip
   iterate 6 first|refine Yp rfl ?_|apply Yu|apply Yt|apply Y1|apply Yn
   exact ⟨_, rfl, rfl, LeG.of_force rfl (by first | rfl | exact absurd (show (!true) = true by assumption) (by decide) | (rw [cnt_same (by omega) (by omega)]) | (rw [esc_same (an (by assumption))])), rfl, rfl, rfl⟩
  apply Yk
  apply Y3
  refine YE rfl rfl (len_is (k := (escB s).length) (by first | omega | (rw [lenTo_end]))) rfl ?_
  refine S.makeSlice tOk (zd := [.int .u8 0]) (r' := [some ⟨true, 2, 1, 9, [[.str [34]], [.str [92]]]⟩, some ⟨true, 0, 1, 5, fillTo s 0⟩]) (escB s).length rfl rfl rfl rfl rfl rfl rfl (by omega) rfl (congrArg (fun z => [some (RowO.mk true 2 1 9 [[D.str [34]], [D.str [92]]]), some (RowO.mk true 0 1 5 z)]) (fill_0 s)) ?_
  iterate 9 first|refine Yp rfl ?_|apply Yb|apply Y1|apply Y3|apply Yn|apply Ys
  refine W.loop (fun k st => ∃ i : Nat, i ≤ s.length ∧ k = s.length - i ∧ ∃ t b2 r2 m2, st = ⟨t, [bsr] ++ b2, [some ⟨true, 2, 1, 9, [[.str [34]], [.str [92]]]⟩, some ⟨true, 0, 1, 5, fillTo s i⟩] ++ r2, [] ++ m2⟩ ∧ holdsL t [(0, .one (.ptr 0 0)), (1, .one (.d (.str s))), (12, .one (.row 1 0 0 (escB s).length)), (13, .one (.d (.int .i64 ((escB (s.take i)).length : Int)))), (14, .one (.d (.int .i64 (i : Int))))]) (s.length) ⟨0, Nat.zero_le _, rfl, _, _, _, _, rfl, rfl, rfl, rfl, (len_t0 s), rfl, trivial⟩ ?_
  rintro k4 _ ⟨i, f4_0, rfl, t4, bb4, rr4, mm4, rfl, hh4⟩
  refine W.keepR _ _ _ _ _ _ _ hh4 rfl ?_
  apply Ys
  apply Y1
  iterate 4 refine Yp rfl ?_
  apply Yn
  refine W.cond rfl (fun c22=>?_) fun c22=>?_
  ·skip
   have hi := s_lt (by assumption)
   have hlt := escTake_lt hi
   rw [esc1_len] at hlt
   iterate 7 first|refine Yp rfl ?_|apply Yb|apply Yk|apply Y1|apply Ys|apply Yn
   refine YP rfl (str_ok hi) rfl ?_
   iterate 6 first|refine Yp rfl ?_|apply Y3
   refine YP rfl (arr_ok _) rfl ?_
   refine S.loadC tOk rfl rfl rfl rfl rfl (bsr_at (s.getD i 0) (off_is (s.getD i 0))) ?_
   refine S.notNilD tOk (!spec (s.getD i 0)) (replD_nil _) rfl rfl rfl ?_
   apply Yn
   refine W.cond rfl (fun c23=>?_) fun c23=>?_
   ·skip
    have hsp : spec (s.getD i 0) = true := nn (by assumption)
    rw [if_pos hsp] at hlt
    refine W.regionS 12 mixed rfl (by kernel_rfl) ?_
    refine AnyZ.eager 0 rfl (by kernel_rfl) (Eag.pure tOk zOk rfl (fun _ _ _ => rfl) rfl rfl) ?_
    refine AnyZ.eager 1 rfl (by kernel_rfl) (Eag.pure tOk zOk rfl (fun _ _ _ => rfl) rfl rfl) ?_
    refine AnyZ.eager 2 rfl (by kernel_rfl) (Eag.pure tOk zOk rfl (fun _ _ _ => rfl) rfl rfl) ?_
    refine AnyZ.eager 4 rfl (by kernel_rfl) (Eag.pure tOk zOk rfl (fun _ _ _ => rfl) rfl rfl) ?_
    refine AnyZ.eager 5 rfl (by kernel_rfl) (Eag.pure tOk zOk rfl (fun _ _ _ => rfl) rfl rfl) ?_
    refine AnyZ.eager 6 rfl (by kernel_rfl) (Eag.pure tOk zOk rfl (fun _ _ _ => rfl) rfl rfl) ?_
    refine AnyZ.eager 7 rfl (by kernel_rfl) (Eag.pure tOk zOk rfl (fun _ _ _ => rfl) rfl rfl) ?_
    refine AnyZ.eager 8 rfl (by kernel_rfl) (Eag.pure tOk zOk rfl (fun _ _ _ => rfl) (arr_ok _) rfl) ?_
    refine AnyZ.two 3 9 (by kernel_rfl) rfl rfl ?_ ?_
    ·skip
     refine OpZ.sliceRow tOk (escB (s.take i)).length rfl rfl rfl rfl rfl rfl rfl (by omega) (Nat.zero_add _) rfl ?_
     refine AnyZ.one 9 (by kernel_rfl) rfl ?_
     refine OpZ.loadC tOk rfl rfl rfl rfl rfl (bsr_sp hsp (off_is (s.getD i 0))) ?_
     refine AnyZ.one 10 (by kernel_rfl) rfl ?_
     refine OpZ.copyRow tOk (news := [.int .u8 ((92 : UInt8).toNat : Int), .int .u8 ((s.getD i 0).toNat : Int)]) rfl rfl rfl rfl rfl rfl rfl rfl (by simp) (show 2 ≤ _ by omega) (fill_s hi hsp) rfl ?_
     refine AnyZ.eager 11 rfl (by kernel_rfl) (Eag.pure tOk zOk rfl (fun _ _ _ => congrArg (fun x => some (_, x)) (esc_add hi hsp hs)) rfl rfl) ?_
     refine AnyZ.nil (by kernel_rfl) ?_
     iterate 6 first|refine Yp rfl ?_|apply Yw|apply Y4
     refine loop_n (s.length - (i + 1)) (by omega) ⟨i + 1, hi, rfl, _, _, _, _, rfl, rfl, rfl, rfl, rfl, inc_i64 (by omega), trivial⟩
    refine OpZ.loadC tOk rfl rfl rfl rfl rfl (bsr_sp hsp (off_is (s.getD i 0))) ?_
    refine AnyZ.one 3 (by kernel_rfl) rfl ?_
    refine OpZ.sliceRow tOk (escB (s.take i)).length rfl rfl rfl rfl rfl rfl rfl (by omega) (Nat.zero_add _) rfl ?_
    refine AnyZ.one 10 (by kernel_rfl) rfl ?_
    refine OpZ.copyRow tOk (news := [.int .u8 ((92 : UInt8).toNat : Int), .int .u8 ((s.getD i 0).toNat : Int)]) rfl rfl rfl rfl rfl rfl rfl rfl (by simp) (show 2 ≤ _ by omega) (fill_s hi hsp) rfl ?_
    refine AnyZ.eager 11 rfl (by kernel_rfl) (Eag.pure tOk zOk rfl (fun _ _ _ => congrArg (fun x => some (_, x)) (esc_add hi hsp hs)) rfl rfl) ?_
    refine AnyZ.nil (by kernel_rfl) ?_
    iterate 6 first|refine Yp rfl ?_|apply Yw|apply Y4
    refine loop_n (s.length - (i + 1)) (by omega) ⟨i + 1, hi, rfl, _, _, _, _, rfl, rfl, rfl, rfl, rfl, inc_i64 (by omega), trivial⟩
   have hsp : spec (s.getD i 0) = false := nf (by assumption)
   rw [if_neg (by rw [hsp]; simp)] at hlt
   apply Y1
   iterate 3 refine Yp rfl ?_
   refine YP rfl (idx_ok (Int.natCast_nonneg _) (by omega)) rfl ?_
   refine S.rstore tOk rfl rfl rfl rfl rfl rfl rfl (fill_set (by simp) hi hsp) rfl ?_
   apply Y4
   refine Yp rfl ?_
   refine YE rfl rfl (esc_inc hi hsp hs) rfl ?_
   iterate 6 first|refine Yp rfl ?_|apply Yw|apply Y4
   refine loop_n (s.length - (i + 1)) (by omega) ⟨i + 1, hi, rfl, _, _, _, _, rfl, rfl, rfl, rfl, rfl, inc_i64 (by omega), trivial⟩
  have hi := s_ge (by assumption)
  obtain rfl : i = s.length := by omega
  iterate 6 first|apply Ye|refine Yp rfl ?_|apply Yx|apply Yq|apply Y3
  refine S.convRow (sz := 1) tOk (escB s) rfl rfl rfl rfl rfl rfl rfl (congrArg (fun z => some (some (RowO.mk true 0 1 5 z))) (fill_end s)) rfl ?_
  refine Yp rfl ?_
  apply Yn
  apply Yt
  exact ⟨_, rfl, rfl, LeG.of_force rfl (by first | rfl | exact absurd (show (!true) = true by assumption) (by decide) | (rw [cnt_same (by omega) (by omega)]) | (rw [esc_same (an (by assumption))])), rfl, rfl, rfl⟩
 apply Y1
 refine Yp rfl ?_
 apply Yn
 apply Yb
 refine W.loop (fun k st => ∃ i : Nat, i ≤ s.length ∧ k = s.length - i ∧ ∃ t b2 r2 m2, st = ⟨t, [bsr] ++ b2, [some ⟨true, 2, 1, 9, [[.str [34]], [.str [92]]]⟩] ++ r2, [] ++ m2⟩ ∧ holdsL t [(0, .one (.ptr 0 0)), (1, .one (.d (.str s))), (5, .one (.d (.int .i64 (lenTo s i : Int)))), (6, .one (.d (.bool ((s.take i).any spec)))), (10, .one (.d (.int .i64 (i : Int))))]) (s.length) ⟨0, Nat.zero_le _, rfl, _, _, _, _, rfl, rfl, rfl, (len_eq (lenTo_0 s).symm), rfl, rfl, trivial⟩ ?_
 rintro k2 _ ⟨i, f2_0, rfl, t2, bb2, rr2, mm2, rfl, hh2⟩
 refine W.keepR _ _ _ _ _ _ _ hh2 rfl ?_
 apply Ys
 apply Y1
 iterate 4 refine Yp rfl ?_
 apply Yn
 refine W.cond rfl (fun c24=>?_) fun c24=>?_
 ·skip
  have hi := s_lt (by assumption)
  have hlt := lenTo_le s (show i ≤ s.length by omega)
  iterate 7 first|refine Yp rfl ?_|apply Yb|apply Yk|apply Y1|apply Ys|apply Yn
  refine YP rfl (str_ok hi) rfl ?_
  iterate 6 first|refine Yp rfl ?_|apply Y3
  refine YP rfl (arr_ok _) rfl ?_
  refine S.loadC tOk rfl rfl rfl rfl rfl (bsr_at (s.getD i 0) (off_is (s.getD i 0))) ?_
  refine S.notNilD tOk (!spec (s.getD i 0)) (replD_nil _) rfl rfl rfl ?_
  apply Yn
  refine W.cond rfl (fun c25=>?_) fun c25=>?_
  ·skip
   have hsp : spec (s.getD i 0) = true := nn (by assumption)
   apply Y1
   iterate 5 refine Yp rfl ?_
   refine YP rfl (arr_ok _) rfl ?_
   refine S.loadC tOk rfl rfl rfl rfl rfl (bsr_sp hsp (off_is (s.getD i 0))) ?_
   refine Yp rfl ?_
   refine YE rfl rfl (len_m1 _) rfl ?_
   refine YE rfl rfl (inc_i64 (by omega)) rfl ?_
   iterate 8 first|refine Yp rfl ?_|apply Yw|apply Y4
   refine loop_n (s.length - (i + 1)) (by omega) ⟨i + 1, hi, rfl, _, _, _, _, rfl, rfl, rfl, (len_eq (lenTo_s hi hsp).symm), (bool_eq (by rw [any_takeS hi, hsp, Bool.or_true])), inc_i64 (by omega), trivial⟩
  have hsp : spec (s.getD i 0) = false := nf (by assumption)
  apply Yk
  apply Yw
  apply Y4
  iterate 3 refine Yp rfl ?_
  refine loop_n (s.length - (i + 1)) (by omega) ⟨i + 1, hi, rfl, _, _, _, _, rfl, rfl, rfl, (len_eq (lenTo_n hi hsp).symm), (bool_eq (by rw [any_takeS hi, hsp, Bool.or_false])), inc_i64 (by omega), trivial⟩
 have hi := s_ge (by assumption)
 obtain rfl : i = s.length := by omega
 apply Yq
 iterate 9 first|refine Yp rfl ?_|apply Ye|apply Yx|apply Y1|apply Yn|apply Ys
 refine W.cond rfl (fun c26=>?_) fun c26=>?_
 ·skip
  iterate 6 first|refine Yp rfl ?_|apply Yu|apply Yt|apply Y1|apply Yn
  exact ⟨_, rfl, rfl, LeG.of_force rfl (by first | rfl | exact absurd (show (!true) = true by assumption) (by decide) | (rw [cnt_same (by omega) (by omega)]) | (rw [esc_same (an (by assumption))])), rfl, rfl, rfl⟩
 apply Yk
 apply Y3
 refine YE rfl rfl (len_is (k := (escB s).length) (by first | omega | (rw [lenTo_end]))) rfl ?_
 refine S.makeSlice tOk (zd := [.int .u8 0]) (r' := [some ⟨true, 2, 1, 9, [[.str [34]], [.str [92]]]⟩, some ⟨true, 0, 1, 5, fillTo s 0⟩]) (escB s).length rfl rfl rfl rfl rfl rfl rfl (by omega) rfl (congrArg (fun z => [some (RowO.mk true 2 1 9 [[D.str [34]], [D.str [92]]]), some (RowO.mk true 0 1 5 z)]) (fill_0 s)) ?_
 iterate 9 first|refine Yp rfl ?_|apply Yb|apply Y1|apply Y3|apply Yn|apply Ys
 refine W.loop (fun k st => ∃ i : Nat, i ≤ s.length ∧ k = s.length - i ∧ ∃ t b2 r2 m2, st = ⟨t, [bsr] ++ b2, [some ⟨true, 2, 1, 9, [[.str [34]], [.str [92]]]⟩, some ⟨true, 0, 1, 5, fillTo s i⟩] ++ r2, [] ++ m2⟩ ∧ holdsL t [(0, .one (.ptr 0 0)), (1, .one (.d (.str s))), (12, .one (.row 1 0 0 (escB s).length)), (13, .one (.d (.int .i64 ((escB (s.take i)).length : Int)))), (14, .one (.d (.int .i64 (i : Int))))]) (s.length) ⟨0, Nat.zero_le _, rfl, _, _, _, _, rfl, rfl, rfl, rfl, (len_t0 s), rfl, trivial⟩ ?_
 rintro k4 _ ⟨i, f4_0, rfl, t4, bb4, rr4, mm4, rfl, hh4⟩
 refine W.keepR _ _ _ _ _ _ _ hh4 rfl ?_
 apply Ys
 apply Y1
 iterate 4 refine Yp rfl ?_
 apply Yn
 refine W.cond rfl (fun c27=>?_) fun c27=>?_
 ·skip
  have hi := s_lt (by assumption)
  have hlt := escTake_lt hi
  rw [esc1_len] at hlt
  iterate 7 first|refine Yp rfl ?_|apply Yb|apply Yk|apply Y1|apply Ys|apply Yn
  refine YP rfl (str_ok hi) rfl ?_
  iterate 6 first|refine Yp rfl ?_|apply Y3
  refine YP rfl (arr_ok _) rfl ?_
  refine S.loadC tOk rfl rfl rfl rfl rfl (bsr_at (s.getD i 0) (off_is (s.getD i 0))) ?_
  refine S.notNilD tOk (!spec (s.getD i 0)) (replD_nil _) rfl rfl rfl ?_
  apply Yn
  refine W.cond rfl (fun c28=>?_) fun c28=>?_
  ·skip
   have hsp : spec (s.getD i 0) = true := nn (by assumption)
   rw [if_pos hsp] at hlt
   refine W.regionS 12 mixed rfl (by kernel_rfl) ?_
   refine AnyZ.eager 0 rfl (by kernel_rfl) (Eag.pure tOk zOk rfl (fun _ _ _ => rfl) rfl rfl) ?_
   refine AnyZ.eager 1 rfl (by kernel_rfl) (Eag.pure tOk zOk rfl (fun _ _ _ => rfl) rfl rfl) ?_
   refine AnyZ.eager 2 rfl (by kernel_rfl) (Eag.pure tOk zOk rfl (fun _ _ _ => rfl) rfl rfl) ?_
   refine AnyZ.eager 4 rfl (by kernel_rfl) (Eag.pure tOk zOk rfl (fun _ _ _ => rfl) rfl rfl) ?_
   refine AnyZ.eager 5 rfl (by kernel_rfl) (Eag.pure tOk zOk rfl (fun _ _ _ => rfl) rfl rfl) ?_
   refine AnyZ.eager 6 rfl (by kernel_rfl) (Eag.pure tOk zOk rfl (fun _ _ _ => rfl) rfl rfl) ?_
   refine AnyZ.eager 7 rfl (by kernel_rfl) (Eag.pure tOk zOk rfl (fun _ _ _ => rfl) rfl rfl) ?_
   refine AnyZ.eager 8 rfl (by kernel_rfl) (Eag.pure tOk zOk rfl (fun _ _ _ => rfl) (arr_ok _) rfl) ?_
   refine AnyZ.two 3 9 (by kernel_rfl) rfl rfl ?_ ?_
   ·skip
    refine OpZ.sliceRow tOk (escB (s.take i)).length rfl rfl rfl rfl rfl rfl rfl (by omega) (Nat.zero_add _) rfl ?_
    refine AnyZ.one 9 (by kernel_rfl) rfl ?_
    refine OpZ.loadC tOk rfl rfl rfl rfl rfl (bsr_sp hsp (off_is (s.getD i 0))) ?_
    refine AnyZ.one 10 (by kernel_rfl) rfl ?_
    refine OpZ.copyRow tOk (news := [.int .u8 ((92 : UInt8).toNat : Int), .int .u8 ((s.getD i 0).toNat : Int)]) rfl rfl rfl rfl rfl rfl rfl rfl (by simp) (show 2 ≤ _ by omega) (fill_s hi hsp) rfl ?_
    refine AnyZ.eager 11 rfl (by kernel_rfl) (Eag.pure tOk zOk rfl (fun _ _ _ => congrArg (fun x => some (_, x)) (esc_add hi hsp hs)) rfl rfl) ?_
    refine AnyZ.nil (by kernel_rfl) ?_
    iterate 6 first|refine Yp rfl ?_|apply Yw|apply Y4
    refine loop_n (s.length - (i + 1)) (by omega) ⟨i + 1, hi, rfl, _, _, _, _, rfl, rfl, rfl, rfl, rfl, inc_i64 (by omega), trivial⟩
   refine OpZ.loadC tOk rfl rfl rfl rfl rfl (bsr_sp hsp (off_is (s.getD i 0))) ?_
   refine AnyZ.one 3 (by kernel_rfl) rfl ?_
   refine OpZ.sliceRow tOk (escB (s.take i)).length rfl rfl rfl rfl rfl rfl rfl (by omega) (Nat.zero_add _) rfl ?_
   refine AnyZ.one 10 (by kernel_rfl) rfl ?_
   refine OpZ.copyRow tOk (news := [.int .u8 ((92 : UInt8).toNat : Int), .int .u8 ((s.getD i 0).toNat : Int)]) rfl rfl rfl rfl rfl rfl rfl rfl (by simp) (show 2 ≤ _ by omega) (fill_s hi hsp) rfl ?_
   refine AnyZ.eager 11 rfl (by kernel_rfl) (Eag.pure tOk zOk rfl (fun _ _ _ => congrArg (fun x => some (_, x)) (esc_add hi hsp hs)) rfl rfl) ?_
   refine AnyZ.nil (by kernel_rfl) ?_
   iterate 6 first|refine Yp rfl ?_|apply Yw|apply Y4
   refine loop_n (s.length - (i + 1)) (by omega) ⟨i + 1, hi, rfl, _, _, _, _, rfl, rfl, rfl, rfl, rfl, inc_i64 (by omega), trivial⟩
  have hsp : spec (s.getD i 0) = false := nf (by assumption)
  rw [if_neg (by rw [hsp]; simp)] at hlt
  apply Y1
  iterate 3 refine Yp rfl ?_
  refine YP rfl (idx_ok (Int.natCast_nonneg _) (by omega)) rfl ?_
  refine S.rstore tOk rfl rfl rfl rfl rfl rfl rfl (fill_set (by simp) hi hsp) rfl ?_
  apply Y4
  refine Yp rfl ?_
  refine YE rfl rfl (esc_inc hi hsp hs) rfl ?_
  iterate 6 first|refine Yp rfl ?_|apply Yw|apply Y4
  refine loop_n (s.length - (i + 1)) (by omega) ⟨i + 1, hi, rfl, _, _, _, _, rfl, rfl, rfl, rfl, rfl, inc_i64 (by omega), trivial⟩
 have hi := s_ge (by assumption)
 obtain rfl : i = s.length := by omega
 apply Yq
 apply Ye
 apply Ye
 apply Yx
 apply Y3
 refine Yp rfl ?_
 refine S.convRow (sz := 1) tOk (escB s) rfl rfl rfl rfl rfl rfl rfl (congrArg (fun z => some (some (RowO.mk true 0 1 5 z))) (fill_end s)) rfl ?_
 refine Yp rfl ?_
 apply Yn
 apply Yt
 exact ⟨_, rfl, rfl, LeG.of_force rfl (by first | rfl | exact absurd (show (!true) = true by assumption) (by decide) | (rw [cnt_same (by omega) (by omega)]) | (rw [esc_same (an (by assumption))])), rfl, rfl, rfl⟩
theorem pc_RReplace (s : List UInt8) (hs : s.length ≤ 4000000) :
  HCall Tryz.prog J 132 ([.one (.ptr 0 0), .one (.d (.str s))]) ([[.d (.int .u32 0), .d (.int .i32 0), .d (.int .u32 0), .d (.err true), .d (.vec 1 [[.str [92]], [.str [92, 92]], [.str [34]], [.str [92, 34]]])]]) ([]) ([]) (isH (.one (.d (.str (escB s)))) ([[.d (.int .u32 1), .d (.int .i32 0), .d (.int .u32 0), .wr (.ifc 265) 1 0, .d .nilsl], bsr]) ([some ⟨true, 2, 1, 9, [[.str [34]], [.str [92]]]⟩]) ([])) := by
 refine HCall.ofD tOk ⟨2, 1, 0⟩ (fn := Tryz.f132) Tryz.func132 (by kernel_rfl) rfl (Nat.le_of_ble_eq_true rfl) (fun E => ?_)
 iterate 7 first|refine Yp rfl ?_|apply Y3|apply Y1
 refine S.makeBnd rfl ?_
 refine S.hcallD rfl rfl rfl rfl (pc_Do) ?_
 apply Y3
 iterate 5 refine Yp rfl ?_
 refine S.invoke rfl rfl rfl (fun a w => rfl) ((pc_BSReplace s hs).fd [1] [0] [] rfl) ?_
 refine Yp rfl ?_
 apply Yn
 apply Yt
 exact ⟨_, rfl, rfl, LeG.refl _, rfl, rfl, rfl⟩
theorem pc_ver_Quoted (s : List UInt8) (hs : s.length ≤ 4000000) :
  PureCall Tryz.prog J 82 [.one (.d (.str s))] (.one (.d (.str (quoB s)))) := by
 have hle := esc_le s
 refine PureCall.of_body tOk (fn := Tryz.f82) Tryz.func82 (by kernel_rfl) rfl (Nat.le_of_ble_eq_true rfl) (fun E => ?_)
 apply Y1
 refine Yp rfl ?_
 apply Y3
 refine S.slice tOk rfl rfl ?_
 refine S.hcallD rfl rfl rfl rfl (pc_NewReplacer) ?_
 refine Yp rfl ?_
 refine S.hcallD rfl rfl rfl rfl (pc_RReplace s hs) ?_
 refine YP rfl (cat_ok (by simp [-List.getD_eq_getElem?_getD]; omega)) rfl ?_
 refine YP rfl (cat_ok (by simp [-List.getD_eq_getElem?_getD]; omega)) rfl ?_
 refine Yp rfl ?_
 apply Yn
 apply Yt
 exact ⟨_, rfl, rfl, LeV.refl _⟩
end
section
open Go
def Good (s : List UInt8) : List Tok → Prop
 | [] => False
 | [x] => (nextT s x.e = x ∧ x.e ≤ s.length) ∧ (x.k == 0 || x.k == 4) = true
 | x :: y :: l => (nextT s x.e = y ∧ x.e ≤ s.length) ∧ (x.k == 0 || x.k == 4) = false ∧ Good s (y :: l)
theorem good_hd {s : List UInt8} : ∀ {T : List Tok}, Good s T → nextT s (hd T).e = hd (adv T) ∧ (hd T).e ≤ s.length
 | [], h => h.elim
 | [x], h => h.1
 | x :: y :: l, h => h.1
theorem good_adv {s : List UInt8} : ∀ {T : List Tok}, Good s T → Good s (adv T)
 | [], h => h
 | [x], h => h
 | x :: y :: l, h => h.2.2
theorem good_last {s : List UInt8} {x : Tok} (h : Good s [x]) (hk : (x.k == 1) = true ∨ (x.k == 2) = true ∨ (x.k == 3) = true) : False := by
 have h2 := h.2
 rcases hk with hk | hk | hk <;> simp at hk <;> rw [hk] at h2 <;> simp at h2
inductive Rch : List Tok → List Tok → Prop where
 | refl (T : List Tok) : Rch T T
 | step {T T' : List Tok} : Rch (adv T) T' → Rch T T'
theorem Rch.trans {A B C : List Tok} (h : Rch A B) (h2 : Rch B C) : Rch A C := by
 induction h with
 | refl => exact h2
 | step h ih => exact .step (ih h2)
theorem adv_len (T : List Tok) : (adv T).length ≤ T.length := by
 match T with
 | [] => exact Nat.le_refl _
 | [x] => exact Nat.le_refl _
 | x :: y :: l => simp [adv]
theorem Rch.len {A B : List Tok} (h : Rch A B) : B.length ≤ A.length := by
 induction h with
 | refl => exact Nat.le_refl _
 | step h ih => exact Nat.le_trans ih (adv_len _)
theorem Rch.good {s : List UInt8} {A B : List Tok} (h : Rch A B) (g : Good s A) : Good s B := by
 induction h with
 | refl => exact g
 | step h ih => exact ih (good_adv g)
def Gd (s : List UInt8) (T : List Tok) : Prop := Good s T ∧ T.length ≤ 5000
theorem Gd.go {s : List UInt8} {A B : List Tok} (g : Gd s A) (h : Rch A B) : Gd s B := ⟨h.good g.1, Nat.le_trans h.len g.2⟩
theorem rch_adv (q : PS) : Rch q.T (advS q).T := .step (.refl _)
theorem take_0 {k : Int} {x : List UInt8} {q : PS} (h : decide (q.w ≥ 0) = true) : takeT k x q = ([], q) := if_pos h
theorem take_1 {k : Int} {x : List UInt8} {q : PS} (h : decide (q.w ≥ 0) = false) (h2 : ((hd q.T).k != k || (!(x == []) && !((hd q.T).t == x))) = true) : takeT k x q = ([], ⟨q.T, (hd q.T).a⟩) := by
 unfold takeT; rw [if_neg (by rw [h]; simp), if_pos h2]
theorem take_2 {k : Int} {x : List UInt8} {q : PS} (h : decide (q.w ≥ 0) = false) (h2 : ((hd q.T).k != k || (!(x == []) && !((hd q.T).t == x))) = false) : takeT k x q = ((hd q.T).t, advS q) := by
 unfold takeT; rw [if_neg (by rw [h]; simp), if_neg (by rw [h2]; simp)]
theorem fail_1 {a : Int} {q : PS} (h : decide (q.w < 0) = true) : failT a q = ⟨q.T, a⟩ := if_pos h
theorem fail_0 {a : Int} {q : PS} (h : decide (q.w < 0) = false) : failT a q = q := if_neg (by rw [h]; simp)
theorem fact_set {x : List UInt8} (h : (x == wFact) = true) : (x == wSetting) = false := by
 have : x = wFact := by simpa using h
 subst this; rfl
theorem rch_take (k : Int) (x : List UInt8) (q : PS) : Rch q.T (takeT k x q).2.T := by
 unfold takeT
 split
 ·skip
  exact .refl _
 ·skip
  split
  ·skip
   exact .refl _
  ·skip
   exact rch_adv q
theorem rch_fail (a : Int) (q : PS) : Rch q.T (failT a q).T := by
 unfold failT; split <;> exact .refl _
theorem rch_sign (q : PS) : Rch q.T (signT q).T := by
 unfold signT; split
 ·skip
  exact rch_fail _ _
 ·skip
  exact .refl _
section
variable {f : PS → CT × PS} (hf : ∀ q, Rch q.T (f q).2.T)
include hf
theorem rch_short (k : Int) (q : PS) : Rch q.T (shortG f k q).2.T := by
 unfold shortG; split
 ·skip
  exact (hf q).trans (rch_take _ _ _)
 ·skip
  exact rch_take _ _ _
theorem rch_more (x : List UInt8) : ∀ (n : Nat) (l : List CT) (q : PS), Rch q.T (moreG f x n l q).2.T
  | 0, l, q => .refl _
  | n + 1, l, q => by
    unfold moreG; split
    · exact (rch_adv q).trans ((hf _).trans (rch_more x n _ _))
    · exact .refl _
theorem rch_long (q : PS) : Rch q.T (longG f q).2.T := by
 unfold longG
 exact (hf q).trans ((rch_sign _).trans ((rch_more hf _ _ _ _).trans (rch_take _ _ _)))
theorem rch_list (b : Bool) (q : PS) : Rch q.T (listG b f q).2.T := by
 unfold listG
 split
 ·skip
  exact rch_fail _ _
 ·skip
  split
  ·skip
   exact (rch_take _ _ _).trans ((rch_adv _).trans (rch_short hf _ _))
  ·skip
   split
   ·skip
    exact (rch_take _ _ _).trans ((rch_adv _).trans (rch_short hf _ _))
   ·skip
    exact (rch_take _ _ _).trans (rch_long hf _)
omit hf in
theorem rch_fact (k : Int) (q : PS) : Rch q.T (factG k q).2.T := (rch_take _ _ _).trans ((rch_take _ _ _).trans (rch_take _ _ _))
omit hf in
theorem rch_version (q : PS) : Rch q.T (versionG q).2.T := (rch_take _ _ _).trans ((rch_take _ _ _).trans (rch_take _ _ _))
theorem rch_cond (b : Bool) (q : PS) : Rch q.T (condG b f q).2.T := by
 unfold condG
 have h := rch_take 1 [] q
 split
 ·skip
  exact rch_list hf b q
 ·skip
  dsimp only
  split
  ·skip
   exact h
  ·skip
   split
   ·skip
    exact h.trans (rch_fact _ _)
   ·skip
    split
    ·skip
     exact h.trans (rch_take _ _ _)
    ·skip
     split
     ·skip
      exact h.trans (rch_version _)
     ·skip
      split
      ·skip
       split
       ·skip
        exact h.trans (rch_fail _ _)
       ·skip
        exact h.trans (hf _)
      ·skip
       exact h.trans (rch_fail _ _)
end
theorem rch_condT : ∀ (n : Nat) (q : PS), Rch q.T (condT n q).2.T
 | 0, q => rch_cond (f := fun q => (CT.z, q)) (fun q => .refl _) true q
 | n + 1, q => rch_cond (rch_condT n) false q
section
variable {b : Bool} {f : PS → CT × PS} {q : PS}
theorem cg_list (h : isT 3 [40] q = true) : condG b f q = listG b f q := if_pos h
variable (h : isT 3 [40] q = false)
include h
theorem cg_always (h1 : ((takeT 1 [] q).1 == wAlways) = true) : condG b f q = (.mk 1 [] [] [], (takeT 1 [] q).2) := by
 unfold condG; rw [if_neg (by rw [h]; simp)]; exact if_pos h1
variable (h1 : ((takeT 1 [] q).1 == wAlways) = false)
include h1
theorem cg_fact (h2 : ((takeT 1 [] q).1 == wFact) = true) (h3 : ((takeT 1 [] q).1 == wSetting) = false) : condG b f q = factG 2 (takeT 1 [] q).2 := by
 unfold condG; rw [if_neg (by rw [h]; simp)]; dsimp only; rw [if_neg (by rw [h1]; simp), if_pos (by rw [h2]; rfl), if_neg (by rw [h3]; simp)]
theorem cg_setting (h3 : ((takeT 1 [] q).1 == wSetting) = true) : condG b f q = factG 3 (takeT 1 [] q).2 := by
 unfold condG; rw [if_neg (by rw [h]; simp)]; dsimp only; rw [if_neg (by rw [h1]; simp), if_pos (by rw [h3]; simp), if_pos h3]
variable (h2 : ((takeT 1 [] q).1 == wFact) = false) (h3 : ((takeT 1 [] q).1 == wSetting) = false)
include h2 h3
theorem cg_has (h4 : ((takeT 1 [] q).1 == wHas) = true) : condG b f q = (.mk 4 (takeT 1 [] (takeT 1 [] q).2).1 [] [], (takeT 1 [] (takeT 1 [] q).2).2) := by
 unfold condG; rw [if_neg (by rw [h]; simp)]; dsimp only; rw [if_neg (by rw [h1]; simp), if_neg (by rw [h2, h3]; simp), if_pos h4]
variable (h4 : ((takeT 1 [] q).1 == wHas) = false)
include h4
theorem cg_version (h5 : ((takeT 1 [] q).1 == wVersion) = true) : condG b f q = versionG (takeT 1 [] q).2 := by
 unfold condG; rw [if_neg (by rw [h]; simp)]; dsimp only; rw [if_neg (by rw [h1]; simp), if_neg (by rw [h2, h3]; simp), if_neg (by rw [h4]; simp), if_pos h5]
variable (h5 : ((takeT 1 [] q).1 == wVersion) = false)
include h5
theorem cg_not0 (h6 : ((takeT 1 [] q).1 == wNot) = true) (hb : b = true) : condG b f q = (CT.z, failT (hd q.T).a (takeT 1 [] q).2) := by
 unfold condG; rw [if_neg (by rw [h]; simp)]; dsimp only; rw [if_neg (by rw [h1]; simp), if_neg (by rw [h2, h3]; simp), if_neg (by rw [h4]; simp), if_neg (by rw [h5]; simp), if_pos h6, if_pos hb]
theorem cg_not (h6 : ((takeT 1 [] q).1 == wNot) = true) (hb : b = false) : condG b f q = (.mk 6 [] [] [(f (takeT 1 [] q).2).1], (f (takeT 1 [] q).2).2) := by
 unfold condG; rw [if_neg (by rw [h]; simp)]; dsimp only; rw [if_neg (by rw [h1]; simp), if_neg (by rw [h2, h3]; simp), if_neg (by rw [h4]; simp), if_neg (by rw [h5]; simp), if_pos h6, if_neg (by rw [hb]; simp)]
theorem cg_else (h6 : ((takeT 1 [] q).1 == wNot) = false) : condG b f q = (CT.z, failT (hd q.T).a (takeT 1 [] q).2) := by
 unfold condG; rw [if_neg (by rw [h]; simp)]; dsimp only; rw [if_neg (by rw [h1]; simp), if_neg (by rw [h2, h3]; simp), if_neg (by rw [h4]; simp), if_neg (by rw [h5]; simp), if_neg (by rw [h6]; simp)]
end
section
variable {f : PS → CT × PS} {q : PS}
theorem lg_last : listG true f q = (CT.z, failT (hd q.T).a q) := rfl
theorem lg_and (h : (!(isT 1 wAnd (takeT 3 [40] q).2)) = false) : listG false f q = shortG f 7 (advS (takeT 3 [40] q).2) := by
 unfold listG; rw [if_neg (by simp), if_pos (by simpa using h)]
theorem lg_or (h : (!(isT 1 wAnd (takeT 3 [40] q).2)) = true) (h2 : (!(isT 1 wOr (takeT 3 [40] q).2)) = false) : listG false f q = shortG f 8 (advS (takeT 3 [40] q).2) := by
 unfold listG; rw [if_neg (by simp), if_neg (by simpa using h), if_pos (by simpa using h2)]
theorem lg_long (h : (!(isT 1 wAnd (takeT 3 [40] q).2)) = true) (h2 : (!(isT 1 wOr (takeT 3 [40] q).2)) = true) : listG false f q = longG f (takeT 3 [40] q).2 := by
 unfold listG; rw [if_neg (by simp), if_neg (by simpa using h), if_neg (by simpa using h2)]
theorem sh_1 {k : Int} (h : (!(isT 3 [41] q)) = true) : shortG f k q = (.mk k [] [] [(f q).1], (takeT 3 [41] (f q).2).2) := if_pos h
theorem sh_0 {k : Int} (h : (!(isT 3 [41] q)) = false) : shortG f k q = (.mk k [] [] [], (takeT 3 [41] q).2) := if_neg (by rw [h]; simp)
theorem mo_go {x : List UInt8} {n : Nat} {l : List CT} {M : List CT × PS} (hn : 0 < n) (h : isT 1 x q = true) (hm : moreG f x n l q = M) : moreG f x (n - 1) (l ++ [(f (advS q)).1]) (f (advS q)).2 = M := by
 obtain ⟨m, rfl⟩ : ∃ m, n = m + 1 := ⟨n - 1, by omega⟩
 unfold moreG at hm; rw [if_pos h] at hm; exact hm
theorem mo_stop {x : List UInt8} {n : Nat} {l : List CT} {M : List CT × PS} (h : isT 1 x q = false) (hm : moreG f x n l q = M) : M = (l, q) := by
 cases n with
 | zero => exact hm.symm
 | succ n => unfold moreG at hm; rw [if_neg (by rw [h]; simp)] at hm; exact hm.symm
theorem lo_eq {l : List CT} {p : PS} (h : moreG f (hd (f q).2.T).t (hd (f q).2.T :: (f q).2.T).length [(f q).1] (signT (f q).2) = (l, p)) : longG f q = (.mk (kindT (hd (f q).2.T).t) [] [] l, (takeT 3 [41] p).2) := by
 unfold longG; dsimp only; rw [h]
theorem sign_1 {q : PS} (h : (decide (q.w < 0) && ((hd q.T).k != 1 || (!((hd q.T).t == wAnd) && !((hd q.T).t == wOr)))) = true) : signT q = failT (hd q.T).a q := if_pos h
theorem sign_0 {q : PS} (h : (decide (q.w < 0) && ((hd q.T).k != 1 || (!((hd q.T).t == wAnd) && !((hd q.T).t == wOr)))) = false) : signT q = q := if_neg (by rw [h]; simp)
theorem adv_short {s : List UInt8} {x : List UInt8} (g : Good s q.T) (h : isT 1 x q = true) : (advS q).T.length < q.T.length := by
 have hk : ((hd q.T).k == 1) = true := by
  unfold isT at h; simp only [Bool.and_eq_true] at h; exact h.1.2
 obtain ⟨T, w⟩ := q
 match T, g, hk with
 | [x], g, hk => exact (good_last g (.inl hk)).elim
 | x :: y :: l, g, hk => simp [advS, adv]
end
theorem LeG.aggLast (a b c : C) (sz : Nat) : LeG (.agg [a, b, c, .d .nilsl]) (.agg [a, b, c, .d (.vec sz [])]) := fun g h w v hx => by
 cases hx with | agg _ vs hl hx =>
 refine .agg _ _ hl (fun i q v hc hv => ?_)
 match i with
 | 0 => exact hx 0 q v hc hv
 | 1 => exact hx 1 q v hc hv
 | 2 => exact hx 2 q v hc hv
 | 3 =>
  simp at hc; subst hc
  have h1 := hx 3 _ v rfl hv
  cases h1 with | d _ _ h1 => cases h1 with | nilsl => exact .d _ _ (.empty _ _ _)
 | i + 4 => simp at hc
theorem not_v (k : Int) (c : CT) : V.agg [.d (.int .i64 k), .d (.str []), .d (.str []), .d (.vec 4 [[.int .i64 c.k, .str c.n, .str c.v, .vec 4 (CT.ds c.l)]])] = ctV (.mk k [] [] [c]) := by
 show _ = V.agg [.d (.int .i64 k), .d (.str []), .d (.str []), .d (.vec 4 [c.d])]
 rw [ct_d]
theorem ct_some (c : CT) : some (4, [[D.int .i64 c.k, .str c.n, .str c.v, .vec 4 (CT.ds c.l)]]) = some (4, [c].map CT.d) := by
 show _ = some (4, [c.d]); rw [ct_d]
theorem ct_snoc (l : List CT) (c : CT) : l.map CT.d ++ [[D.int .i64 c.k, .str c.n, .str c.v, .vec 4 (CT.ds c.l)]] = (l ++ [c]).map CT.d := by
 rw [List.map_append]; show _ = l.map CT.d ++ [c.d]; rw [ct_d]
theorem long_v (k : Int) (l : List CT) : V.agg [.d (.int .i64 k), .d (.str []), .d (.str []), .d (.vec 4 (l.map CT.d))] = ctV (.mk k [] [] l) := by
 show _ = V.agg [.d (.int .i64 k), .d (.str []), .d (.str []), .d (.vec 4 (CT.ds l))]
 rw [ds_map]
end
section
open Go
theorem qAt_le {s : List UInt8} {f : Nat} (hf : f < s.length) (h : (qAt s f).isSome = true) : f < qE (qAt s f) ∧ qE (qAt s f) ≤ s.length ∧ (qT (qAt s f)).length ≤ s.length := by
 obtain ⟨⟨x, e⟩, hq⟩ := Option.isSome_iff_exists.1 h
 have := qL_le _ _ _ _ _ _ (Nat.le_refl _) (show quoteL (s.drop (f + 1)) [] (f + 1) = some (x, e) from hq)
 rw [hq]
 simp at this
 simp [qE, qT]
 omega
theorem skip_nb {s : List UInt8} : ∀ (n p : Nat), s.length - p ≤ n → skipB s p < s.length → blk (s.getD (skipB s p) 0) = false
  | 0, p, hn, h => by have := skip_ge (s := s) (p := p); omega
  | n + 1, p, hn, h => by
    have h1 := skip_ge (s := s) (p := p)
    cases hb : blk (s.getD p 0) with
    | true =>
      have h2 := skip_go (i := p) (by omega) hb rfl
      rw [← h2] at h ⊢
      exact skip_nb n (p + 1) (by omega) h
    | false =>
      have h2 := skip_stop (i := p) (by omega) hb rfl
      rw [h2]; exact hb
theorem tok_facts {s : List UInt8} {f : Nat} (hf : f ≤ s.length) (hnb : f < s.length → blk (s.getD f 0) = false) : f ≤ (tokAt s f).e ∧ (tokAt s f).e ≤ s.length ∧ (tokAt s f).t.length ≤ s.length ∧ (tokAt s f).a = f ∧
  (((tokAt s f).k == 0 || (tokAt s f).k == 4) = false → f < (tokAt s f).e) ∧ (((tokAt s f).k == 0 || (tokAt s f).k == 4) = true → (tokAt s f).e = f ∧ (f = s.length ∨ (s.getD f 0 == 34) = true)) := by
 unfold tokAt
 split
 ·skip
  rename_i h
  refine ⟨Nat.le_refl _, hf, by simp, rfl, fun h => by simp at h, fun _ => ⟨rfl, .inl (by omega)⟩⟩
 ·skip
  rename_i h
  have hlt : f < s.length := by omega
  split
  ·skip
   exact ⟨by simp, by simp; omega, by simp; omega, rfl, fun _ => by simp, fun h => by simp at h⟩
  ·skip
   rename_i h1
   split
   ·skip
    rename_i h2
    split
    ·skip
     rename_i h3
     have := qAt_le hlt h3
     exact ⟨by simp; omega, by simp; omega, by simp; omega, rfl, fun _ => by simp; omega, fun h => by simp at h⟩
    ·skip
     exact ⟨Nat.le_refl _, hf, by simp, rfl, fun h => by simp at h, fun _ => ⟨rfl, .inr h2⟩⟩
   ·skip
    rename_i h2
    have hb := hnb hlt
    have hw : wch (s.getD f 0) = true := by
     unfold wch
     rw [hb, Bool.eq_false_iff.2 h1, Bool.eq_false_iff.2 h2]; rfl
    have h4 := word_go hlt hw rfl
    have h5 := word_ge (s := s) (p := f + 1)
    have h6 := word_le hf
    exact ⟨by simp; omega, h6, by simp; omega, rfl, fun _ => by simp; omega, fun h => by simp at h⟩
theorem next_facts {s : List UInt8} {p : Nat} (hp : p ≤ s.length) : p ≤ (nextT s p).e ∧ (nextT s p).e ≤ s.length ∧ (nextT s p).t.length ≤ s.length ∧
  (((nextT s p).k == 0 || (nextT s p).k == 4) = false → p < (nextT s p).e) ∧ (((nextT s p).k == 0 || (nextT s p).k == 4) = true → nextT s (nextT s p).e = nextT s p) := by
 have h1 := skip_ge (s := s) (p := p)
 have h2 := skip_le hp
 have h := tok_facts h2 (skip_nb _ p (Nat.le_refl _))
 unfold nextT
 refine ⟨by omega, h.2.1, h.2.2.1, fun hk => by have := h.2.2.2.2.1 hk; omega, fun hk => ?_⟩
 obtain ⟨he, hx⟩ := h.2.2.2.2.2 hk
 rw [he]
 have : skipB s (skipB s p) = skipB s p := by
  rcases hx with hx | hx
  ·skip
   exact skip_end (by omega) h2 rfl
  ·skip
   rcases Nat.lt_or_ge (skipB s p) s.length with hl | hl
   ·skip
    refine skip_stop hl ?_ rfl
    have : s.getD (skipB s p) 0 = 34 := by simpa using hx
    rw [this]; rfl
   ·skip
    exact skip_end hl h2 rfl
 rw [this]
def toksN : Nat → List UInt8 → Nat → List Tok
 | 0, s, p => [nextT s p]
 | n + 1, s, p => if (nextT s p).k == 0 || (nextT s p).k == 4 then [nextT s p] else nextT s p :: toksN n s (nextT s p).e
def toks (s : List UInt8) : List Tok := toksN s.length s 0
theorem toks_hd (n : Nat) (s : List UInt8) (p : Nat) : ∃ l, toksN n s p = nextT s p :: l := by
 cases n with
 | zero => exact ⟨[], rfl⟩
 | succ n => unfold toksN; split; exact ⟨[], rfl⟩; exact ⟨_, rfl⟩
theorem toks_good {s : List UInt8} : ∀ (n p : Nat), p ≤ s.length → s.length - p ≤ n → Good s (toksN n s p)
  | n, p, hp, hn => by
    have hx := next_facts hp
    cases hk : ((nextT s p).k == 0 || (nextT s p).k == 4) with
    | true =>
      have : toksN n s p = [nextT s p] := by cases n with | zero => rfl | succ n => unfold toksN; rw [if_pos hk]
      rw [this]
      exact ⟨⟨hx.2.2.2.2 hk, hx.2.1⟩, hk⟩
    | false =>
      have h1 := hx.2.2.2.1 hk
      obtain ⟨m, rfl⟩ : ∃ m, n = m + 1 := ⟨n - 1, by omega⟩
      unfold toksN; rw [if_neg (by rw [hk]; simp)]
      have ih := toks_good m (nextT s p).e hx.2.1 (by omega)
      obtain ⟨l, hl⟩ := toks_hd m s (nextT s p).e
      rw [hl] at ih ⊢
      exact ⟨⟨rfl, hx.2.1⟩, hk, ih⟩
theorem toks_len : ∀ (n : Nat) (s : List UInt8) (p : Nat), (toksN n s p).length ≤ n + 1
  | 0, s, p => by simp [toksN]
  | n + 1, s, p => by
    unfold toksN; split
    · simp
    · have := toks_len n s (nextT s p).e; simp; omega
theorem toks_t {s : List UInt8} : ∀ (n p : Nat), p ≤ s.length → ∀ x ∈ toksN n s p, x.t.length ≤ s.length
  | 0, p, hp, x, h => by
    obtain rfl : x = nextT s p := by simpa [toksN] using h
    exact (next_facts hp).2.2.1
  | n + 1, p, hp, x, h => by
    have hx := next_facts hp
    unfold toksN at h; split at h
    · obtain rfl : x = nextT s p := by simpa using h
      exact hx.2.2.1
    · rcases List.mem_cons.1 h with rfl | h
      · exact hx.2.2.1
      · exact toks_t n _ hx.2.1 x h
theorem toks_gd {s : List UInt8} (hs : s.length ≤ 4000) : Gd s (toks s) := ⟨toks_good _ 0 (Nat.zero_le _) (by omega), by have := toks_len s.length s 0; unfold toks; omega⟩
theorem hd_toks (s : List UInt8) : hd (toks s) = nextT s 0 := by
 obtain ⟨l, hl⟩ := toks_hd s.length s 0
 unfold toks; rw [hl]; rfl
def TL (T : List Tok) : Prop := (∀ x ∈ T, x.t.length ≤ 4000) ∧ T.length ≤ 5000
theorem adv_mem {T : List Tok} {x : Tok} (h : x ∈ adv T) : x ∈ T := by
 match T, h with
 | [], h => exact h
 | [y], h => exact h
 | y :: z :: l, h => exact List.mem_cons_of_mem _ h
theorem Rch.mem {A B : List Tok} (h : Rch A B) {x : Tok} (hx : x ∈ B) : x ∈ A := by
 induction h with
 | refl => exact hx
 | step h ih => exact adv_mem (ih hx)
theorem TL.go {A B : List Tok} (t : TL A) (h : Rch A B) : TL B := ⟨fun x hx => t.1 x (h.mem hx), Nat.le_trans h.len t.2⟩
theorem TL.hd {T : List Tok} (t : TL T) : (hd T).t.length ≤ 4000 := by
 match T, t with
 | [], _ => simp [Go.Proofs.YtfcdmcdhhikhaaaGreatDoor.hd, Tok.z]
 | x :: l, t => exact t.1 x (List.mem_cons_self ..)
theorem take_len {k : Int} {x : List UInt8} {q : PS} (t : TL q.T) : (takeT k x q).1.length < 4294967000 := by
 have := t.hd
 unfold takeT
 split
 ·skip
  simp
 ·skip
  split
  ·skip
   simp
  ·skip
   simp; omega
theorem big_z : CtBig CT.z := .mk _ _ _ _ (by decide) (by decide) (fun a ha => by cases ha) (by decide)
theorem big_leaf {k : Int} {n v : List UInt8} (hn : n.length < 4294967000) (hv : v.length < 4294967000) : CtBig (.mk k n v []) := .mk _ _ _ _ hn hv (fun a ha => by cases ha) (by decide)
theorem big_list {k : Int} {l : List CT} (h : ∀ a ∈ l, CtBig a) (hl : l.length < 4294967000) : CtBig (.mk k [] [] l) := .mk _ _ _ _ (by decide) (by decide) h hl
section
variable {f : PS → CT × PS} (hr : ∀ q, Rch q.T (f q).2.T) (hf : ∀ q, TL q.T → CtBig (f q).1)
include hr hf
theorem big_more (x : List UInt8) : ∀ (n : Nat) (l : List CT) (q : PS), TL q.T → (∀ a ∈ l, CtBig a) → (∀ a ∈ (moreG f x n l q).1, CtBig a) ∧ (moreG f x n l q).1.length ≤ l.length + n
  | 0, l, q, t, h => ⟨h, Nat.le_refl _⟩
  | n + 1, l, q, t, h => by
    unfold moreG; split
    · have h1 := big_more x n (l ++ [(f (advS q)).1]) (f (advS q)).2 ((t.go (rch_adv q)).go (hr _)) (fun a ha => by
        rcases List.mem_append.1 ha with ha | ha
        · exact h a ha
        · obtain rfl : a = (f (advS q)).1 := by simpa using ha
          exact hf _ (t.go (rch_adv q)))
      refine ⟨h1.1, Nat.le_trans h1.2 (by simp; omega)⟩
    · exact ⟨h, by simp⟩
omit hr in
theorem big_one {k : Int} {q : PS} (t : TL q.T) : CtBig (.mk k [] [] [(f q).1]) := big_list (fun a ha => by
 obtain rfl : a = (f q).1 := by simpa using ha
 exact hf q t) (by simp)
omit hr in
theorem big_short (k : Int) (q : PS) (t : TL q.T) : CtBig (shortG f k q).1 := by
 unfold shortG; split
 ·skip
  exact big_one hf t
 ·skip
  exact big_list (fun a ha => by cases ha) (by simp)
theorem big_long (q : PS) (t : TL q.T) : CtBig (longG f q).1 := by
 unfold longG
 have h1 := t.go (hr q)
 have h2 := big_more hr hf (hd (f q).2.T).t (hd (f q).2.T :: (f q).2.T).length [(f q).1] (signT (f q).2) (h1.go (rch_sign _)) (fun a ha => by
  obtain rfl : a = (f q).1 := by simpa using ha
  exact hf q t)
 refine big_list h2.1 ?_
 have h3 := h2.2
 have h4 := h1.2
 have h5 : (hd (f q).2.T :: (f q).2.T).length = (f q).2.T.length + 1 := rfl
 have h6 : [(f q).1].length = 1 := rfl
 omega
theorem big_lists (b : Bool) (q : PS) (t : TL q.T) : CtBig (listG b f q).1 := by
 have t1 := t.go (rch_take 3 [40] q)
 unfold listG
 split
 ·skip
  exact big_z
 ·skip
  split
  ·skip
   exact big_short hf _ _ (t1.go (rch_adv _))
  ·skip
   split
   ·skip
    exact big_short hf _ _ (t1.go (rch_adv _))
   ·skip
    exact big_long hr hf _ t1
theorem big_cond (b : Bool) (q : PS) (t : TL q.T) : CtBig (condG b f q).1 := by
 have t1 := t.go (rch_take 1 [] q)
 unfold condG
 split
 ·skip
  exact big_lists hr hf b q t
 ·skip
  dsimp only
  split
  ·skip
   exact big_leaf (by decide) (by decide)
  ·skip
   split
   ·skip
    exact big_leaf (take_len t1) (take_len ((t1.go (rch_take _ _ _)).go (rch_take _ _ _)))
   ·skip
    split
    ·skip
     exact big_leaf (take_len t1) (by decide)
    ·skip
     split
     ·skip
      exact big_leaf (take_len t1) (take_len ((t1.go (rch_take _ _ _)).go (rch_take _ _ _)))
     ·skip
      split
      ·skip
       split
       ·skip
        exact big_z
       ·skip
        exact big_one hf t1
      ·skip
       exact big_z
end
theorem big_condT : ∀ (n : Nat) (q : PS), TL q.T → CtBig (condT n q).1
 | 0, q, t => big_cond (f := fun q => (CT.z, q)) (fun q => .refl _) (fun q _ => big_z) true q t
 | n + 1, q, t => big_cond (rch_condT n) (big_condT n) false q t
theorem toks_tl {s : List UInt8} (hs : s.length ≤ 4000) : TL (toks s) := ⟨fun x hx => Nat.le_trans (toks_t _ 0 (Nat.zero_le _) x hx) hs, (toks_gd hs).2⟩
def endS (q : PS) : PS := if decide (q.w < 0) && (hd q.T).k != 0 then failT (hd q.T).a q else q
def readP (s : List UInt8) : CT × PS := ((condT 100 ⟨toks s, -1⟩).1, endS (condT 100 ⟨toks s, -1⟩).2)
def parseP (s : List UInt8) : CT × Int × Int :=
 if decide ((s.length : Int) > 4000) then (CT.z, 0, 4)
 else if decide ((readP s).2.w ≥ 0) then (CT.z, (readP s).2.w, 8)
 else if checkP (readP s).1 != 0 then (CT.z, 0, checkP (readP s).1)
 else ((readP s).1, 0, 0)
theorem end_1 {q : PS} (h : (decide (q.w < 0) && (hd q.T).k != 0) = true) : endS q = failT (hd q.T).a q := if_pos h
theorem end_0 {q : PS} (h : (decide (q.w < 0) && (hd q.T).k != 0) = false) : endS q = q := if_neg (by rw [h]; simp)
theorem pp_0 {s : List UInt8} (h : decide ((s.length : Int) > 4000) = true) : parseP s = (CT.z, 0, 4) := if_pos h
section
variable {s : List UInt8} {q : PS} (h : decide ((s.length : Int) > 4000) = false) (hq : endS (condT 100 ⟨toks s, -1⟩).2 = q)
include h hq
theorem pp_1 (h1 : decide (q.w ≥ 0) = true) : parseP s = (CT.z, q.w, 8) := by
 have : (readP s).2 = q := hq
 unfold parseP; rw [if_neg (by rw [h]; simp), this, if_pos h1]
theorem pp_2 (h1 : decide (q.w ≥ 0) = false) (h2 : (checkP (condT 100 ⟨toks s, -1⟩).1 != 0) = true) : parseP s = (CT.z, 0, checkP (condT 100 ⟨toks s, -1⟩).1) := by
 have : (readP s).2 = q := hq
 unfold parseP; rw [if_neg (by rw [h]; simp), this, if_neg (by rw [h1]; simp)]; exact if_pos h2
theorem pp_3 (h1 : decide (q.w ≥ 0) = false) (h2 : (checkP (condT 100 ⟨toks s, -1⟩).1 != 0) = false) : parseP s = ((condT 100 ⟨toks s, -1⟩).1, 0, 0) := by
 have : (readP s).2 = q := hq
 unfold parseP; rw [if_neg (by rw [h]; simp), this, if_neg (by rw [h1]; simp)]; exact if_neg (by rw [show (checkP (readP s).1 != 0) = false from h2]; simp)
end
theorem LeV.tup3 {a a' b b' c c' : V} (h1 : LeV a a') (h2 : LeV b b') (h3 : LeV c c') : LeV (.tup [a, b, c]) (.tup [a', b', c']) := fun im w v h => by
  cases h with | tup _ vs hl hx =>
  refine .tup _ _ hl (fun i u v h4 h5 => ?_)
  match i with
  | 0 => obtain rfl : a' = u := by simpa using h4
         exact h1 _ _ _ (hx 0 a v rfl h5)
  | 1 => obtain rfl : b' = u := by simpa using h4
         exact h2 _ _ _ (hx 1 b v rfl h5)
  | 2 => obtain rfl : c' = u := by simpa using h4
         exact h3 _ _ _ (hx 2 c v rfl h5)
  | i + 3 => simp at h4
theorem LeV.aggEnd (a b c : C) (sz : Nat) : LeV (.agg [a, b, c, .d .nilsl]) (.agg [a, b, c, .d (.vec sz [])]) := fun im w v h => by
 cases h with | agg _ vs hl hx =>
 refine .agg _ _ hl (fun i q v hc hv => ?_)
 match i with
 | 0 => exact hx 0 q v hc hv
 | 1 => exact hx 1 q v hc hv
 | 2 => exact hx 2 q v hc hv
 | 3 =>
  simp at hc; subst hc
  have h1 := hx 3 _ v rfl hv
  cases h1 with | d _ _ h1 => cases h1 with | nilsl => exact .d _ _ (.empty _ _ _)
 | i + 4 => simp at hc
theorem le_ctNil {x : CT × Int × Int} {a b : Int} (h : x = (CT.z, a, b)) : LeV (.tup [.agg [.d (.int .i64 0), .d (.str []), .d (.str []), .d .nilsl], .one (.d (.int .i64 a)), .one (.d (.int .i64 b))]) (.tup [ctV x.1, .one (.d (.int .i64 x.2.1)), .one (.d (.int .i64 x.2.2))]) := by
 subst h; exact LeV.tup3 (LeV.aggEnd _ _ _ 4) (LeV.refl _) (LeV.refl _)
theorem le_ct {x : CT × Int × Int} {c : CT} {a b : Int} (h : x = (c, a, b)) : LeV (.tup [ctV c, .one (.d (.int .i64 a)), .one (.d (.int .i64 b))]) (.tup [ctV x.1, .one (.d (.int .i64 x.2.1)), .one (.d (.int .i64 x.2.2))]) := by
 subst h; exact LeV.refl _
end
end Go.Proofs.YtfcdmcdhhikhaaaGreatDoor
namespace Go.Proofs.YtfcdmcdhhikhaaaGreatDoor
section
open Go
theorem replK_ne {b c : UInt8} (new : L8) (h : b ≠ c) (l : L8) : ∀ k, Lib.replaceK [c] new k (b :: l) = b :: Lib.replaceK [c] new k l
  | 0 => rfl
  | k + 1 => by
    have hp : ([c] : L8).isPrefixOf (b :: l) = false := by
      simp only [List.isPrefixOf, Bool.and_true]
      simpa using fun e => h e.symm
    have hi : Lib.index (b :: l) [c] = if Lib.index l [c] == -1 then -1 else Lib.index l [c] + 1 := by
      show (if ([c] : L8).isPrefixOf (b :: l) then (0 : Int) else _) = _
      rw [hp]; rfl
    have hge := Lib.index_ge l [c]
    by_cases hm : Lib.index l [c] = -1
    · have e1 : Lib.index (b :: l) [c] = -1 := by rw [hi, hm]; rfl
      unfold Lib.replaceK
      rw [e1, hm]; rfl
    · have hm' : (Lib.index l [c] == -1) = false := by simpa using hm
      obtain ⟨i, hil⟩ : ∃ i : Nat, Lib.index l [c] = i := ⟨(Lib.index l [c]).toNat, by omega⟩
      have e1 : Lib.index (b :: l) [c] = ((i + 1 : Nat) : Int) := by rw [hi, hm', hil]; rfl
      rw [Lib.replaceK_hit _ _ _ _ _ e1, Lib.replaceK_hit _ _ _ _ _ hil]
      rfl
theorem repl_one (c : UInt8) {new : L8} : ∀ s : L8, Lib.replaceK [c] new (Lib.count s [c]) s = s.flatMap fun x => if x == c then new else [x]
  | [] => rfl
  | b :: l => by
    have ih := repl_one c (new := new) l
    by_cases h : b = c
    · subst h
      have hi : Lib.index (b :: l) [b] = ((0 : Nat) : Int) := by
        show (if ([b] : L8).isPrefixOf (b :: l) then (0 : Int) else _) = _
        simp [List.isPrefixOf]
      rw [Lib.count_cons_eq, Nat.add_comm, Lib.replaceK_hit _ _ _ _ _ hi]
      simp only [List.take_zero, List.nil_append, Nat.zero_add, List.length_cons, List.length_nil, List.drop_succ_cons, List.drop_zero, List.flatMap_cons, beq_self_eq_true, if_true]
      rw [ih]
    · rw [Lib.count_cons_ne b c l h, replK_ne new h, ih]
      have : (b == c) = false := by simpa using h
      simp only [List.flatMap_cons, this, Bool.false_eq_true, if_false]; rfl
theorem replAll_one (c : UInt8) {new : L8} (hn : new ≠ [c]) (s : L8) : Lib.replaceAll s [c] new = s.flatMap fun x => if x == c then new else [x] := by
 unfold Lib.replaceAll Lib.replace Lib.replaceNum
 rw [if_neg (by simpa using fun e => hn e.symm), if_pos (.inl (by decide))]
 exact repl_one c s
theorem repl_esc (s : L8) : Lib.replaceAll (Lib.replaceAll s [92] [92, 92]) [34] [92, 34] = escB s := by
  rw [replAll_one 92 (by decide), replAll_one 34 (by decide), List.flatMap_assoc]
  unfold escB
  congr 1
  funext c
  unfold esc1 spec
  by_cases h1 : c = 92
  · subst h1; rfl
  · by_cases h2 : c = 34
    · subst h2; rfl
    · have e1 : (c == 92) = false := by simpa using h1
      have e2 : (c == 34) = false := by simpa using h2
      simp [e1, e2, h1, h2]
theorem quote_esc (rest : L8) : ∀ (s o : L8) (i : Nat), quoteL (escB s ++ 34 :: rest) o i = some (o ++ s, i + (escB s).length + 1)
  | [], o, i => by
    show quoteL (34 :: rest) o i = _
    unfold quoteL
    simp [escB]
  | c :: s, o, i => by
    rw [esc_cons]
    have ih := fun o i => quote_esc rest s o i
    unfold esc1
    cases hs : spec c with
    | true =>
      rw [if_pos rfl]
      show quoteL (92 :: c :: (escB s ++ 34 :: rest)) o i = _
      unfold quoteL
      have hc : (c != 34 && c != 92) = false := by
        unfold spec at hs
        cases h1 : (c == 92) <;> cases h2 : (c == 34) <;> simp_all [bne]
      simp only [show ((92 : UInt8) == 34) = false from rfl, show ((92 : UInt8) == 92) = true from rfl, Bool.false_eq_true, if_false, if_true, hc]
      rw [ih]
      simp; omega
    | false =>
      rw [if_neg (by simp)]
      show quoteL (c :: (escB s ++ 34 :: rest)) o i = _
      unfold spec at hs
      rw [Bool.or_eq_false_iff] at hs
      unfold quoteL
      simp only [hs.1, hs.2, Bool.false_eq_true, if_false]
      rw [ih]
      simp; omega
end
section
open Go
open Go.RowKit
attribute [local irreducible] thenK blockK W
attribute [local irreducible] rangeB pathB nameB valueB firstNe escB quoB
theorem pc_ReplaceAll (a b c : List UInt8) (ha : a.length ≤ 1000000000) (h1 : 1 ≤ b.length) (hc : c.length ≤ 10) : PureCall Tryz.prog J 93 [.one (.d (.str a)), .one (.d (.str b)), .one (.d (.str c))] (.one (.d (.str (Lib.replaceAll a b c)))) :=
  PureCall.lib Tryz.func93 (by kernel_rfl) (by kernel_rfl) (xs := [.string ⟨a.toArray⟩, .string ⟨b.toArray⟩, .string ⟨c.toArray⟩]) rfl fun w hw =>
    hw.max.elim fun m hm => Calls.mono (Tryz.strings_ReplaceAll ⟨a.toArray⟩ ⟨b.toArray⟩ ⟨c.toArray⟩ m w (by simp [ByteArray.size]; omega) hm (by simpa [ByteArray.size] using h1) (by
      have h2 := Lib.countB_mul_le ⟨b.toArray⟩ (by simpa [ByteArray.size] using h1) _ ⟨a.toArray⟩ (Nat.le_refl _)
      have h3 : Lib.countB ⟨a.toArray⟩ ⟨b.toArray⟩ * 1 ≤ Lib.countB ⟨a.toArray⟩ ⟨b.toArray⟩ * b.length := Nat.mul_le_mul_left _ h1
      have h4 : Lib.countB ⟨a.toArray⟩ ⟨b.toArray⟩ * c.length ≤ Lib.countB ⟨a.toArray⟩ ⟨b.toArray⟩ * 10 := Nat.mul_le_mul_left _ hc
      simp only [ByteArray.size, List.size_toArray] at h2 ⊢
      omega)) fun e w' ⟨he, hw⟩ => ⟨_, he, hw, RV.of_lit (by simp [D.lit])⟩
theorem esc_eq (s : List UInt8) : Lib.replaceAll (Lib.replaceAll s [92] [92, 92]) [34] [92, 34] = escB s := repl_esc s
theorem repl_len (s : List UInt8) : (Lib.replaceAll s [92] [92, 92]).length ≤ 2 * s.length := by
 rw [replAll_one 92 (by decide)]
 induction s with
 | nil => simp
 | cons c s ih =>
  rw [List.flatMap_cons, List.length_append, List.length_cons]
  split <;> simp at * <;> omega
theorem pc_outref2_Quoted (s : List UInt8) (hs : s.length ≤ 4000000) :
  PureCall Tryz.prog J 54 [.one (.d (.str s))] (.one (.d (.str (quoB s)))) := by
 have hle := esc_le s
 have hrl := repl_len s
 refine PureCall.of_body tOk (fn := Tryz.f54) Tryz.func54 (by kernel_rfl) rfl (Nat.le_of_ble_eq_true rfl) (fun E => ?_)
 iterate 4 first|refine Yp rfl ?_|apply Y3|apply Y1
 refine S.call rfl rfl rfl rfl rfl (pc_ReplaceAll s [92] [92, 92] (by omega) (by decide) (by decide)) ?_
 refine S.call rfl rfl rfl rfl rfl (pc_ReplaceAll _ [34] [92, 34] (by omega) (by decide) (by decide)) ?_
 refine YP rfl (cat_ok (by have := congrArg List.length (repl_esc s); simp at this ⊢; omega)) rfl ?_
 refine YP rfl (cat_ok (by have := congrArg List.length (repl_esc s); simp at this ⊢; omega)) rfl ?_
 refine Yp rfl ?_
 apply Yn
 apply Yt
 exact Yz rfl rfl rfl (by rw [esc_eq]; unfold quoB; rfl)
end
section
open Go
open Go.RowKit
attribute [local irreducible] thenK blockK W
attribute [local irreducible] rangeB pathB nameB valueB visit visits checkP quoteL qAt nextT skipB wordE
theorem pc_ver_isBlank (c : Int) :
  PureCall Tryz.prog J 99 [.one (.d (.int .u8 c))] (.one (.d (.bool (c == 32 || c == 9)))) := by
 refine PureCall.of_body tOk (fn := Tryz.f99) Tryz.func99 (by kernel_rfl) rfl (Nat.le_of_ble_eq_true rfl) (fun E => ?_)
 iterate 12 first|refine S.pickOr tOk zOk rfl rfl tg ?_|refine Yp rfl ?_|refine Yg rfl rfl tg ?_|apply Yt|apply Y3|apply Y1|apply Yn
 exact ⟨_, rfl, rfl, LeV.refl _⟩
theorem pc_ver_kindOf (x : List UInt8) :
  PureCall Tryz.prog J 151 [.one (.d (.str x))] (.one (.d (.int .i64 (kindT x)))) := by
 refine PureCall.of_body tOk (fn := Tryz.f151) Tryz.func151 (by kernel_rfl) rfl (Nat.le_of_ble_eq_true rfl) (fun E => ?_)
 iterate 8 first|refine Yp rfl ?_|apply Y1|apply Yn|apply Ys
 refine W.cond rfl (fun c1=>?_) fun c1=>?_
 ·skip
  apply Y1
  refine Yp rfl ?_
  apply Yn
  apply Yt
  apply Yu
  exact Yz rfl rfl rfl (congrArg (fun x => V.one (C.d (D.int .i64 x))) (if_pos c1).symm)
 apply Yk
 apply Y3
 refine Yp rfl ?_
 apply Yn
 apply Yt
 exact Yz rfl rfl rfl (congrArg (fun x => V.one (C.d (D.int .i64 x))) (if_neg (Bool.eq_false_iff.1 c1)).symm)
theorem pc_ver_quotedAt (s : List UInt8) (f : Nat) (hs : s.length ≤ 4000) (hf : f < s.length) :
  PureCall Tryz.prog J 100 [.one (.d (.str s)), .one (.d (.int .i64 (f : Int)))] (.tup [.one (.d (.str (qT (qAt s f)))), .one (.d (.int .i64 (qE (qAt s f) : Int))), .one (.d (.bool (qAt s f).isSome))]) := by
 refine PureCall.of_body tOk (fn := Tryz.f100) Tryz.func100 (by kernel_rfl) rfl (Nat.le_of_ble_eq_true rfl) (fun E => ?_)
 iterate 10 first|refine Yp rfl ?_|apply Y1|apply Y3|apply Ys|apply Yn
 refine YE rfl rfl (inc_i64 (by omega)) rfl ?_
 refine Yp rfl ?_
 apply Yn
 refine W.newRow 7 1 5 rfl ?_
 apply Yb
 refine W.loop (fun k st => ∃ i : Nat, ∃ o : List UInt8, ∃ v : Nat, ∃ al : Bool, i ≤ s.length ∧ quoteL (s.drop i) o i = (qAt s f) ∧ o.length ≤ i ∧ k = s.length - i ∧ ∃ t b2 r2 m2, st = ⟨t, [] ++ b2, [some ⟨al, v, 1, 5, byteRow o⟩] ++ r2, [] ++ m2⟩ ∧ holdsL t [(0, .one (.d (.str s))), (7, .one (.row 0 v 0 (byteRow o).length)), (8, .one (.d (.int .i64 (i : Int))))]) (s.length - (f + 1)) ⟨f + 1, [], 0, false, hf, q_start, Nat.zero_le _, rfl, _, _, _, _, rfl, rfl, rfl, rfl, trivial⟩ ?_
 rintro k0 _ ⟨i, o, v, al, f0_0, f0_1, f0_2, rfl, t0, bb0, rr0, mm0, rfl, hh0⟩
 refine W.keepR _ _ _ _ _ _ _ hh0 rfl ?_
 apply Ys
 apply Y1
 iterate 4 refine Yp rfl ?_
 apply Yn
 refine W.cond rfl (fun c1=>?_) fun c1=>?_
 ·skip
  have hi : i < s.length := by simpa using c1
  iterate 8 first|refine Yp rfl ?_|apply Yb|apply Yk|apply Y1|apply Ys|apply Yn
  refine YP rfl (str_ok hi) rfl ?_
  iterate 6 first|refine Yp rfl ?_|apply Yb|apply Y1|apply Yn
  refine W.cond rfl (fun c2=>?_) fun c2=>?_
  ·skip
   have hq := qL_q hi (u8i (k := 34) c2) f0_1
   apply Y1
   refine Yp rfl ?_
   refine S.convRow (sz := 1) tOk o rfl rfl rfl rfl rfl rfl rfl rfl (by simp [byteRow]) ?_
   refine Yp rfl ?_
   refine YE rfl rfl (inc_i64 (by omega)) rfl ?_
   iterate 12 first|apply Yu|apply Yv|refine Yp rfl ?_|apply Yt|apply Yn
   exact Yz rfl rfl rfl (by rw [hq]; rfl)
  have hc := u8i (c := s.getD i 0) (k := 34) c2
  apply Y1
  iterate 2 refine Yp rfl ?_
  apply Yn
  refine W.cond rfl (fun c3=>?_) fun c3=>?_
  ·skip
   have hb := u8i (c := s.getD i 0) (k := 92) c3
   apply Y1
   refine Yp rfl ?_
   refine YE rfl rfl (inc_i64 (by omega)) rfl ?_
   iterate 9 first|refine Yp rfl ?_|refine Yg rfl rfl tg ?_|apply Y3
   refine YG rfl rfl tg (fun h => qidx hi h) rfl ?_
   iterate 4 refine Yg rfl rfl tg ?_
   refine YG rfl rfl tg (fun h => qidx hi (andl h)) rfl ?_
   refine Yg rfl rfl tg ?_
   refine S.pickAndG tOk zOk rfl rfl rfl tg tg ?_
   refine S.pickOr tOk zOk rfl rfl tg ?_
   apply Yn
   refine W.cond rfl (fun c4=>?_) fun c4=>?_
   ·skip
    have hq := qL_bad hi hc hb (qbad c4) f0_1
    iterate 13 first|apply Yu|apply Yv|refine Yp rfl ?_|apply Yt|apply Y1|apply Yn
    exact Yz rfl rfl rfl (by rw [hq]; rfl)
   have hi1 : i + 1 < s.length := qok1 hi c4
   have hd := qok2 c4
   iterate 6 first|refine Yp rfl ?_|apply Yw|apply Yk|apply Y4
   refine YP rfl (by first | exact str_ok hi1 | exact str_ok hi) rfl ?_
   refine S.slice tOk rfl rfl ?_
   refine S.append tOk rfl rfl rfl rfl rfl rfl rfl rfl rfl rfl rfl rfl (qlen hs f0_0 f0_2) rfl (byteRow_add o (s.getD (i + 1) 0)) rfl ?_
   iterate 6 first|refine Yp rfl ?_|apply Yw|apply Y4
   refine loop_n (s.length - _) (by first | exact qm2 hi | exact qm1 hi) ⟨i + 1 + 1, _, _, _, hi1, qL_esc hi1 hc hb hd f0_1, (by simp; omega), rfl, _, _, _, _, rfl, rfl, rfl, inc_i64 (by omega), trivial⟩
  have hb := u8i (c := s.getD i 0) (k := 92) c3
  apply Yk
  apply Yw
  apply Y4
  iterate 3 refine Yp rfl ?_
  refine YP rfl (by first | exact str_ok hi1 | exact str_ok hi) rfl ?_
  refine S.slice tOk rfl rfl ?_
  refine S.append tOk rfl rfl rfl rfl rfl rfl rfl rfl rfl rfl rfl rfl (qlen hs f0_0 f0_2) rfl (byteRow_add o (s.getD i 0)) rfl ?_
  iterate 6 first|refine Yp rfl ?_|apply Yw|apply Y4
  refine loop_n (s.length - _) (by first | exact qm2 hi | exact qm1 hi) ⟨i + 1, _, _, _, hi, qL_c hi hc hb f0_1, (by simp; omega), rfl, _, _, _, _, rfl, rfl, rfl, inc_i64 (by omega), trivial⟩
 have hi : s.length ≤ i := by simpa using c1
 have hq := qL_end hi f0_1
 iterate 9 first|refine Yp rfl ?_|apply Ye|apply Yx|apply Yq|apply Y3|apply Yn
 apply Yt
 exact Yz rfl rfl rfl (by rw [hq]; rfl)
theorem pc_advance (s : List UInt8) (p : Nat) (kd ta w : Int) (tx : List UInt8) (hs : s.length ≤ 4000) (hp : p ≤ s.length) :
  HCall Tryz.prog J 59 ([.one (.ptr 0 0)]) ([[.d (.str s), .d (.int .i64 (p : Int)), .d (.int .i64 (kd)), .d (.int .i64 (ta)), .d (.str tx), .d (.int .i64 w)]]) ([]) ([]) (isH (.tup []) ([[.d (.str s), .d (.int .i64 ((nextT s p).e : Int)), .d (.int .i64 ((nextT s p).k)), .d (.int .i64 ((nextT s p).a : Int)), .d (.str (nextT s p).t), .d (.int .i64 w)]]) ([]) ([])) := by
 refine HCall.ofD tOk ⟨1, 0, 0⟩ (fn := Tryz.f59) Tryz.func59 (by kernel_rfl) rfl (Nat.le_of_ble_eq_true rfl) (fun E => ?_)
 apply Ys
 apply Yb
 refine W.loop (fun k st => ∃ i : Nat, i ≤ s.length ∧ skipB s i = skipB s p ∧ k = s.length - i ∧ ∃ t b2 r2 m2, st = ⟨t, [[.d (.str s), .d (.int .i64 (i : Int)), .d (.int .i64 (kd)), .d (.int .i64 (ta)), .d (.str tx), .d (.int .i64 w)]] ++ b2, [] ++ r2, [] ++ m2⟩ ∧ holdsL t [(0, .one (.ptr 0 0))]) (s.length - p) ⟨p, hp, rfl, rfl, _, _, _, _, rfl, rfl, trivial⟩ ?_
 rintro k0 _ ⟨i, f0_0, f0_1, rfl, t0, bb0, rr0, mm0, rfl, hh0⟩
 refine W.keepR _ _ _ _ _ _ _ hh0 rfl ?_
 apply Ys
 apply Ys
 refine W.regionD mixed (by kernel_rfl) ?_
 iterate 19 first|refine Ym rfl rfl ?_|refine Yy rfl rfl rfl tg ?_
 refine D.pureG tOk zOk rfl rfl rfl tg (fun h => gx (s := s) (i := i) h) rfl ?_
 refine D.callG rfl rfl rfl rfl tg rfl rfl (fun h => pc_ver_isBlank _) ?_
 refine D.pickAnd tOk zOk rfl rfl tg ?_
 apply Yn
 refine W.cond rfl (fun c1=>?_) fun c1=>?_
 ·skip
  have hi := blk_lt c1
  have hgo := skip_go hi (blk_t c1) f0_1
  iterate 8 first|refine Yp rfl ?_|apply Yb|apply Yk|apply Yn|apply Yr
  refine YE rfl rfl (inc_i64 (by omega)) rfl ?_
  iterate 2 refine Yp rfl ?_
  refine S.store tOk rfl rfl rfl rfl rfl rfl rfl rfl ?_
  apply Yw
  refine loop_n (s.length - (i + 1)) (by omega) ⟨i + 1, hi, hgo, rfl, _, _, _, _, rfl, rfl, trivial⟩
 have hsk : skipB s p = i := blk_end f0_0 f0_1 c1
 iterate 21 first|refine Yp rfl ?_|apply Ye|apply Yx|apply Yq|apply Y1|apply Y3|apply Yn|apply Ys
 refine W.cond rfl (fun c2=>?_) fun c2=>?_
 ·skip
  have hx := nx_end hsk c2
  iterate 10 first|refine Yp rfl ?_|apply Yu|apply Yt|refine S.store tOk rfl rfl rfl rfl rfl rfl rfl rfl ?_|apply Y1|apply Yn
  exact ⟨_, rfl, rfl, LeG.refl _, (by rw [hx]; rfl), rfl, rfl⟩
 have hi : i < s.length := by simp at c2; omega
 apply Yk
 apply Y3
 iterate 5 refine Yp rfl ?_
 refine YP rfl (str_ok hi) rfl ?_
 iterate 10 first|refine Yp rfl ?_|apply Yb|apply Y1|apply Y3|apply Yn|apply Ys
 refine W.cond rfl (fun c3=>?_) fun c3=>?_
 ·skip
  have hsg := sg_1 c3
  have hx := nx_sign hsk c2 hsg
  apply Yk
  apply Yn
  refine W.cond rfl (fun c4=>?_) fun c4=>?_
  ·skip
   apply Y1
   iterate 4 refine Yp rfl ?_
   refine YE rfl rfl (inc_i64 (by omega)) rfl ?_
   iterate 7 first|refine Yp rfl ?_|refine S.store tOk rfl rfl rfl rfl rfl rfl rfl rfl ?_|apply Y4
   refine YE rfl rfl (enc_sg hsg) rfl ?_
   iterate 3 refine Yp rfl ?_
   refine S.store tOk rfl rfl rfl rfl rfl rfl rfl rfl ?_
   apply Yw
   exact ⟨_, rfl, rfl, LeG.refl _, (by rw [hx]; rfl), rfl, rfl⟩
  exact absurd c4 (by rw [c3]; simp)
 apply Y1
 iterate 2 refine Yp rfl ?_
 apply Yn
 refine W.cond rfl (fun c5=>?_) fun c5=>?_
 ·skip
  have hsg := sg_2 c5
  have hx := nx_sign hsk c2 hsg
  apply Yk
  apply Yn
  refine W.cond rfl (fun c6=>?_) fun c6=>?_
  ·skip
   apply Y1
   iterate 4 refine Yp rfl ?_
   refine YE rfl rfl (inc_i64 (by omega)) rfl ?_
   iterate 7 first|refine Yp rfl ?_|refine S.store tOk rfl rfl rfl rfl rfl rfl rfl rfl ?_|apply Y4
   refine YE rfl rfl (enc_sg hsg) rfl ?_
   iterate 3 refine Yp rfl ?_
   refine S.store tOk rfl rfl rfl rfl rfl rfl rfl rfl ?_
   apply Yw
   exact ⟨_, rfl, rfl, LeG.refl _, (by rw [hx]; rfl), rfl, rfl⟩
  exact absurd c6 (by rw [c5]; simp)
 apply Yr
 iterate 2 refine Yp rfl ?_
 apply Yn
 refine W.cond rfl (fun c7=>?_) fun c7=>?_
 ·skip
  have hsg := sg_3 c7
  have hx := nx_sign hsk c2 hsg
  apply Y1
  iterate 4 refine Yp rfl ?_
  refine YE rfl rfl (inc_i64 (by omega)) rfl ?_
  iterate 7 first|refine Yp rfl ?_|refine S.store tOk rfl rfl rfl rfl rfl rfl rfl rfl ?_|apply Y4
  refine YE rfl rfl (enc_sg hsg) rfl ?_
  iterate 3 refine Yp rfl ?_
  refine S.store tOk rfl rfl rfl rfl rfl rfl rfl rfl ?_
  apply Yw
  exact ⟨_, rfl, rfl, LeG.refl _, (by rw [hx]; rfl), rfl, rfl⟩
 have hns := sg_no c3 c5 c7
 apply Y1
 iterate 2 refine Yp rfl ?_
 apply Yn
 refine W.cond rfl (fun c8=>?_) fun c8=>?_
 ·skip
  have hq := u8i (c := s.getD i 0) (k := 34) c8
  apply Y1
  iterate 5 refine Yp rfl ?_
  refine S.call rfl rfl rfl rfl rfl (pc_ver_quotedAt s i hs (by omega)) ?_
  iterate 13 first|refine Yp rfl ?_|apply Y1|apply Yn|apply Ys
  refine W.cond rfl (fun c9=>?_) fun c9=>?_
  ·skip
   have hx := nx_bad hsk c2 hns hq (by simpa using c9)
   iterate 11 first|refine Yp rfl ?_|apply Yv|apply Yu|apply Yt|refine S.store tOk rfl rfl rfl rfl rfl rfl rfl rfl ?_|apply Y1|apply Yn
   exact ⟨_, rfl, rfl, LeG.refl _, (by rw [hx]; rfl), rfl, rfl⟩
  have hx := nx_text hsk c2 hns hq (by simpa using c9)
  iterate 16 first|refine Yp rfl ?_|refine S.store tOk rfl rfl rfl rfl rfl rfl rfl rfl ?_|apply Yw|apply Yk|apply Y4|apply Y3
  exact ⟨_, rfl, rfl, LeG.refl _, (by rw [hx]; rfl), rfl, rfl⟩
 have hq := u8i (c := s.getD i 0) (k := 34) c8
 apply Ys
 apply Yb
 refine W.loop (fun k st => ∃ j : Nat, i ≤ j ∧ j ≤ s.length ∧ wordE s j = wordE s i ∧ k = s.length - j ∧ ∃ t b2 r2 m2, st = ⟨t, [[.d (.str s), .d (.int .i64 (j : Int)), .d (.int .i64 (kd)), .d (.int .i64 (ta)), .d (.str tx), .d (.int .i64 w)]] ++ b2, [] ++ r2, [] ++ m2⟩ ∧ holdsL t [(0, .one (.ptr 0 0)), (2, .one (.d (.int .i64 (i : Int))))]) (s.length - i) ⟨i, Nat.le_refl _, f0_0, rfl, rfl, _, _, _, _, rfl, rfl, rfl, trivial⟩ ?_
 rintro k3 _ ⟨j, f3_0, f3_1, f3_2, rfl, t3, bb3, rr3, mm3, rfl, hh3⟩
 refine W.keepR _ _ _ _ _ _ _ hh3 rfl ?_
 apply Ys
 apply Ys
 refine W.regionD mixed (by kernel_rfl) ?_
 iterate 19 first|refine Ym rfl rfl ?_|refine Yy rfl rfl rfl tg ?_
 refine D.pureG tOk zOk rfl rfl rfl tg (fun h => gx (s := s) (i := j) h) rfl ?_
 refine D.callG rfl rfl rfl rfl tg rfl rfl (fun h => pc_ver_isBlank _) ?_
 refine Yy rfl rfl rfl tg ?_
 refine D.pickAnd tOk zOk rfl rfl tg ?_
 refine Ym rfl rfl ?_
 iterate 8 refine Yy rfl rfl rfl tg ?_
 refine D.pureG tOk zOk rfl rfl rfl tg (fun h => gx (s := s) (i := j) (andl h)) rfl ?_
 refine D.callG rfl rfl rfl rfl tg rfl rfl (fun h => pc_IndexByte _ _) ?_
 refine Yy rfl rfl rfl tg ?_
 refine D.pickAnd tOk zOk rfl rfl tg ?_
 apply Yn
 refine W.cond rfl (fun c10=>?_) fun c10=>?_
 ·skip
  have hj := wch_lt c10
  have hgo := word_go hj (wch_t c10) f3_2
  iterate 8 first|refine Yp rfl ?_|apply Yb|apply Yk|apply Yn|apply Yr
  refine YE rfl rfl (inc_i64 (by omega)) rfl ?_
  iterate 2 refine Yp rfl ?_
  refine S.store tOk rfl rfl rfl rfl rfl rfl rfl rfl ?_
  apply Yw
  refine loop_n (s.length - (j + 1)) (by omega) ⟨j + 1, by omega, hj, hgo, rfl, _, _, _, _, rfl, rfl, rfl, trivial⟩
 have hwe : wordE s i = j := wch_end f3_1 f3_2 c10
 have hx := nx_word hsk c2 hns hq hwe
 apply Yq
 apply Ye
 apply Ye
 apply Yx
 apply Yn
 refine W.regionD mixed (by kernel_rfl) ?_
 iterate 11 refine Ym rfl rfl ?_
 refine D.pure tOk zOk rfl rfl (sl_ok (by omega) (by omega) (by omega)) rfl ?_
 iterate 3 refine Ym rfl rfl ?_
 refine D.store tOk rfl rfl rfl rfl rfl rfl rfl rfl ?_
 apply Yw
 exact ⟨_, rfl, rfl, LeG.refl _, (by rw [hx]; rfl), rfl, rfl⟩
end
section
open Go
open Go.RowKit
attribute [local irreducible] thenK blockK W
attribute [local irreducible] rangeB pathB nameB valueB visit visits checkP quoteL qAt nextT skipB wordE takeT failT isT adv condT condG listG shortG longG moreG signT kindT
theorem pc_adv (s : List UInt8) (hs : s.length ≤ 4000) (q : PS) (hg : Gd s q.T) : HCall Tryz.prog J 59 [.one (.ptr 0 0)] [[.d (.str s), .d (.int .i64 ((hd (q).T).e : Int)), .d (.int .i64 (hd (q).T).k), .d (.int .i64 ((hd (q).T).a : Int)), .d (.str (hd (q).T).t), .d (.int .i64 (q).w)]] [] [] (isH (.tup []) [[.d (.str s), .d (.int .i64 ((hd (advS q).T).e : Int)), .d (.int .i64 (hd (advS q).T).k), .d (.int .i64 ((hd (advS q).T).a : Int)), .d (.str (hd (advS q).T).t), .d (.int .i64 (advS q).w)]] [] []) := by
 have h := pc_advance s (hd q.T).e (hd q.T).k ((hd q.T).a : Int) q.w (hd q.T).t hs (good_hd hg.1).2
 rw [(good_hd hg.1).1] at h
 exact h
theorem pc_is (s : List UInt8) (q : PS) (kd : Int) (x : List UInt8) :
  HCall Tryz.prog J 102 ([.one (.ptr 0 0), .one (.d (.int .i64 kd)), .one (.d (.str x))]) ([[.d (.str s), .d (.int .i64 ((hd (q).T).e : Int)), .d (.int .i64 (hd (q).T).k), .d (.int .i64 ((hd (q).T).a : Int)), .d (.str (hd (q).T).t), .d (.int .i64 (q).w)]]) ([]) ([]) (isH (.one (.d (.bool (isT kd x q)))) ([[.d (.str s), .d (.int .i64 ((hd (q).T).e : Int)), .d (.int .i64 (hd (q).T).k), .d (.int .i64 ((hd (q).T).a : Int)), .d (.str (hd (q).T).t), .d (.int .i64 (q).w)]]) ([]) ([])) := by
 refine HCall.ofD tOk ⟨1, 0, 0⟩ (fn := Tryz.f102) Tryz.func102 (by kernel_rfl) rfl (Nat.le_of_ble_eq_true rfl) (fun E => ?_)
 iterate 29 first|refine S.pickAnd tOk zOk rfl rfl tg ?_|refine Yg rfl rfl tg ?_|refine Yp rfl ?_|apply Yt|apply Y3|apply Y1|apply Yn
 exact ⟨_, rfl, rfl, LeG.of_force rfl (by unfold isT; rfl), rfl, rfl, rfl⟩
theorem pc_fail (s : List UInt8) (q : PS) (a : Int) :
  HCall Tryz.prog J 61 ([.one (.ptr 0 0), .one (.d (.int .i64 a))]) ([[.d (.str s), .d (.int .i64 ((hd (q).T).e : Int)), .d (.int .i64 (hd (q).T).k), .d (.int .i64 ((hd (q).T).a : Int)), .d (.str (hd (q).T).t), .d (.int .i64 (q).w)]]) ([]) ([]) (isH (.tup []) ([[.d (.str s), .d (.int .i64 ((hd (failT a q).T).e : Int)), .d (.int .i64 (hd (failT a q).T).k), .d (.int .i64 ((hd (failT a q).T).a : Int)), .d (.str (hd (failT a q).T).t), .d (.int .i64 (failT a q).w)]]) ([]) ([])) := by
 refine HCall.ofD tOk ⟨1, 0, 0⟩ (fn := Tryz.f61) Tryz.func61 (by kernel_rfl) rfl (Nat.le_of_ble_eq_true rfl) (fun E => ?_)
 apply Y1
 iterate 5 refine Yp rfl ?_
 apply Yn
 refine W.cond rfl (fun c1=>?_) fun c1=>?_
 ·skip
  apply Yr
  iterate 4 refine Yp rfl ?_
  refine S.store tOk rfl rfl rfl rfl rfl rfl rfl rfl ?_
  exact ⟨_, rfl, rfl, LeG.refl _, (by rw [show failT a q = ⟨q.T, a⟩ from fail_1 c1]; rfl), rfl, rfl⟩
 apply Yk
 exact ⟨_, rfl, rfl, LeG.refl _, (by rw [show failT a q = q from fail_0 c1]; rfl), rfl, rfl⟩
theorem pc_take (s : List UInt8) (hs : s.length ≤ 4000) (q : PS) (hg : Gd s q.T) (kd : Int) (x : List UInt8) :
  HCall Tryz.prog J 104 ([.one (.ptr 0 0), .one (.d (.int .i64 kd)), .one (.d (.str x))]) ([[.d (.str s), .d (.int .i64 ((hd (q).T).e : Int)), .d (.int .i64 (hd (q).T).k), .d (.int .i64 ((hd (q).T).a : Int)), .d (.str (hd (q).T).t), .d (.int .i64 (q).w)]]) ([]) ([]) (isH (.one (.d (.str (takeT kd x q).1))) ([[.d (.str s), .d (.int .i64 ((hd ((takeT kd x q).2).T).e : Int)), .d (.int .i64 (hd ((takeT kd x q).2).T).k), .d (.int .i64 ((hd ((takeT kd x q).2).T).a : Int)), .d (.str (hd ((takeT kd x q).2).T).t), .d (.int .i64 ((takeT kd x q).2).w)]]) ([]) ([])) := by
 refine HCall.ofD tOk ⟨1, 0, 0⟩ (fn := Tryz.f104) Tryz.func104 (by kernel_rfl) rfl (Nat.le_of_ble_eq_true rfl) (fun E => ?_)
 iterate 11 first|refine Yp rfl ?_|apply Y1|apply Yn|apply Ys
 refine W.cond rfl (fun c1=>?_) fun c1=>?_
 ·skip
  apply Y1
  refine Yp rfl ?_
  apply Yn
  apply Yt
  apply Yu
  exact ⟨_, rfl, rfl, LeG.of_force rfl (by rw [take_0 c1]; rfl), (by rw [take_0 c1]; rfl), rfl, rfl⟩
 iterate 25 first|refine S.pickOr tOk zOk rfl rfl tg ?_|refine S.pickAndG tOk zOk rfl rfl rfl tg tg ?_|refine Yg rfl rfl tg ?_|refine Yp rfl ?_|apply Yk|apply Y1|apply Yn|apply Ys
 refine W.cond rfl (fun c2=>?_) fun c2=>?_
 ·skip
  iterate 15 first|refine Yp rfl ?_|apply Yu|apply Yt|refine S.store tOk rfl rfl rfl rfl rfl rfl rfl rfl ?_|apply Y3|apply Y1|apply Yn
  exact ⟨_, rfl, rfl, LeG.of_force rfl (by rw [take_1 c1 c2]; rfl), (by rw [take_1 c1 c2]; rfl), rfl, rfl⟩
 apply Yk
 iterate 9 first|refine Yp rfl ?_|apply Y3
 refine S.hcallD rfl rfl rfl rfl ((pc_adv s hs q hg).fd [0] [] [] rfl) ?_
 apply Y3
 iterate 2 refine Yp rfl ?_
 apply Yn
 apply Yt
 exact ⟨_, rfl, rfl, LeG.of_force rfl (by rw [take_2 c1 c2]), (by rw [take_2 c1 c2]; rfl), rfl, rfl⟩
def CondC (s : List UInt8) (m : Nat) : Prop := ∀ (lv : Nat) (q : PS), lv + m = 100 → Gd s q.T → HCall Tryz.prog J 60 [.one (.ptr 0 0), .one (.d (.int .i64 (lv : Int)))] [[.d (.str s), .d (.int .i64 ((hd (q).T).e : Int)), .d (.int .i64 (hd (q).T).k), .d (.int .i64 ((hd (q).T).a : Int)), .d (.str (hd (q).T).t), .d (.int .i64 (q).w)]] [] [] (isH (ctV (condT m q).1) [[.d (.str s), .d (.int .i64 ((hd ((condT m q).2).T).e : Int)), .d (.int .i64 (hd ((condT m q).2).T).k), .d (.int .i64 ((hd ((condT m q).2).T).a : Int)), .d (.str (hd ((condT m q).2).T).t), .d (.int .i64 ((condT m q).2).w)]] [] [])
def ListC (s : List UInt8) (m : Nat) : Prop := ∀ (lv : Nat) (q : PS), lv + m = 100 → Gd s q.T → HCall Tryz.prog J 103 [.one (.ptr 0 0), .one (.d (.int .i64 (lv : Int)))] [[.d (.str s), .d (.int .i64 ((hd (q).T).e : Int)), .d (.int .i64 (hd (q).T).k), .d (.int .i64 ((hd (q).T).a : Int)), .d (.str (hd (q).T).t), .d (.int .i64 (q).w)]] [] [] (isH (ctV (listG (m == 0) (condF m) q).1) [[.d (.str s), .d (.int .i64 ((hd ((listG (m == 0) (condF m) q).2).T).e : Int)), .d (.int .i64 (hd ((listG (m == 0) (condF m) q).2).T).k), .d (.int .i64 ((hd ((listG (m == 0) (condF m) q).2).T).a : Int)), .d (.str (hd ((listG (m == 0) (condF m) q).2).T).t), .d (.int .i64 ((listG (m == 0) (condF m) q).2).w)]] [] [])
theorem step_n {n m lv : Nat} (h : lv + n = 100) (h2 : n = m + 1) : lv + 1 + m = 100 := by omega
theorem n_pos {n lv : Nat} (h : lv + n = 100) (h2 : decide ((lv : Int) ≥ 100) = false) : ∃ m, n = m + 1 := ⟨n - 1, by simp at h2; omega⟩
theorem n_zero {n lv : Nat} (h : lv + n = 100) (h2 : decide ((lv : Int) ≥ 100) = true) : n = 0 := by simp at h2; omega
theorem pc_conds (s : List UInt8) (hs : s.length ≤ 4000) (n : Nat) (il : ListC s n) (ih : ∀ m, n = m + 1 → CondC s m) (lv : Nat) (q : PS) (hl : lv + n = 100) (hg : Gd s q.T) :
  HCall Tryz.prog J 60 ([.one (.ptr 0 0), .one (.d (.int .i64 (lv : Int)))]) ([[.d (.str s), .d (.int .i64 ((hd (q).T).e : Int)), .d (.int .i64 (hd (q).T).k), .d (.int .i64 ((hd (q).T).a : Int)), .d (.str (hd (q).T).t), .d (.int .i64 (q).w)]]) ([]) ([]) (isH (ctV (condT n q).1) ([[.d (.str s), .d (.int .i64 ((hd ((condT n q).2).T).e : Int)), .d (.int .i64 (hd ((condT n q).2).T).k), .d (.int .i64 ((hd ((condT n q).2).T).a : Int)), .d (.str (hd ((condT n q).2).T).t), .d (.int .i64 ((condT n q).2).w)]]) ([]) ([])) := by
 refine HCall.ofD tOk ⟨1, 0, 0⟩ (fn := Tryz.f60) Tryz.func60 (by kernel_rfl) rfl (Nat.le_of_ble_eq_true rfl) (fun E => ?_)
 apply Y1
 refine S.alloc tOk rfl rfl rfl rfl ?_
 apply Yn
 apply Ys
 apply Y1
 refine Yp rfl ?_
 refine S.hcallD rfl rfl rfl rfl ((pc_is s q 3 [40]).fd [0] [] [] rfl) ?_
 apply Yn
 refine W.cond rfl (fun c1=>?_) fun c1=>?_
 ·skip
  apply Y1
  iterate 2 refine Yp rfl ?_
  refine S.hcallD rfl rfl rfl rfl ((il lv q hl hg).fd [0] [] [] rfl) ?_
  refine S.store tOk rfl rfl rfl rfl rfl rfl rfl rfl ?_
  apply Yn
  apply Yt
  apply Yu
  exact ⟨_, rfl, rfl, (by rw [condT_eq _ q, cg_list c1]; exact LeG.refl _), (by rw [condT_eq _ q, cg_list c1]; rfl), rfl, rfl⟩
 iterate 12 first|refine Yp rfl ?_|apply Yk|apply Y1|apply Y3|apply Ys|apply Yn
 refine S.hcallD rfl rfl rfl rfl ((pc_take s hs q hg 1 []).fd [0] [] [] rfl) ?_
 iterate 9 first|refine Yp rfl ?_|apply Yb|apply Y1|apply Y3|apply Yn
 refine W.cond rfl (fun c2=>?_) fun c2=>?_
 ·skip
  apply Y1
  refine Yp rfl ?_
  refine S.store tOk rfl rfl rfl rfl rfl rfl rfl rfl ?_
  apply Yn
  apply Yt
  apply Yv
  apply Yu
  exact ⟨_, rfl, rfl, (by rw [condT_eq _ q, cg_always c1 c2]; exact (LeG.aggLast _ _ _ 4)), (by rw [condT_eq _ q, cg_always c1 c2]; rfl), rfl, rfl⟩
 apply Ys
 apply Y1
 iterate 2 refine Yp rfl ?_
 apply Yn
 refine W.cond rfl (fun c3=>?_) fun c3=>?_
 ·skip
  apply Yk
  apply Yn
  refine W.cond rfl (fun c4=>?_) fun c4=>?_
  ·skip
   apply Y1
   refine Yp rfl ?_
   refine S.hcallD rfl rfl rfl rfl ((pc_take s hs (takeT 1 [] q).2 (hg.go (rch_take 1 [] q)) 1 []).fd [0] [] [] rfl) ?_
   iterate 9 first|refine Yp rfl ?_|refine S.store tOk rfl rfl rfl rfl rfl rfl rfl rfl ?_|refine S.alloc tOk rfl rfl rfl rfl ?_|apply Y1|apply Yn|apply Ys
   refine W.cond rfl (fun c5=>?_) fun c5=>?_
   ·skip
    exact absurd (fact_set c3) (by rw [show ((takeT 1 [] q).1 == wSetting) = true from c5]; simp)
   apply Yk
   apply Y3
   refine Yp rfl ?_
   refine S.hcallD rfl rfl rfl rfl ((pc_take s hs (takeT 1 [] (takeT 1 [] q).2).2 (Gd.go (hg.go (rch_take 1 [] q)) (rch_take 1 [] (takeT 1 [] q).2)) 3 [61]).fd [0] [] [] rfl) ?_
   apply Y3
   refine Yp rfl ?_
   refine S.hcallD rfl rfl rfl rfl ((pc_take s hs (takeT 3 [61] (takeT 1 [] (takeT 1 [] q).2).2).2 (Gd.go (Gd.go (hg.go (rch_take 1 [] q)) (rch_take 1 [] (takeT 1 [] q).2)) (rch_take 3 [61] (takeT 1 [] (takeT 1 [] q).2).2)) 2 []).fd [0] [] [] rfl) ?_
   iterate 9 first|refine S.store tOk rfl rfl rfl rfl rfl rfl rfl rfl ?_|refine Yp rfl ?_|apply Yu|apply Yv|apply Yt|apply Y3|apply Yn
   exact ⟨_, rfl, rfl, (by rw [condT_eq _ q, cg_fact c1 c2 c3 c5]; exact (LeG.aggLast _ _ _ 4)), (by rw [condT_eq _ q, cg_fact c1 c2 c3 c5]; rfl), rfl, rfl⟩
  exact absurd c4 (by rw [c3]; simp)
 apply Yr
 iterate 2 refine Yp rfl ?_
 apply Yn
 refine W.cond rfl (fun c6=>?_) fun c6=>?_
 ·skip
  apply Y1
  refine Yp rfl ?_
  refine S.hcallD rfl rfl rfl rfl ((pc_take s hs (takeT 1 [] q).2 (hg.go (rch_take 1 [] q)) 1 []).fd [0] [] [] rfl) ?_
  iterate 9 first|refine Yp rfl ?_|refine S.store tOk rfl rfl rfl rfl rfl rfl rfl rfl ?_|refine S.alloc tOk rfl rfl rfl rfl ?_|apply Y1|apply Yn|apply Ys
  refine W.cond rfl (fun c7=>?_) fun c7=>?_
  ·skip
   iterate 5 first|refine Yp rfl ?_|refine S.store tOk rfl rfl rfl rfl rfl rfl rfl rfl ?_|apply Y3|apply Yr
   refine S.hcallD rfl rfl rfl rfl ((pc_take s hs (takeT 1 [] (takeT 1 [] q).2).2 (Gd.go (hg.go (rch_take 1 [] q)) (rch_take 1 [] (takeT 1 [] q).2)) 3 [61]).fd [0] [] [] rfl) ?_
   apply Y3
   refine Yp rfl ?_
   refine S.hcallD rfl rfl rfl rfl ((pc_take s hs (takeT 3 [61] (takeT 1 [] (takeT 1 [] q).2).2).2 (Gd.go (Gd.go (hg.go (rch_take 1 [] q)) (rch_take 1 [] (takeT 1 [] q).2)) (rch_take 3 [61] (takeT 1 [] (takeT 1 [] q).2).2)) 2 []).fd [0] [] [] rfl) ?_
   iterate 9 first|refine S.store tOk rfl rfl rfl rfl rfl rfl rfl rfl ?_|refine Yp rfl ?_|apply Yu|apply Yv|apply Yt|apply Y3|apply Yn
   exact ⟨_, rfl, rfl, (by rw [condT_eq _ q, cg_setting c1 c2 c6]; exact (LeG.aggLast _ _ _ 4)), (by rw [condT_eq _ q, cg_setting c1 c2 c6]; rfl), rfl, rfl⟩
  exact absurd c7 (by rw [c6]; simp)
 apply Y1
 iterate 2 refine Yp rfl ?_
 apply Yn
 refine W.cond rfl (fun c8=>?_) fun c8=>?_
 ·skip
  apply Y1
  refine Yp rfl ?_
  refine S.hcallD rfl rfl rfl rfl ((pc_take s hs (takeT 1 [] q).2 (hg.go (rch_take 1 [] q)) 1 []).fd [0] [] [] rfl) ?_
  refine Yp rfl ?_
  refine S.store tOk rfl rfl rfl rfl rfl rfl rfl rfl ?_
  apply Yn
  apply Yt
  apply Yv
  apply Yu
  exact ⟨_, rfl, rfl, (by rw [condT_eq _ q, cg_has c1 c2 c3 c6 c8]; exact (LeG.aggLast _ _ _ 4)), (by rw [condT_eq _ q, cg_has c1 c2 c3 c6 c8]; rfl), rfl, rfl⟩
 apply Y1
 iterate 2 refine Yp rfl ?_
 apply Yn
 refine W.cond rfl (fun c9=>?_) fun c9=>?_
 ·skip
  apply Y1
  refine Yp rfl ?_
  refine S.hcallD rfl rfl rfl rfl ((pc_take s hs (takeT 1 [] q).2 (hg.go (rch_take 1 [] q)) 1 []).fd [0] [] [] rfl) ?_
  iterate 5 first|refine Yp rfl ?_|refine S.store tOk rfl rfl rfl rfl rfl rfl rfl rfl ?_|refine S.alloc tOk rfl rfl rfl rfl ?_|apply Y3
  refine S.hcallD rfl rfl rfl rfl ((pc_take s hs (takeT 1 [] (takeT 1 [] q).2).2 (Gd.go (hg.go (rch_take 1 [] q)) (rch_take 1 [] (takeT 1 [] q).2)) 1 wIn).fd [0] [] [] rfl) ?_
  apply Y3
  refine Yp rfl ?_
  refine S.hcallD rfl rfl rfl rfl ((pc_take s hs (takeT 1 wIn (takeT 1 [] (takeT 1 [] q).2).2).2 (Gd.go (Gd.go (hg.go (rch_take 1 [] q)) (rch_take 1 [] (takeT 1 [] q).2)) (rch_take 1 wIn (takeT 1 [] (takeT 1 [] q).2).2)) 2 []).fd [0] [] [] rfl) ?_
  iterate 9 first|refine S.store tOk rfl rfl rfl rfl rfl rfl rfl rfl ?_|refine Yp rfl ?_|apply Yu|apply Yv|apply Yt|apply Y3|apply Yn
  exact ⟨_, rfl, rfl, (by rw [condT_eq _ q, cg_version c1 c2 c3 c6 c8 c9]; exact (LeG.aggLast _ _ _ 4)), (by rw [condT_eq _ q, cg_version c1 c2 c3 c6 c8 c9]; rfl), rfl, rfl⟩
 apply Y1
 iterate 2 refine Yp rfl ?_
 apply Yn
 refine W.cond rfl (fun c10=>?_) fun c10=>?_
 ·skip
  apply Ys
  apply Y1
  iterate 2 refine Yp rfl ?_
  apply Yn
  refine W.cond rfl (fun c11=>?_) fun c11=>?_
  ·skip
   obtain rfl := n_zero hl c11
   apply Y1
   iterate 2 refine Yp rfl ?_
   refine S.hcallD rfl rfl rfl rfl ((pc_fail s (takeT 1 [] q).2 ((hd q.T).a : Int)).fd [0] [] [] rfl) ?_
   iterate 8 first|apply Yu|apply Yv|apply Yt|refine S.store tOk rfl rfl rfl rfl rfl rfl rfl rfl ?_|refine Yp rfl ?_|apply Y3|apply Yn
   exact ⟨_, rfl, rfl, (by rw [condT_eq _ q, cg_not0 (b := (0 == 0)) c1 c2 c3 c6 c8 c9 c10 rfl]; exact (LeG.aggLast _ _ _ 4)), (by rw [condT_eq _ q, cg_not0 (b := (0 == 0)) c1 c2 c3 c6 c8 c9 c10 rfl]; rfl), rfl, rfl⟩
  obtain ⟨m, rfl⟩ := n_pos hl c11
  apply Yk
  apply Y3
  iterate 2 refine Yp rfl ?_
  refine YE rfl rfl (inc_i64 (by omega)) rfl ?_
  refine S.hcallD rfl rfl rfl rfl ((ih m rfl (lv + 1) (takeT 1 [] q).2 (step_n hl rfl) (hg.go (rch_take 1 [] q))).fd [0] [] [] rfl) ?_
  refine S.slice tOk rfl rfl ?_
  refine Yp rfl ?_
  refine S.store tOk rfl rfl rfl rfl rfl rfl rfl rfl ?_
  apply Yn
  apply Yt
  apply Yv
  apply Yu
  exact ⟨_, rfl, rfl, (by rw [condT_eq _ q, cg_not (b := (m + 1 == 0)) c1 c2 c3 c6 c8 c9 c10 rfl]; exact LeG.of_force rfl (not_v 6 _)), (by rw [condT_eq _ q, cg_not (b := (m + 1 == 0)) c1 c2 c3 c6 c8 c9 c10 rfl]; rfl), rfl, rfl⟩
 apply Yk
 apply Yw
 apply Y3
 iterate 2 refine Yp rfl ?_
 refine S.hcallD rfl rfl rfl rfl ((pc_fail s (takeT 1 [] q).2 ((hd q.T).a : Int)).fd [0] [] [] rfl) ?_
 apply Y3
 refine Yp rfl ?_
 refine S.store tOk rfl rfl rfl rfl rfl rfl rfl rfl ?_
 apply Yn
 apply Yt
 exact ⟨_, rfl, rfl, (by rw [condT_eq _ q, cg_else c1 c2 c3 c6 c8 c9 c10]; exact (LeG.aggLast _ _ _ 4)), (by rw [condT_eq _ q, cg_else c1 c2 c3 c6 c8 c9 c10]; rfl), rfl, rfl⟩
end
section
open Go
open Go.RowKit
attribute [local irreducible] thenK blockK W
attribute [local irreducible] rangeB pathB nameB valueB visit visits checkP quoteL qAt nextT skipB wordE takeT failT isT adv condT condG listG shortG longG moreG signT
theorem pc_lists (s : List UInt8) (hs : s.length ≤ 4000) (n : Nat) (ih : ∀ m, n = m + 1 → CondC s m) (lv : Nat) (q : PS) (hl : lv + n = 100) (hg : Gd s q.T) :
  HCall Tryz.prog J 103 ([.one (.ptr 0 0), .one (.d (.int .i64 (lv : Int)))]) ([[.d (.str s), .d (.int .i64 ((hd (q).T).e : Int)), .d (.int .i64 (hd (q).T).k), .d (.int .i64 ((hd (q).T).a : Int)), .d (.str (hd (q).T).t), .d (.int .i64 (q).w)]]) ([]) ([]) (isH (ctV (listG (n == 0) (condF n) q).1) ([[.d (.str s), .d (.int .i64 ((hd ((listG (n == 0) (condF n) q).2).T).e : Int)), .d (.int .i64 (hd ((listG (n == 0) (condF n) q).2).T).k), .d (.int .i64 ((hd ((listG (n == 0) (condF n) q).2).T).a : Int)), .d (.str (hd ((listG (n == 0) (condF n) q).2).T).t), .d (.int .i64 ((listG (n == 0) (condF n) q).2).w)]]) ([]) ([])) := by
 refine HCall.ofD tOk ⟨1, 0, 0⟩ (fn := Tryz.f103) Tryz.func103 (by kernel_rfl) rfl (Nat.le_of_ble_eq_true rfl) (fun E => ?_)
 iterate 8 first|refine Yp rfl ?_|refine S.alloc tOk rfl rfl rfl rfl ?_|apply Y1|apply Yn|apply Ys
 refine W.cond rfl (fun c1=>?_) fun c1=>?_
 ·skip
  obtain rfl := n_zero hl c1
  apply Y1
  iterate 6 refine Yp rfl ?_
  refine S.hcallD rfl rfl rfl rfl ((pc_fail s q ((hd q.T).a : Int)).fd [0] [] [] rfl) ?_
  apply Y3
  refine Yp rfl ?_
  refine S.store tOk rfl rfl rfl rfl rfl rfl rfl rfl ?_
  apply Yn
  apply Yt
  apply Yu
  exact ⟨_, rfl, rfl, (by rw [show listG (0 == 0) (condF 0) q = _ from lg_last]; exact (LeG.aggLast _ _ _ 4)), (by rw [show listG (0 == 0) (condF 0) q = _ from lg_last]; rfl), rfl, rfl⟩
 obtain ⟨m, rfl⟩ := n_pos hl c1
 apply Yk
 apply Y3
 refine Yp rfl ?_
 refine S.hcallD rfl rfl rfl rfl ((pc_take s hs q hg 3 [40]).fd [0] [] [] rfl) ?_
 iterate 7 first|refine Yp rfl ?_|apply Yb|apply Y1|apply Yn|apply Ys
 refine W.rounds 3 ?_
 refine WR.succ ?_
 apply Y1
 refine Yp rfl ?_
 apply Yn
 apply Ys
 refine W.condT rfl rfl ?_
 apply Yk
 apply Yn
 apply Ys
 apply Yb
 apply Y1
 refine YP rfl (by first | rfl | exact idx_ok (by omega) (by omega)) rfl ?_
 iterate 6 first|refine Yp rfl ?_|apply Y1|apply Ys|apply Yn
 refine S.hcallD rfl rfl rfl rfl ((pc_is s (takeT 3 [40] q).2 1 [97, 110, 100]).fd [0] [] [] rfl) ?_
 refine Yp rfl ?_
 apply Yn
 refine W.cond rfl (fun c3=>?_) fun c3=>?_
 ·skip
  iterate 7 first|refine Yp rfl ?_|apply Yx|apply Ye|apply Yq|apply Y4|apply Yn
  refine WR.succ ?_
  apply Y1
  refine Yp rfl ?_
  apply Yn
  apply Ys
  refine W.condT rfl rfl ?_
  apply Yk
  apply Yn
  apply Ys
  apply Yb
  apply Y1
  refine YP rfl (by first | rfl | exact idx_ok (by omega) (by omega)) rfl ?_
  iterate 6 first|refine Yp rfl ?_|apply Y1|apply Ys|apply Yn
  refine S.hcallD rfl rfl rfl rfl ((pc_is s (takeT 3 [40] q).2 1 [111, 114]).fd [0] [] [] rfl) ?_
  refine Yp rfl ?_
  apply Yn
  refine W.cond rfl (fun c5=>?_) fun c5=>?_
  ·skip
   iterate 7 first|refine Yp rfl ?_|apply Yx|apply Ye|apply Yq|apply Y4|apply Yn
   refine WR.succ ?_
   apply Y1
   refine Yp rfl ?_
   apply Yn
   apply Ys
   refine W.condF rfl rfl ?_
   iterate 7 first|refine Yp rfl ?_|apply Ye|apply Yx|apply Yq|apply Y3
   refine YE rfl rfl (inc_i64 (by omega)) rfl ?_
   refine S.hcallD rfl rfl rfl rfl ((ih m rfl (lv + 1) (takeT 3 [40] q).2 (step_n hl rfl) (hg.go (rch_take 3 [40] q))).fd [0] [] [] rfl) ?_
   refine S.sliceOwn (xs := [(condT m (takeT 3 [40] q).2).1].map CT.d) tOk rfl rfl rfl (Eq.trans rfl (ct_some (condT m (takeT 3 [40] q).2).1)) rfl rfl ?_
   iterate 32 first|refine S.pickAndG tOk zOk rfl rfl rfl tg tg ?_|refine Yp rfl ?_|refine Yg rfl rfl tg ?_|refine S.store tOk rfl rfl rfl rfl rfl rfl rfl rfl ?_|refine S.alloc tOk rfl rfl rfl rfl ?_|apply Y1|apply Y3|apply Ys|apply Yn
   refine S.pickOrG tOk zOk rfl rfl rfl tg tg ?_
   refine S.pickAnd tOk zOk rfl rfl tg ?_
   apply Yn
   refine W.cond rfl (fun c7=>?_) fun c7=>?_
   ·skip
    have hgs : Gd s (signT (condT m (takeT 3 [40] q).2).2).T := ((hg.go (rch_take 3 [40] q)).go (rch_condT m (takeT 3 [40] q).2)).go (rch_sign _)
    have hsl : (signT (condT m (takeT 3 [40] q).2).2).T.length < (hd (condT m (takeT 3 [40] q).2).2.T :: (condT m (takeT 3 [40] q).2).2.T).length := Nat.lt_succ_of_le (rch_sign _).len
    have hst := hgs.2
    have hsg := sign_1 c7
    apply Yr
    iterate 6 refine Yp rfl ?_
    refine S.hcallD rfl rfl rfl rfl ((pc_fail s (condT m (takeT 3 [40] q).2).2 ((hd (condT m (takeT 3 [40] q).2).2.T).a : Int)).fd [0] [] [] rfl) ?_
    apply Y3
    refine Yp rfl ?_
    refine S.call rfl rfl rfl rfl rfl (pc_ver_kindOf (hd (condT m (takeT 3 [40] q).2).2.T).t) ?_
    refine Yp rfl ?_
    refine S.store tOk rfl rfl rfl rfl rfl rfl rfl rfl ?_
    apply Yn
    apply Ys
    apply Yb
    refine W.loop (fun k st => ∃ u : Nat, ∃ l : List CT, ∃ p : PS, ∃ v : Nat, Gd s p.T ∧ moreG (condT m) (hd (condT m (takeT 3 [40] q).2).2.T).t u l p = moreG (condT m) (hd (condT m (takeT 3 [40] q).2).2.T).t (hd (condT m (takeT 3 [40] q).2).2.T :: (condT m (takeT 3 [40] q).2).2.T).length [(condT m (takeT 3 [40] q).2).1] (signT (condT m (takeT 3 [40] q).2).2) ∧ p.T.length < u ∧ l.length + p.T.length ≤ 6000 ∧ k = 2 * u ∧ ∃ t b2 r2 m2, st = ⟨t, [[.d (.str s), .d (.int .i64 ((hd (p).T).e : Int)), .d (.int .i64 (hd (p).T).k), .d (.int .i64 ((hd (p).T).a : Int)), .d (.str (hd (p).T).t), .d (.int .i64 (p).w)], [.d (.int .i64 0), .d (.str []), .d (.str []), .d .nilsl], [.d (.int .i64 (kindT (hd (condT m (takeT 3 [40] q).2).2.T).t)), .d (.str []), .d (.str []), .row 0 v 0 (l.map CT.d).length]] ++ b2, [some ⟨true, v, 4, 24, l.map CT.d⟩] ++ r2, [] ++ m2⟩ ∧ holdsL t [(0, .one (.ptr 0 0)), (1, .one (.d (.int .i64 (lv : Int)))), (4, .one (.ptr 1 0)), (8, .one (.ptr 2 0)), (9, .one (.d (.str (hd (condT m (takeT 3 [40] q).2).2.T).t)))]) (2 * (hd (condT m (takeT 3 [40] q).2).2.T :: (condT m (takeT 3 [40] q).2).2.T).length) ⟨(hd (condT m (takeT 3 [40] q).2).2.T :: (condT m (takeT 3 [40] q).2).2.T).length, [(condT m (takeT 3 [40] q).2).1], _, 0, (by rw [hsg] at hgs; exact hgs), (by rw [hsg]), (by rw [hsg] at hsl; exact hsl), (by rw [hsg] at hst; simp; omega), rfl, _, _, _, _, rfl, rfl, rfl, rfl, rfl, rfl, trivial⟩ ?_
    rintro k2 _ ⟨u, l, p, v, f2_0, f2_1, f2_2, f2_3, rfl, t2, bb2, rr2, mm2, rfl, hh2⟩
    refine W.keepR _ _ _ _ _ _ _ hh2 rfl ?_
    iterate 4 first|refine Yp rfl ?_|apply Y1|apply Ys
    refine S.hcallD rfl rfl rfl rfl ((pc_is s p 1 (hd (condT m (takeT 3 [40] q).2).2.T).t).fd [0] [] [] rfl) ?_
    apply Yn
    refine W.cond rfl (fun c8=>?_) fun c8=>?_
    ·skip
     have hsh := adv_short f2_0.1 c8
     have hcl := (rch_condT m (advS p)).len
     have cl := c8
     iterate 5 first|refine Yp rfl ?_|apply Yb|apply Yk|apply Y1|apply Yn
     refine S.hcallD rfl rfl rfl rfl ((pc_adv s hs p f2_0).fd [0] [] [] rfl) ?_
     apply Yn
     refine W.regionS 7 mixed rfl (by kernel_rfl) ?_
     refine AnyZ.eager 0 rfl (by kernel_rfl) (Eag.pure tOk zOk rfl (fun _ _ _ => rfl) rfl rfl) ?_
     refine AnyZ.eager 2 rfl (by kernel_rfl) (Eag.pure tOk zOk rfl (fun _ _ _ => rfl) rfl rfl) ?_
     refine AnyZ.eager 3 rfl (by kernel_rfl) (Eag.pure tOk zOk rfl (fun _ _ _ => rfl) rfl rfl) ?_
     refine AnyZ.eager 4 rfl (by kernel_rfl) (Eag.pure tOk zOk rfl (fun _ _ _ => congrArg (fun x => some (_, x)) (inc_i64 (by omega))) rfl rfl) ?_
     refine AnyZ.two 1 5 (by kernel_rfl) rfl rfl ?_ ?_
     ·skip
      refine OpZ.d ?_
      refine Ym rfl rfl ?_
      refine WD.nil ?_
      refine AnyZ.one 5 (by kernel_rfl) rfl ?_
      refine OpZ.hcall rfl rfl rfl rfl ((ih m rfl (lv + 1) (advS p) (step_n hl rfl) (f2_0.go (rch_adv p))).fd [0] [] [] rfl) ?_
      refine AnyZ.one 6 (by kernel_rfl) rfl ?_
      refine OpZ.d ?_
      refine D.slice tOk rfl rfl ?_
      refine WD.nil ?_
      refine AnyZ.nil (by kernel_rfl) ?_
      refine S.append tOk rfl rfl rfl rfl rfl rfl rfl rfl rfl rfl rfl rfl (by show (l.map CT.d).length + 1 ≤ _; rw [List.length_map]; omega) rfl (ct_snoc l _) rfl ?_
      refine Yp rfl ?_
      refine S.store tOk rfl rfl rfl rfl rfl rfl rfl rfl ?_
      apply Yw
      refine loop_n (2 * (u - 1)) (by omega) ⟨u - 1, _, _, _, ((f2_0.go (rch_adv p)).go (rch_condT m _)), mo_go (by omega) cl f2_1, by omega, (by simp; omega), rfl, _, _, _, _, rfl, rfl, rfl, rfl, rfl, rfl, trivial⟩
     refine OpZ.hcall rfl rfl rfl rfl ((ih m rfl (lv + 1) (advS p) (step_n hl rfl) (f2_0.go (rch_adv p))).fd [0] [] [] rfl) ?_
     refine AnyZ.two 1 6 (by kernel_rfl) rfl rfl ?_ ?_
     ·skip
      refine OpZ.d ?_
      refine Ym rfl rfl ?_
      refine WD.nil ?_
      refine AnyZ.one 6 (by kernel_rfl) rfl ?_
      refine OpZ.d ?_
      refine D.slice tOk rfl rfl ?_
      refine WD.nil ?_
      refine AnyZ.nil (by kernel_rfl) ?_
      refine S.append tOk rfl rfl rfl rfl rfl rfl rfl rfl rfl rfl rfl rfl (by show (l.map CT.d).length + 1 ≤ _; rw [List.length_map]; omega) rfl (ct_snoc l _) rfl ?_
      refine Yp rfl ?_
      refine S.store tOk rfl rfl rfl rfl rfl rfl rfl rfl ?_
      apply Yw
      refine loop_n (2 * (u - 1)) (by omega) ⟨u - 1, _, _, _, ((f2_0.go (rch_adv p)).go (rch_condT m _)), mo_go (by omega) cl f2_1, by omega, (by simp; omega), rfl, _, _, _, _, rfl, rfl, rfl, rfl, rfl, rfl, trivial⟩
     refine OpZ.d ?_
     refine D.slice tOk rfl rfl ?_
     refine WD.nil ?_
     refine AnyZ.one 1 (by kernel_rfl) rfl ?_
     refine OpZ.d ?_
     refine Ym rfl rfl ?_
     refine WD.nil ?_
     refine AnyZ.nil (by kernel_rfl) ?_
     refine S.append tOk rfl rfl rfl rfl rfl rfl rfl rfl rfl rfl rfl rfl (by show (l.map CT.d).length + 1 ≤ _; rw [List.length_map]; omega) rfl (ct_snoc l _) rfl ?_
     refine Yp rfl ?_
     refine S.store tOk rfl rfl rfl rfl rfl rfl rfl rfl ?_
     apply Yw
     refine loop_n (2 * (u - 1)) (by omega) ⟨u - 1, _, _, _, ((f2_0.go (rch_adv p)).go (rch_condT m _)), mo_go (by omega) cl f2_1, by omega, (by simp; omega), rfl, _, _, _, _, rfl, rfl, rfl, rfl, rfl, rfl, trivial⟩
    have hM := mo_stop c8 f2_1
    iterate 6 first|apply Ye|apply Yx|apply Yq|apply Ys|apply Yn
    refine W.freezeB (ri := 0) (q := ⟨_, _, _, _, _⟩) 2 3 rfl rfl rfl rfl ?_
    apply Yr
    refine Yp rfl ?_
    refine S.hcallD rfl rfl rfl rfl ((pc_take s hs p f2_0 3 [41]).fd [0] [] [] rfl) ?_
    apply Y3
    refine Yp rfl ?_
    refine S.store tOk rfl rfl rfl rfl rfl rfl rfl rfl ?_
    apply Yn
    apply Yt
    exact ⟨_, rfl, rfl, (by rw [show listG (m + 1 == 0) (condF (m + 1)) q = longG (condT m) (takeT 3 [40] q).2 from lg_long c3 c5, lo_eq hM]; exact LeG.of_force rfl (long_v _ _)), (by rw [show listG (m + 1 == 0) (condF (m + 1)) q = longG (condT m) (takeT 3 [40] q).2 from lg_long c3 c5, lo_eq hM]; rfl), rfl, rfl⟩
   have hgs : Gd s (signT (condT m (takeT 3 [40] q).2).2).T := ((hg.go (rch_take 3 [40] q)).go (rch_condT m (takeT 3 [40] q).2)).go (rch_sign _)
   have hsl : (signT (condT m (takeT 3 [40] q).2).2).T.length < (hd (condT m (takeT 3 [40] q).2).2.T :: (condT m (takeT 3 [40] q).2).2.T).length := Nat.lt_succ_of_le (rch_sign _).len
   have hst := hgs.2
   have hsg := sign_0 c7
   apply Yk
   apply Y3
   refine Yp rfl ?_
   refine S.call rfl rfl rfl rfl rfl (pc_ver_kindOf (hd (condT m (takeT 3 [40] q).2).2.T).t) ?_
   refine Yp rfl ?_
   refine S.store tOk rfl rfl rfl rfl rfl rfl rfl rfl ?_
   apply Yn
   apply Ys
   apply Yb
   refine W.loop (fun k st => ∃ u : Nat, ∃ l : List CT, ∃ p : PS, ∃ v : Nat, Gd s p.T ∧ moreG (condT m) (hd (condT m (takeT 3 [40] q).2).2.T).t u l p = moreG (condT m) (hd (condT m (takeT 3 [40] q).2).2.T).t (hd (condT m (takeT 3 [40] q).2).2.T :: (condT m (takeT 3 [40] q).2).2.T).length [(condT m (takeT 3 [40] q).2).1] (signT (condT m (takeT 3 [40] q).2).2) ∧ p.T.length < u ∧ l.length + p.T.length ≤ 6000 ∧ k = 2 * u ∧ ∃ t b2 r2 m2, st = ⟨t, [[.d (.str s), .d (.int .i64 ((hd (p).T).e : Int)), .d (.int .i64 (hd (p).T).k), .d (.int .i64 ((hd (p).T).a : Int)), .d (.str (hd (p).T).t), .d (.int .i64 (p).w)], [.d (.int .i64 0), .d (.str []), .d (.str []), .d .nilsl], [.d (.int .i64 (kindT (hd (condT m (takeT 3 [40] q).2).2.T).t)), .d (.str []), .d (.str []), .row 0 v 0 (l.map CT.d).length]] ++ b2, [some ⟨true, v, 4, 24, l.map CT.d⟩] ++ r2, [] ++ m2⟩ ∧ holdsL t [(0, .one (.ptr 0 0)), (1, .one (.d (.int .i64 (lv : Int)))), (4, .one (.ptr 1 0)), (8, .one (.ptr 2 0)), (9, .one (.d (.str (hd (condT m (takeT 3 [40] q).2).2.T).t)))]) (2 * (hd (condT m (takeT 3 [40] q).2).2.T :: (condT m (takeT 3 [40] q).2).2.T).length) ⟨(hd (condT m (takeT 3 [40] q).2).2.T :: (condT m (takeT 3 [40] q).2).2.T).length, [(condT m (takeT 3 [40] q).2).1], _, 0, (by rw [hsg] at hgs; exact hgs), (by rw [hsg]), (by rw [hsg] at hsl; exact hsl), (by rw [hsg] at hst; simp; omega), rfl, _, _, _, _, rfl, rfl, rfl, rfl, rfl, rfl, trivial⟩ ?_
   rintro k2 _ ⟨u, l, p, v, f2_0, f2_1, f2_2, f2_3, rfl, t2, bb2, rr2, mm2, rfl, hh2⟩
   refine W.keepR _ _ _ _ _ _ _ hh2 rfl ?_
   apply Ys
   apply Y1
   iterate 2 refine Yp rfl ?_
   refine S.hcallD rfl rfl rfl rfl ((pc_is s p 1 (hd (condT m (takeT 3 [40] q).2).2.T).t).fd [0] [] [] rfl) ?_
   apply Yn
   refine W.cond rfl (fun c9=>?_) fun c9=>?_
   ·skip
    have hsh := adv_short f2_0.1 c9
    have hcl := (rch_condT m (advS p)).len
    have cl := c9
    apply Yk
    apply Yn
    apply Yb
    apply Y1
    refine Yp rfl ?_
    refine S.hcallD rfl rfl rfl rfl ((pc_adv s hs p f2_0).fd [0] [] [] rfl) ?_
    apply Yn
    refine W.regionS 7 mixed rfl (by kernel_rfl) ?_
    refine AnyZ.eager 0 rfl (by kernel_rfl) (Eag.pure tOk zOk rfl (fun _ _ _ => rfl) rfl rfl) ?_
    refine AnyZ.eager 2 rfl (by kernel_rfl) (Eag.pure tOk zOk rfl (fun _ _ _ => rfl) rfl rfl) ?_
    refine AnyZ.eager 3 rfl (by kernel_rfl) (Eag.pure tOk zOk rfl (fun _ _ _ => rfl) rfl rfl) ?_
    refine AnyZ.eager 4 rfl (by kernel_rfl) (Eag.pure tOk zOk rfl (fun _ _ _ => congrArg (fun x => some (_, x)) (inc_i64 (by omega))) rfl rfl) ?_
    refine AnyZ.two 1 5 (by kernel_rfl) rfl rfl ?_ ?_
    ·skip
     refine OpZ.d ?_
     refine Ym rfl rfl ?_
     refine WD.nil ?_
     refine AnyZ.one 5 (by kernel_rfl) rfl ?_
     refine OpZ.hcall rfl rfl rfl rfl ((ih m rfl (lv + 1) (advS p) (step_n hl rfl) (f2_0.go (rch_adv p))).fd [0] [] [] rfl) ?_
     refine AnyZ.one 6 (by kernel_rfl) rfl ?_
     refine OpZ.d ?_
     refine D.slice tOk rfl rfl ?_
     refine WD.nil ?_
     refine AnyZ.nil (by kernel_rfl) ?_
     refine S.append tOk rfl rfl rfl rfl rfl rfl rfl rfl rfl rfl rfl rfl (by show (l.map CT.d).length + 1 ≤ _; rw [List.length_map]; omega) rfl (ct_snoc l _) rfl ?_
     refine Yp rfl ?_
     refine S.store tOk rfl rfl rfl rfl rfl rfl rfl rfl ?_
     apply Yw
     refine loop_n (2 * (u - 1)) (by omega) ⟨u - 1, _, _, _, ((f2_0.go (rch_adv p)).go (rch_condT m _)), mo_go (by omega) cl f2_1, by omega, (by simp; omega), rfl, _, _, _, _, rfl, rfl, rfl, rfl, rfl, rfl, trivial⟩
    refine OpZ.hcall rfl rfl rfl rfl ((ih m rfl (lv + 1) (advS p) (step_n hl rfl) (f2_0.go (rch_adv p))).fd [0] [] [] rfl) ?_
    refine AnyZ.two 1 6 (by kernel_rfl) rfl rfl ?_ ?_
    ·skip
     refine OpZ.d ?_
     refine Ym rfl rfl ?_
     refine WD.nil ?_
     refine AnyZ.one 6 (by kernel_rfl) rfl ?_
     refine OpZ.d ?_
     refine D.slice tOk rfl rfl ?_
     refine WD.nil ?_
     refine AnyZ.nil (by kernel_rfl) ?_
     refine S.append tOk rfl rfl rfl rfl rfl rfl rfl rfl rfl rfl rfl rfl (by show (l.map CT.d).length + 1 ≤ _; rw [List.length_map]; omega) rfl (ct_snoc l _) rfl ?_
     refine Yp rfl ?_
     refine S.store tOk rfl rfl rfl rfl rfl rfl rfl rfl ?_
     apply Yw
     refine loop_n (2 * (u - 1)) (by omega) ⟨u - 1, _, _, _, ((f2_0.go (rch_adv p)).go (rch_condT m _)), mo_go (by omega) cl f2_1, by omega, (by simp; omega), rfl, _, _, _, _, rfl, rfl, rfl, rfl, rfl, rfl, trivial⟩
    refine OpZ.d ?_
    refine D.slice tOk rfl rfl ?_
    refine WD.nil ?_
    refine AnyZ.one 1 (by kernel_rfl) rfl ?_
    refine OpZ.d ?_
    refine Ym rfl rfl ?_
    refine WD.nil ?_
    refine AnyZ.nil (by kernel_rfl) ?_
    refine S.append tOk rfl rfl rfl rfl rfl rfl rfl rfl rfl rfl rfl rfl (by show (l.map CT.d).length + 1 ≤ _; rw [List.length_map]; omega) rfl (ct_snoc l _) rfl ?_
    refine Yp rfl ?_
    refine S.store tOk rfl rfl rfl rfl rfl rfl rfl rfl ?_
    apply Yw
    refine loop_n (2 * (u - 1)) (by omega) ⟨u - 1, _, _, _, ((f2_0.go (rch_adv p)).go (rch_condT m _)), mo_go (by omega) cl f2_1, by omega, (by simp; omega), rfl, _, _, _, _, rfl, rfl, rfl, rfl, rfl, rfl, trivial⟩
   have hM := mo_stop c9 f2_1
   iterate 6 first|apply Ye|apply Yx|apply Yq|apply Ys|apply Yn
   refine W.freezeB (ri := 0) (q := ⟨_, _, _, _, _⟩) 2 3 rfl rfl rfl rfl ?_
   apply Yr
   refine Yp rfl ?_
   refine S.hcallD rfl rfl rfl rfl ((pc_take s hs p f2_0 3 [41]).fd [0] [] [] rfl) ?_
   apply Y3
   refine Yp rfl ?_
   refine S.store tOk rfl rfl rfl rfl rfl rfl rfl rfl ?_
   apply Yn
   apply Yt
   exact ⟨_, rfl, rfl, (by rw [show listG (m + 1 == 0) (condF (m + 1)) q = longG (condT m) (takeT 3 [40] q).2 from lg_long c3 c5, lo_eq hM]; exact LeG.of_force rfl (long_v _ _)), (by rw [show listG (m + 1 == 0) (condF (m + 1)) q = longG (condT m) (takeT 3 [40] q).2 from lg_long c3 c5, lo_eq hM]; rfl), rfl, rfl⟩
  apply Yk
  apply Y3
  refine Yp rfl ?_
  refine S.hcallD rfl rfl rfl rfl ((pc_adv s hs (takeT 3 [40] q).2 (hg.go (rch_take 3 [40] q))).fd [0] [] [] rfl) ?_
  apply Y3
  refine Yp rfl ?_
  refine S.call rfl rfl rfl rfl rfl (pc_ver_kindOf [111, 114]) ?_
  iterate 7 first|refine Yp rfl ?_|refine S.store tOk rfl rfl rfl rfl rfl rfl rfl rfl ?_|refine S.alloc tOk rfl rfl rfl rfl ?_|apply Y1|apply Ys|apply Yn
  refine S.hcallD rfl rfl rfl rfl ((pc_is s (advS (takeT 3 [40] q).2) 3 [41]).fd [0] [] [] rfl) ?_
  refine Yp rfl ?_
  apply Yn
  refine W.cond rfl (fun c10=>?_) fun c10=>?_
  ·skip
   apply Yr
   iterate 2 refine Yp rfl ?_
   refine YE rfl rfl (inc_i64 (by omega)) rfl ?_
   refine S.hcallD rfl rfl rfl rfl ((ih m rfl (lv + 1) (advS (takeT 3 [40] q).2) (step_n hl rfl) ((hg.go (rch_take 3 [40] q)).go (rch_adv (takeT 3 [40] q).2))).fd [0] [] [] rfl) ?_
   refine S.slice tOk rfl rfl ?_
   iterate 4 first|refine Yp rfl ?_|refine S.store tOk rfl rfl rfl rfl rfl rfl rfl rfl ?_|apply Y3
   refine S.hcallD rfl rfl rfl rfl ((pc_take s hs (condT m (advS (takeT 3 [40] q).2)).2 (((hg.go (rch_take 3 [40] q)).go (rch_adv (takeT 3 [40] q).2)).go (rch_condT m (advS (takeT 3 [40] q).2))) 3 [41]).fd [0] [] [] rfl) ?_
   iterate 10 first|apply Yu|apply Yv|apply Yt|refine S.store tOk rfl rfl rfl rfl rfl rfl rfl rfl ?_|refine Yp rfl ?_|apply Y3|apply Yn
   exact ⟨_, rfl, rfl, (by rw [show listG (m + 1 == 0) (condF (m + 1)) q = shortG (condT m) 8 (advS (takeT 3 [40] q).2) from lg_or c3 c5, sh_1 c10]; exact LeG.of_force rfl (not_v 8 _)), (by rw [show listG (m + 1 == 0) (condF (m + 1)) q = shortG (condT m) 8 (advS (takeT 3 [40] q).2) from lg_or c3 c5, sh_1 c10]; rfl), rfl, rfl⟩
  apply Yk
  apply Y3
  refine Yp rfl ?_
  refine S.hcallD rfl rfl rfl rfl ((pc_take s hs (advS (takeT 3 [40] q).2) ((hg.go (rch_take 3 [40] q)).go (rch_adv (takeT 3 [40] q).2)) 3 [41]).fd [0] [] [] rfl) ?_
  iterate 10 first|apply Yu|apply Yv|apply Yt|refine S.store tOk rfl rfl rfl rfl rfl rfl rfl rfl ?_|refine Yp rfl ?_|apply Y3|apply Yn
  exact ⟨_, rfl, rfl, (by rw [show listG (m + 1 == 0) (condF (m + 1)) q = shortG (condT m) 8 (advS (takeT 3 [40] q).2) from lg_or c3 c5, sh_0 c10]; exact (LeG.aggLast _ _ _ 4)), (by rw [show listG (m + 1 == 0) (condF (m + 1)) q = shortG (condT m) 8 (advS (takeT 3 [40] q).2) from lg_or c3 c5, sh_0 c10]; rfl), rfl, rfl⟩
 apply Yk
 apply Y3
 refine Yp rfl ?_
 refine S.hcallD rfl rfl rfl rfl ((pc_adv s hs (takeT 3 [40] q).2 (hg.go (rch_take 3 [40] q))).fd [0] [] [] rfl) ?_
 apply Y3
 refine Yp rfl ?_
 refine S.call rfl rfl rfl rfl rfl (pc_ver_kindOf [97, 110, 100]) ?_
 iterate 7 first|refine Yp rfl ?_|refine S.store tOk rfl rfl rfl rfl rfl rfl rfl rfl ?_|refine S.alloc tOk rfl rfl rfl rfl ?_|apply Y1|apply Ys|apply Yn
 refine S.hcallD rfl rfl rfl rfl ((pc_is s (advS (takeT 3 [40] q).2) 3 [41]).fd [0] [] [] rfl) ?_
 refine Yp rfl ?_
 apply Yn
 refine W.cond rfl (fun c11=>?_) fun c11=>?_
 ·skip
  apply Yr
  iterate 2 refine Yp rfl ?_
  refine YE rfl rfl (inc_i64 (by omega)) rfl ?_
  refine S.hcallD rfl rfl rfl rfl ((ih m rfl (lv + 1) (advS (takeT 3 [40] q).2) (step_n hl rfl) ((hg.go (rch_take 3 [40] q)).go (rch_adv (takeT 3 [40] q).2))).fd [0] [] [] rfl) ?_
  refine S.slice tOk rfl rfl ?_
  iterate 4 first|refine Yp rfl ?_|refine S.store tOk rfl rfl rfl rfl rfl rfl rfl rfl ?_|apply Y3
  refine S.hcallD rfl rfl rfl rfl ((pc_take s hs (condT m (advS (takeT 3 [40] q).2)).2 (((hg.go (rch_take 3 [40] q)).go (rch_adv (takeT 3 [40] q).2)).go (rch_condT m (advS (takeT 3 [40] q).2))) 3 [41]).fd [0] [] [] rfl) ?_
  iterate 10 first|apply Yu|apply Yv|apply Yt|refine S.store tOk rfl rfl rfl rfl rfl rfl rfl rfl ?_|refine Yp rfl ?_|apply Y3|apply Yn
  exact ⟨_, rfl, rfl, (by rw [show listG (m + 1 == 0) (condF (m + 1)) q = shortG (condT m) 7 (advS (takeT 3 [40] q).2) from lg_and c3, sh_1 c11]; exact LeG.of_force rfl (not_v 7 _)), (by rw [show listG (m + 1 == 0) (condF (m + 1)) q = shortG (condT m) 7 (advS (takeT 3 [40] q).2) from lg_and c3, sh_1 c11]; rfl), rfl, rfl⟩
 apply Yk
 apply Y3
 refine Yp rfl ?_
 refine S.hcallD rfl rfl rfl rfl ((pc_take s hs (advS (takeT 3 [40] q).2) ((hg.go (rch_take 3 [40] q)).go (rch_adv (takeT 3 [40] q).2)) 3 [41]).fd [0] [] [] rfl) ?_
 apply Y3
 iterate 9 first|apply Yu|apply Yv|apply Yt|refine S.store tOk rfl rfl rfl rfl rfl rfl rfl rfl ?_|refine Yp rfl ?_|apply Yn
 exact ⟨_, rfl, rfl, (by rw [show listG (m + 1 == 0) (condF (m + 1)) q = shortG (condT m) 7 (advS (takeT 3 [40] q).2) from lg_and c3, sh_0 c11]; exact (LeG.aggLast _ _ _ 4)), (by rw [show listG (m + 1 == 0) (condF (m + 1)) q = shortG (condT m) 7 (advS (takeT 3 [40] q).2) from lg_and c3, sh_0 c11]; rfl), rfl, rfl⟩
theorem pc_condC (s : List UInt8) (hs : s.length ≤ 4000) : ∀ n, CondC s n
  | 0 => fun lv q hl hg => pc_conds s hs 0 (fun lv q hl hg => pc_lists s hs 0 (fun m h => by omega) lv q hl hg) (fun m h => by omega) lv q hl hg
  | n + 1 => by
    have ih : ∀ m, n + 1 = m + 1 → CondC s m := fun m h => by
      obtain rfl : n = m := by omega
      exact pc_condC s hs n
    exact fun lv q hl hg => pc_conds s hs (n + 1) (fun lv q hl hg => pc_lists s hs (n + 1) ih lv q hl hg) ih lv q hl hg
end
section
open Go
open Go.RowKit
attribute [local irreducible] thenK blockK W
attribute [local irreducible] rangeB pathB nameB valueB visit visits checkP quoteL qAt nextT skipB wordE takeT failT isT adv condT condG listG shortG longG moreG signT toks parseP
theorem pc_adv0 (s : List UInt8) (hs : s.length ≤ 4000) : HCall Tryz.prog J 59 [.one (.ptr 0 0)] [[.d (.str s), .d (.int .i64 0), .d (.int .i64 0), .d (.int .i64 0), .d (.str []), .d (.int .i64 (-1))]] [] [] (isH (.tup []) [[.d (.str s), .d (.int .i64 ((hd ((⟨toks s, -1⟩ : PS)).T).e : Int)), .d (.int .i64 (hd ((⟨toks s, -1⟩ : PS)).T).k), .d (.int .i64 ((hd ((⟨toks s, -1⟩ : PS)).T).a : Int)), .d (.str (hd ((⟨toks s, -1⟩ : PS)).T).t), .d (.int .i64 ((⟨toks s, -1⟩ : PS)).w)]] [] []) := by
 have h := pc_advance s 0 0 0 (-1) [] hs (Nat.zero_le _)
 rw [← hd_toks s] at h
 exact h
theorem pc_ver_ParseCond (s : List UInt8) (hs : s.length < 4294967281) :
  PureCall Tryz.prog J 18 [.one (.d (.str s))] (.tup [ctV (parseP s).1, .one (.d (.int .i64 (parseP s).2.1)), .one (.d (.int .i64 (parseP s).2.2))]) := by
 refine PureCall.of_body tOk (fn := Tryz.f18) Tryz.func18 (by kernel_rfl) rfl (Nat.le_of_ble_eq_true rfl) (fun E => ?_)
 iterate 11 first|refine Yp rfl ?_|refine S.alloc tOk rfl rfl rfl rfl ?_|apply Y1|apply Yn|apply Ys
 refine W.cond rfl (fun c1=>?_) fun c1=>?_
 ·skip
  iterate 8 first|refine Yp rfl ?_|apply Yu|apply Yt|refine S.store tOk rfl rfl rfl rfl rfl rfl rfl rfl ?_|apply Y1|apply Yn
  exact ⟨_, rfl, rfl, le_ctNil (pp_0 c1)⟩
 have hsz : s.length ≤ 4000 := by have := c1; simp at this; omega
 iterate 8 first|refine Yp rfl ?_|refine S.box rfl rfl rfl rfl ?_|apply Yk|apply Y3
 refine S.hcallD rfl rfl rfl rfl ((pc_adv0 s hsz).fd [1] [] [] rfl) ?_
 apply Y3
 refine Yp rfl ?_
 refine S.hcallD rfl rfl rfl rfl ((pc_condC s hsz 100 0 (⟨toks s, -1⟩ : PS) rfl (toks_gd hsz)).fd [1] [] [] rfl) ?_
 iterate 19 first|refine S.pickAnd tOk zOk rfl rfl tg ?_|refine Yg rfl rfl tg ?_|refine Yp rfl ?_|refine S.store tOk rfl rfl rfl rfl rfl rfl rfl rfl ?_|refine S.alloc tOk rfl rfl rfl rfl ?_|apply Y1|apply Yn|apply Ys
 refine W.cond rfl (fun c2=>?_) fun c2=>?_
 ·skip
  have he := end_1 c2
  apply Yr
  iterate 6 refine Yp rfl ?_
  refine S.hcallD rfl rfl rfl rfl ((pc_fail s (condT 100 (⟨toks s, -1⟩ : PS)).2 ((hd (condT 100 (⟨toks s, -1⟩ : PS)).2.T).a : Int)).fd [1] [] [] rfl) ?_
  iterate 9 first|refine Yp rfl ?_|apply Y1|apply Yn|apply Ys
  refine W.cond rfl (fun c3=>?_) fun c3=>?_
  ·skip
   apply Ys
   refine W.regionS 6 mixed rfl (by kernel_rfl) ?_
   refine AnyZ.eager 0 rfl (by kernel_rfl) (Eag.pure tOk zOk rfl (fun _ _ _ => rfl) rfl rfl) ?_
   refine AnyZ.eager 1 rfl (by kernel_rfl) (Eag.pure tOk zOk rfl (fun _ _ _ => rfl) rfl rfl) ?_
   refine AnyZ.eager 2 rfl (by kernel_rfl) (Eag.pure tOk zOk rfl (fun _ _ _ => rfl) rfl rfl) ?_
   refine AnyZ.eager 3 rfl (by kernel_rfl) (Eag.pure tOk zOk rfl (fun _ _ _ => rfl) rfl rfl) ?_
   refine AnyZ.two 4 5 (by kernel_rfl) rfl rfl ?_ ?_
   ·skip
    refine OpZ.d ?_
    refine Ym rfl rfl ?_
    refine WD.nil ?_
    refine AnyZ.one 5 (by kernel_rfl) rfl ?_
    refine OpZ.d ?_
    refine D.store tOk rfl rfl rfl rfl rfl rfl rfl rfl ?_
    refine WD.nil ?_
    refine AnyZ.nil (by kernel_rfl) ?_
    iterate 5 first|refine Yp rfl ?_|apply Yu|apply Yt|apply Yn
    exact ⟨_, rfl, rfl, le_ctNil (pp_1 c1 he c3)⟩
   refine OpZ.d ?_
   refine D.store tOk rfl rfl rfl rfl rfl rfl rfl rfl ?_
   refine WD.nil ?_
   refine AnyZ.one 4 (by kernel_rfl) rfl ?_
   refine OpZ.d ?_
   refine Ym rfl rfl ?_
   refine WD.nil ?_
   refine AnyZ.nil (by kernel_rfl) ?_
   iterate 5 first|refine Yp rfl ?_|apply Yu|apply Yt|apply Yn
   exact ⟨_, rfl, rfl, le_ctNil (pp_1 c1 he c3)⟩
  apply Yk
  apply Yn
  apply Ys
  apply Y1
  refine Yp rfl ?_
  refine S.call rfl rfl rfl rfl rfl (pc_ver_CheckCond (condT 100 (⟨toks s, -1⟩ : PS)).1 (big_condT 100 (⟨toks s, -1⟩ : PS) (toks_tl hsz))) ?_
  iterate 5 first|refine Yp rfl ?_|apply Y3|apply Yn
  refine W.cond rfl (fun c4=>?_) fun c4=>?_
  ·skip
   iterate 9 first|refine Yp rfl ?_|apply Yu|apply Yt|refine S.store tOk rfl rfl rfl rfl rfl rfl rfl rfl ?_|apply Y1|apply Yn
   exact ⟨_, rfl, rfl, le_ctNil (pp_2 c1 he c3 c4)⟩
  iterate 8 first|refine Yp rfl ?_|apply Yt|refine S.store tOk rfl rfl rfl rfl rfl rfl rfl rfl ?_|apply Yk|apply Y3|apply Yn
  exact ⟨_, rfl, rfl, le_ct (pp_3 c1 he c3 c4)⟩
 have he := end_0 c2
 apply Yk
 iterate 9 first|refine Yp rfl ?_|apply Y1|apply Yn|apply Ys
 refine W.cond rfl (fun c5=>?_) fun c5=>?_
 ·skip
  apply Ys
  refine W.regionS 6 mixed rfl (by kernel_rfl) ?_
  refine AnyZ.eager 0 rfl (by kernel_rfl) (Eag.pure tOk zOk rfl (fun _ _ _ => rfl) rfl rfl) ?_
  refine AnyZ.eager 1 rfl (by kernel_rfl) (Eag.pure tOk zOk rfl (fun _ _ _ => rfl) rfl rfl) ?_
  refine AnyZ.eager 2 rfl (by kernel_rfl) (Eag.pure tOk zOk rfl (fun _ _ _ => rfl) rfl rfl) ?_
  refine AnyZ.eager 3 rfl (by kernel_rfl) (Eag.pure tOk zOk rfl (fun _ _ _ => rfl) rfl rfl) ?_
  refine AnyZ.two 4 5 (by kernel_rfl) rfl rfl ?_ ?_
  ·skip
   refine OpZ.d ?_
   refine Ym rfl rfl ?_
   refine WD.nil ?_
   refine AnyZ.one 5 (by kernel_rfl) rfl ?_
   refine OpZ.d ?_
   refine D.store tOk rfl rfl rfl rfl rfl rfl rfl rfl ?_
   refine WD.nil ?_
   refine AnyZ.nil (by kernel_rfl) ?_
   iterate 5 first|refine Yp rfl ?_|apply Yu|apply Yt|apply Yn
   exact ⟨_, rfl, rfl, le_ctNil (pp_1 c1 he c5)⟩
  refine OpZ.d ?_
  refine D.store tOk rfl rfl rfl rfl rfl rfl rfl rfl ?_
  refine WD.nil ?_
  refine AnyZ.one 4 (by kernel_rfl) rfl ?_
  refine OpZ.d ?_
  refine Ym rfl rfl ?_
  refine WD.nil ?_
  refine AnyZ.nil (by kernel_rfl) ?_
  iterate 2 refine Yp rfl ?_
  apply Yn
  apply Yt
  apply Yu
  exact ⟨_, rfl, rfl, le_ctNil (pp_1 c1 he c5)⟩
 apply Yk
 apply Yn
 apply Ys
 apply Y1
 refine Yp rfl ?_
 refine S.call rfl rfl rfl rfl rfl (pc_ver_CheckCond (condT 100 (⟨toks s, -1⟩ : PS)).1 (big_condT 100 (⟨toks s, -1⟩ : PS) (toks_tl hsz))) ?_
 iterate 5 first|refine Yp rfl ?_|apply Y3|apply Yn
 refine W.cond rfl (fun c6=>?_) fun c6=>?_
 ·skip
  iterate 9 first|refine Yp rfl ?_|apply Yu|apply Yt|refine S.store tOk rfl rfl rfl rfl rfl rfl rfl rfl ?_|apply Y1|apply Yn
  exact ⟨_, rfl, rfl, le_ctNil (pp_2 c1 he c5 c6)⟩
 iterate 8 first|refine Yp rfl ?_|apply Yt|refine S.store tOk rfl rfl rfl rfl rfl rfl rfl rfl ?_|apply Yk|apply Y3|apply Yn
 exact ⟨_, rfl, rfl, le_ct (pp_3 c1 he c5 c6)⟩
end
end Go.Proofs.YtfcdmcdhhikhaaaGreatDoor
namespace Go.Proofs.YtfcdmcdhhikhaaaGreatDoor
section
open Go
open Go.RowKit
attribute [local irreducible] thenK blockK W
attribute [local irreducible] rangeB rangeR pathB nameB valueB visit visits checkP
theorem part_r {x : Int} {n v : List UInt8} {m : Int} : partP x n v m = if decide (x < 1) || decide (x > 8) then 1
 else if (((!(decide (x ≥ 2) && decide (x ≤ 5)) && !(n == [])) || (!((decide (x ≥ 2) && decide (x ≤ 5)) && x != 4) && !(v == []))) || (!decide (x ≥ 6) && decide (m > 0))) || (x == 6 && m != 1) then 2
 else if !(decide (x ≥ 2) && decide (x ≤ 5)) then 0
 else if !(if (x == 3 || x == 4) then pathB n else nameB n) then 5
 else if !valueB v then 2
 else if x == 5 then (rangeR v).2 else 0 := by rw [← range_eq]; rfl
theorem value_nil : valueB [] = true := by unfold valueB; simp
theorem pc_partError (x : Int) (n v : List UInt8) (xs : List (List D)) (hn : n.length < 4294967000) (hv : v.length < 4294967000) :
  PureCall Tryz.prog J 33 [.agg [.d (.int .i64 x), .d (.str n), .d (.str v), .d (.vec 4 xs)]] (.one (.d (.int .i64 (partP x n v (xs.length : Int))))) := by
 refine PureCall.of_body tOk (fn := Tryz.f33) Tryz.func33 (by kernel_rfl) rfl (Nat.le_of_ble_eq_true rfl) (fun E => ?_)
 iterate 18 first|refine Yp rfl ?_|apply Yb|refine S.box rfl rfl rfl rfl ?_|apply Y1|apply Y3|apply Yn|apply Ys
 refine W.cond rfl (fun c1=>?_) fun c1=>?_
 ·skip
  obtain rfl : x = 1 := by simpa using c1
  apply Yk
  iterate 42 first|refine S.pickOr tOk zOk rfl rfl tg ?_|refine S.pickAndG tOk zOk rfl rfl rfl tg tg ?_|refine S.pickAnd tOk zOk rfl rfl tg ?_|refine Yg rfl rfl tg ?_|refine Yp rfl ?_|apply Yw|apply Y1|apply Yn|apply Ys
  refine W.cond rfl (fun c2=>?_) fun c2=>?_
  ·skip
   apply Y1
   refine Yp rfl ?_
   apply Yn
   apply Yt
   apply Yu
   exact Yz rfl rfl rfl (by clear E; rw [part_r]; first | (simp_all [value_nil]; done) | (simp only [beq_eq_false_iff_ne, ne_eq] at *; rw [if_pos (by simp; omega)]; rfl))
  iterate 18 first|refine S.pickOr tOk zOk rfl rfl tg ?_|refine Yp rfl ?_|refine Yg rfl rfl tg ?_|apply Yk|apply Y1|apply Y3|apply Ys|apply Yn
  refine S.callG rfl rfl rfl rfl tg rfl rfl (fun h => pc_outref2_NameOf n (by omega)) ?_
  iterate 11 first|refine S.pickAndG tOk zOk rfl rfl rfl tg tg ?_|refine S.pickAnd tOk zOk rfl rfl tg ?_|refine Yg rfl rfl tg ?_|refine Yp rfl ?_
  refine S.callG rfl rfl rfl rfl tg rfl rfl (fun h => pc_outref2_PathOf n (by omega)) ?_
  refine Yg rfl rfl tg ?_
  refine S.pickAndG tOk zOk rfl rfl rfl tg tg ?_
  refine S.pickOr tOk zOk rfl rfl tg ?_
  apply Yn
  refine W.cond rfl (fun c3=>?_) fun c3=>?_
  ·skip
   apply Y1
   refine Yp rfl ?_
   apply Yn
   apply Yt
   apply Yu
   exact Yz rfl rfl rfl (by clear E; rw [part_r]; first | (simp_all [value_nil]; done) | (simp only [beq_eq_false_iff_ne, ne_eq] at *; rw [if_pos (by simp; omega)]; rfl))
  iterate 6 first|refine Yp rfl ?_|apply Yk|apply Y1|apply Ys|apply Yn
  refine S.call rfl rfl rfl rfl rfl (pc_outref2_ValueOf v (by omega)) ?_
  refine Yp rfl ?_
  apply Yn
  refine W.cond rfl (fun c4=>?_) fun c4=>?_
  ·skip
   apply Y1
   refine Yp rfl ?_
   apply Yn
   apply Yt
   apply Yu
   exact Yz rfl rfl rfl (by clear E; rw [part_r]; first | (simp_all [value_nil]; done) | (simp only [beq_eq_false_iff_ne, ne_eq] at *; rw [if_pos (by simp; omega)]; rfl))
  iterate 8 first|refine Yp rfl ?_|apply Yk|apply Y1|apply Yn|apply Ys
  refine W.cond rfl (fun c5=>?_) fun c5=>?_
  ·skip
   apply Y1
   iterate 2 refine Yp rfl ?_
   refine S.call rfl rfl rfl rfl rfl (pc_outref2_ReadRange v hv) ?_
   iterate 12 first|refine Yp rfl ?_|apply Yu|apply Yt|refine S.store tOk rfl rfl rfl rfl rfl rfl rfl rfl ?_|refine S.alloc tOk rfl rfl rfl rfl ?_|apply Y3|apply Yn
   exact Yz rfl rfl rfl (by clear E; rw [part_r]; first | (simp_all [value_nil]; done) | (simp only [beq_eq_false_iff_ne, ne_eq] at *; rw [if_pos (by simp; omega)]; rfl))
  apply Yk
  apply Y3
  refine Yp rfl ?_
  apply Yn
  apply Yt
  exact Yz rfl rfl rfl (by clear E; rw [part_r]; first | (simp_all [value_nil]; done) | (simp only [beq_eq_false_iff_ne, ne_eq] at *; rw [if_pos (by simp; omega)]; rfl))
 apply Ys
 apply Y1
 iterate 2 refine Yp rfl ?_
 apply Yn
 refine W.cond rfl (fun c6=>?_) fun c6=>?_
 ·skip
  obtain rfl : x = 2 := by simpa using c6
  apply Yk
  apply Yn
  refine W.cond rfl (fun c7=>?_) fun c7=>?_
  ·skip
   apply Yr
   iterate 44 first|refine S.pickOr tOk zOk rfl rfl tg ?_|refine S.pickAndG tOk zOk rfl rfl rfl tg tg ?_|refine S.pickAnd tOk zOk rfl rfl tg ?_|refine Yg rfl rfl tg ?_|refine Yp rfl ?_|apply Yw|apply Y1|apply Yn|apply Ys
   refine W.cond rfl (fun c8=>?_) fun c8=>?_
   ·skip
    apply Y1
    refine Yp rfl ?_
    apply Yn
    apply Yt
    apply Yu
    exact Yz rfl rfl rfl (by clear E; rw [part_r]; first | (simp_all [value_nil]; done) | (simp only [beq_eq_false_iff_ne, ne_eq] at *; rw [if_pos (by simp; omega)]; rfl))
   iterate 18 first|refine S.pickOr tOk zOk rfl rfl tg ?_|refine Yp rfl ?_|refine Yg rfl rfl tg ?_|apply Yk|apply Y1|apply Y3|apply Ys|apply Yn
   refine S.callG rfl rfl rfl rfl tg rfl rfl (fun h => pc_outref2_NameOf n (by omega)) ?_
   iterate 11 first|refine S.pickAndG tOk zOk rfl rfl rfl tg tg ?_|refine S.pickAnd tOk zOk rfl rfl tg ?_|refine Yg rfl rfl tg ?_|refine Yp rfl ?_
   refine S.callG rfl rfl rfl rfl tg rfl rfl (fun h => pc_outref2_PathOf n (by omega)) ?_
   refine Yg rfl rfl tg ?_
   refine S.pickAndG tOk zOk rfl rfl rfl tg tg ?_
   refine S.pickOr tOk zOk rfl rfl tg ?_
   apply Yn
   refine W.cond rfl (fun c9=>?_) fun c9=>?_
   ·skip
    apply Y1
    refine Yp rfl ?_
    apply Yn
    apply Yt
    apply Yu
    exact Yz rfl rfl rfl (by clear E; rw [part_r]; first | (simp_all [value_nil]; done) | (simp only [beq_eq_false_iff_ne, ne_eq] at *; rw [if_pos (by simp; omega)]; rfl))
   iterate 6 first|refine Yp rfl ?_|apply Yk|apply Y1|apply Ys|apply Yn
   refine S.call rfl rfl rfl rfl rfl (pc_outref2_ValueOf v (by omega)) ?_
   refine Yp rfl ?_
   apply Yn
   refine W.cond rfl (fun c10=>?_) fun c10=>?_
   ·skip
    apply Y1
    refine Yp rfl ?_
    apply Yn
    apply Yt
    apply Yu
    exact Yz rfl rfl rfl (by clear E; rw [part_r]; first | (simp_all [value_nil]; done) | (simp only [beq_eq_false_iff_ne, ne_eq] at *; rw [if_pos (by simp; omega)]; rfl))
   iterate 8 first|refine Yp rfl ?_|apply Yk|apply Y1|apply Yn|apply Ys
   refine W.cond rfl (fun c11=>?_) fun c11=>?_
   ·skip
    apply Y1
    iterate 2 refine Yp rfl ?_
    refine S.call rfl rfl rfl rfl rfl (pc_outref2_ReadRange v hv) ?_
    iterate 12 first|refine Yp rfl ?_|apply Yu|apply Yt|refine S.store tOk rfl rfl rfl rfl rfl rfl rfl rfl ?_|refine S.alloc tOk rfl rfl rfl rfl ?_|apply Y3|apply Yn
    exact Yz rfl rfl rfl (by clear E; rw [part_r]; first | (simp_all [value_nil]; done) | (simp only [beq_eq_false_iff_ne, ne_eq] at *; rw [if_pos (by simp; omega)]; rfl))
   apply Yk
   apply Y3
   refine Yp rfl ?_
   apply Yn
   apply Yt
   exact Yz rfl rfl rfl (by clear E; rw [part_r]; first | (simp_all [value_nil]; done) | (simp only [beq_eq_false_iff_ne, ne_eq] at *; rw [if_pos (by simp; omega)]; rfl))
  exact absurd c7 (by rw [c6]; simp)
 apply Y1
 iterate 2 refine Yp rfl ?_
 apply Yn
 refine W.cond rfl (fun c12=>?_) fun c12=>?_
 ·skip
  obtain rfl : x = 3 := by simpa using c12
  apply Yk
  apply Yn
  refine W.cond rfl (fun c13=>?_) fun c13=>?_
  ·skip
   apply Yr
   iterate 44 first|refine S.pickOr tOk zOk rfl rfl tg ?_|refine S.pickAndG tOk zOk rfl rfl rfl tg tg ?_|refine S.pickAnd tOk zOk rfl rfl tg ?_|refine Yg rfl rfl tg ?_|refine Yp rfl ?_|apply Yw|apply Y1|apply Yn|apply Ys
   refine W.cond rfl (fun c14=>?_) fun c14=>?_
   ·skip
    apply Y1
    refine Yp rfl ?_
    apply Yn
    apply Yt
    apply Yu
    exact Yz rfl rfl rfl (by clear E; rw [part_r]; first | (simp_all [value_nil]; done) | (simp only [beq_eq_false_iff_ne, ne_eq] at *; rw [if_pos (by simp; omega)]; rfl))
   iterate 18 first|refine S.pickOr tOk zOk rfl rfl tg ?_|refine Yp rfl ?_|refine Yg rfl rfl tg ?_|apply Yk|apply Y1|apply Y3|apply Ys|apply Yn
   refine S.callG rfl rfl rfl rfl tg rfl rfl (fun h => pc_outref2_NameOf n (by omega)) ?_
   iterate 11 first|refine S.pickAndG tOk zOk rfl rfl rfl tg tg ?_|refine S.pickAnd tOk zOk rfl rfl tg ?_|refine Yg rfl rfl tg ?_|refine Yp rfl ?_
   refine S.callG rfl rfl rfl rfl tg rfl rfl (fun h => pc_outref2_PathOf n (by omega)) ?_
   refine Yg rfl rfl tg ?_
   refine S.pickAndG tOk zOk rfl rfl rfl tg tg ?_
   refine S.pickOr tOk zOk rfl rfl tg ?_
   apply Yn
   refine W.cond rfl (fun c15=>?_) fun c15=>?_
   ·skip
    apply Y1
    refine Yp rfl ?_
    apply Yn
    apply Yt
    apply Yu
    exact Yz rfl rfl rfl (by clear E; rw [part_r]; first | (simp_all [value_nil]; done) | (simp only [beq_eq_false_iff_ne, ne_eq] at *; rw [if_pos (by simp; omega)]; rfl))
   iterate 6 first|refine Yp rfl ?_|apply Yk|apply Y1|apply Ys|apply Yn
   refine S.call rfl rfl rfl rfl rfl (pc_outref2_ValueOf v (by omega)) ?_
   refine Yp rfl ?_
   apply Yn
   refine W.cond rfl (fun c16=>?_) fun c16=>?_
   ·skip
    apply Y1
    refine Yp rfl ?_
    apply Yn
    apply Yt
    apply Yu
    exact Yz rfl rfl rfl (by clear E; rw [part_r]; first | (simp_all [value_nil]; done) | (simp only [beq_eq_false_iff_ne, ne_eq] at *; rw [if_pos (by simp; omega)]; rfl))
   iterate 8 first|refine Yp rfl ?_|apply Yk|apply Y1|apply Yn|apply Ys
   refine W.cond rfl (fun c17=>?_) fun c17=>?_
   ·skip
    apply Y1
    iterate 2 refine Yp rfl ?_
    refine S.call rfl rfl rfl rfl rfl (pc_outref2_ReadRange v hv) ?_
    iterate 12 first|refine Yp rfl ?_|apply Yu|apply Yt|refine S.store tOk rfl rfl rfl rfl rfl rfl rfl rfl ?_|refine S.alloc tOk rfl rfl rfl rfl ?_|apply Y3|apply Yn
    exact Yz rfl rfl rfl (by clear E; rw [part_r]; first | (simp_all [value_nil]; done) | (simp only [beq_eq_false_iff_ne, ne_eq] at *; rw [if_pos (by simp; omega)]; rfl))
   apply Yk
   apply Y3
   refine Yp rfl ?_
   apply Yn
   apply Yt
   exact Yz rfl rfl rfl (by clear E; rw [part_r]; first | (simp_all [value_nil]; done) | (simp only [beq_eq_false_iff_ne, ne_eq] at *; rw [if_pos (by simp; omega)]; rfl))
  exact absurd c13 (by rw [c12]; simp)
 apply Yr
 iterate 2 refine Yp rfl ?_
 apply Yn
 refine W.cond rfl (fun c18=>?_) fun c18=>?_
 ·skip
  obtain rfl : x = 5 := by simpa using c18
  apply Yr
  iterate 44 first|refine S.pickOr tOk zOk rfl rfl tg ?_|refine S.pickAndG tOk zOk rfl rfl rfl tg tg ?_|refine S.pickAnd tOk zOk rfl rfl tg ?_|refine Yg rfl rfl tg ?_|refine Yp rfl ?_|apply Yw|apply Y1|apply Yn|apply Ys
  refine W.cond rfl (fun c19=>?_) fun c19=>?_
  ·skip
   apply Y1
   refine Yp rfl ?_
   apply Yn
   apply Yt
   apply Yu
   exact Yz rfl rfl rfl (by clear E; rw [part_r]; first | (simp_all [value_nil]; done) | (simp only [beq_eq_false_iff_ne, ne_eq] at *; rw [if_pos (by simp; omega)]; rfl))
  iterate 18 first|refine S.pickOr tOk zOk rfl rfl tg ?_|refine Yp rfl ?_|refine Yg rfl rfl tg ?_|apply Yk|apply Y1|apply Y3|apply Ys|apply Yn
  refine S.callG rfl rfl rfl rfl tg rfl rfl (fun h => pc_outref2_NameOf n (by omega)) ?_
  iterate 11 first|refine S.pickAndG tOk zOk rfl rfl rfl tg tg ?_|refine S.pickAnd tOk zOk rfl rfl tg ?_|refine Yg rfl rfl tg ?_|refine Yp rfl ?_
  refine S.callG rfl rfl rfl rfl tg rfl rfl (fun h => pc_outref2_PathOf n (by omega)) ?_
  refine Yg rfl rfl tg ?_
  refine S.pickAndG tOk zOk rfl rfl rfl tg tg ?_
  refine S.pickOr tOk zOk rfl rfl tg ?_
  apply Yn
  refine W.cond rfl (fun c20=>?_) fun c20=>?_
  ·skip
   apply Y1
   refine Yp rfl ?_
   apply Yn
   apply Yt
   apply Yu
   exact Yz rfl rfl rfl (by clear E; rw [part_r]; first | (simp_all [value_nil]; done) | (simp only [beq_eq_false_iff_ne, ne_eq] at *; rw [if_pos (by simp; omega)]; rfl))
  iterate 6 first|refine Yp rfl ?_|apply Yk|apply Y1|apply Ys|apply Yn
  refine S.call rfl rfl rfl rfl rfl (pc_outref2_ValueOf v (by omega)) ?_
  refine Yp rfl ?_
  apply Yn
  refine W.cond rfl (fun c21=>?_) fun c21=>?_
  ·skip
   apply Y1
   refine Yp rfl ?_
   apply Yn
   apply Yt
   apply Yu
   exact Yz rfl rfl rfl (by clear E; rw [part_r]; first | (simp_all [value_nil]; done) | (simp only [beq_eq_false_iff_ne, ne_eq] at *; rw [if_pos (by simp; omega)]; rfl))
  iterate 8 first|refine Yp rfl ?_|apply Yk|apply Y1|apply Yn|apply Ys
  refine W.cond rfl (fun c22=>?_) fun c22=>?_
  ·skip
   apply Y1
   iterate 2 refine Yp rfl ?_
   refine S.call rfl rfl rfl rfl rfl (pc_outref2_ReadRange v hv) ?_
   iterate 12 first|refine Yp rfl ?_|apply Yu|apply Yt|refine S.store tOk rfl rfl rfl rfl rfl rfl rfl rfl ?_|refine S.alloc tOk rfl rfl rfl rfl ?_|apply Y3|apply Yn
   exact Yz rfl rfl rfl (by clear E; rw [part_r]; first | (simp_all [value_nil]; done) | (simp only [beq_eq_false_iff_ne, ne_eq] at *; rw [if_pos (by simp; omega)]; rfl))
  apply Yk
  apply Y3
  refine Yp rfl ?_
  apply Yn
  apply Yt
  exact Yz rfl rfl rfl (by clear E; rw [part_r]; first | (simp_all [value_nil]; done) | (simp only [beq_eq_false_iff_ne, ne_eq] at *; rw [if_pos (by simp; omega)]; rfl))
 apply Y1
 iterate 2 refine Yp rfl ?_
 apply Yn
 refine W.cond rfl (fun c23=>?_) fun c23=>?_
 ·skip
  obtain rfl : x = 4 := by simpa using c23
  apply Yr
  iterate 43 first|refine S.pickOr tOk zOk rfl rfl tg ?_|refine S.pickAndG tOk zOk rfl rfl rfl tg tg ?_|refine S.pickAnd tOk zOk rfl rfl tg ?_|refine Yg rfl rfl tg ?_|refine Yp rfl ?_|apply Yw|apply Y1|apply Yn|apply Ys
  refine W.cond rfl (fun c24=>?_) fun c24=>?_
  ·skip
   apply Y1
   refine Yp rfl ?_
   apply Yn
   apply Yt
   apply Yu
   exact Yz rfl rfl rfl (by clear E; rw [part_r]; first | (simp_all [value_nil]; done) | (simp only [beq_eq_false_iff_ne, ne_eq] at *; rw [if_pos (by simp; omega)]; rfl))
  iterate 18 first|refine S.pickOr tOk zOk rfl rfl tg ?_|refine Yp rfl ?_|refine Yg rfl rfl tg ?_|apply Yk|apply Y1|apply Y3|apply Ys|apply Yn
  refine S.callG rfl rfl rfl rfl tg rfl rfl (fun h => pc_outref2_NameOf n (by omega)) ?_
  iterate 11 first|refine S.pickAndG tOk zOk rfl rfl rfl tg tg ?_|refine S.pickAnd tOk zOk rfl rfl tg ?_|refine Yg rfl rfl tg ?_|refine Yp rfl ?_
  refine S.callG rfl rfl rfl rfl tg rfl rfl (fun h => pc_outref2_PathOf n (by omega)) ?_
  refine Yg rfl rfl tg ?_
  refine S.pickAndG tOk zOk rfl rfl rfl tg tg ?_
  refine S.pickOr tOk zOk rfl rfl tg ?_
  apply Yn
  refine W.cond rfl (fun c25=>?_) fun c25=>?_
  ·skip
   apply Y1
   refine Yp rfl ?_
   apply Yn
   apply Yt
   apply Yu
   exact Yz rfl rfl rfl (by clear E; rw [part_r]; first | (simp_all [value_nil]; done) | (simp only [beq_eq_false_iff_ne, ne_eq] at *; rw [if_pos (by simp; omega)]; rfl))
  iterate 6 first|refine Yp rfl ?_|apply Yk|apply Y1|apply Ys|apply Yn
  refine S.call rfl rfl rfl rfl rfl (pc_outref2_ValueOf v (by omega)) ?_
  refine Yp rfl ?_
  apply Yn
  refine W.cond rfl (fun c26=>?_) fun c26=>?_
  ·skip
   apply Y1
   refine Yp rfl ?_
   apply Yn
   apply Yt
   apply Yu
   exact Yz rfl rfl rfl (by clear E; rw [part_r]; first | (simp_all [value_nil]; done) | (simp only [beq_eq_false_iff_ne, ne_eq] at *; rw [if_pos (by simp; omega)]; rfl))
  iterate 8 first|refine Yp rfl ?_|apply Yk|apply Y1|apply Yn|apply Ys
  refine W.cond rfl (fun c27=>?_) fun c27=>?_
  ·skip
   apply Y1
   iterate 2 refine Yp rfl ?_
   refine S.call rfl rfl rfl rfl rfl (pc_outref2_ReadRange v hv) ?_
   iterate 12 first|refine Yp rfl ?_|apply Yu|apply Yt|refine S.store tOk rfl rfl rfl rfl rfl rfl rfl rfl ?_|refine S.alloc tOk rfl rfl rfl rfl ?_|apply Y3|apply Yn
   exact Yz rfl rfl rfl (by clear E; rw [part_r]; first | (simp_all [value_nil]; done) | (simp only [beq_eq_false_iff_ne, ne_eq] at *; rw [if_pos (by simp; omega)]; rfl))
  apply Yk
  apply Y3
  refine Yp rfl ?_
  apply Yn
  apply Yt
  exact Yz rfl rfl rfl (by clear E; rw [part_r]; first | (simp_all [value_nil]; done) | (simp only [beq_eq_false_iff_ne, ne_eq] at *; rw [if_pos (by simp; omega)]; rfl))
 apply Ys
 apply Y1
 iterate 2 refine Yp rfl ?_
 apply Yn
 refine W.cond rfl (fun c28=>?_) fun c28=>?_
 ·skip
  obtain rfl : x = 6 := by simpa using c28
  apply Yk
  apply Yn
  refine W.cond rfl (fun c29=>?_) fun c29=>?_
  ·skip
   apply Yr
   iterate 43 first|refine S.pickOr tOk zOk rfl rfl tg ?_|refine S.pickAndG tOk zOk rfl rfl rfl tg tg ?_|refine S.pickAnd tOk zOk rfl rfl tg ?_|refine Yg rfl rfl tg ?_|refine Yp rfl ?_|apply Yw|apply Y1|apply Yn|apply Ys
   refine W.cond rfl (fun c30=>?_) fun c30=>?_
   ·skip
    apply Y1
    refine Yp rfl ?_
    apply Yn
    apply Yt
    apply Yu
    exact Yz rfl rfl rfl (by clear E; rw [part_r]; first | (simp_all [value_nil]; done) | (simp only [beq_eq_false_iff_ne, ne_eq] at *; rw [if_pos (by simp; omega)]; rfl))
   iterate 18 first|refine S.pickOr tOk zOk rfl rfl tg ?_|refine Yp rfl ?_|refine Yg rfl rfl tg ?_|apply Yk|apply Y1|apply Y3|apply Ys|apply Yn
   refine S.callG rfl rfl rfl rfl tg rfl rfl (fun h => pc_outref2_NameOf n (by omega)) ?_
   iterate 11 first|refine S.pickAndG tOk zOk rfl rfl rfl tg tg ?_|refine S.pickAnd tOk zOk rfl rfl tg ?_|refine Yg rfl rfl tg ?_|refine Yp rfl ?_
   refine S.callG rfl rfl rfl rfl tg rfl rfl (fun h => pc_outref2_PathOf n (by omega)) ?_
   refine Yg rfl rfl tg ?_
   refine S.pickAndG tOk zOk rfl rfl rfl tg tg ?_
   refine S.pickOr tOk zOk rfl rfl tg ?_
   apply Yn
   refine W.cond rfl (fun c31=>?_) fun c31=>?_
   ·skip
    apply Y1
    refine Yp rfl ?_
    apply Yn
    apply Yt
    apply Yu
    exact Yz rfl rfl rfl (by clear E; rw [part_r]; first | (simp_all [value_nil]; done) | (simp only [beq_eq_false_iff_ne, ne_eq] at *; rw [if_pos (by simp; omega)]; rfl))
   iterate 6 first|refine Yp rfl ?_|apply Yk|apply Y1|apply Ys|apply Yn
   refine S.call rfl rfl rfl rfl rfl (pc_outref2_ValueOf v (by omega)) ?_
   refine Yp rfl ?_
   apply Yn
   refine W.cond rfl (fun c32=>?_) fun c32=>?_
   ·skip
    apply Y1
    refine Yp rfl ?_
    apply Yn
    apply Yt
    apply Yu
    exact Yz rfl rfl rfl (by clear E; rw [part_r]; first | (simp_all [value_nil]; done) | (simp only [beq_eq_false_iff_ne, ne_eq] at *; rw [if_pos (by simp; omega)]; rfl))
   iterate 8 first|refine Yp rfl ?_|apply Yk|apply Y1|apply Yn|apply Ys
   refine W.cond rfl (fun c33=>?_) fun c33=>?_
   ·skip
    apply Y1
    iterate 2 refine Yp rfl ?_
    refine S.call rfl rfl rfl rfl rfl (pc_outref2_ReadRange v hv) ?_
    iterate 12 first|refine Yp rfl ?_|apply Yu|apply Yt|refine S.store tOk rfl rfl rfl rfl rfl rfl rfl rfl ?_|refine S.alloc tOk rfl rfl rfl rfl ?_|apply Y3|apply Yn
    exact Yz rfl rfl rfl (by clear E; rw [part_r]; first | (simp_all [value_nil]; done) | (simp only [beq_eq_false_iff_ne, ne_eq] at *; rw [if_pos (by simp; omega)]; rfl))
   apply Yk
   apply Y3
   refine Yp rfl ?_
   apply Yn
   apply Yt
   exact Yz rfl rfl rfl (by clear E; rw [part_r]; first | (simp_all [value_nil]; done) | (simp only [beq_eq_false_iff_ne, ne_eq] at *; rw [if_pos (by simp; omega)]; rfl))
  exact absurd c29 (by rw [c28]; simp)
 apply Y1
 iterate 2 refine Yp rfl ?_
 apply Yn
 refine W.cond rfl (fun c34=>?_) fun c34=>?_
 ·skip
  obtain rfl : x = 7 := by simpa using c34
  apply Yk
  apply Yn
  refine W.cond rfl (fun c35=>?_) fun c35=>?_
  ·skip
   apply Yr
   iterate 43 first|refine S.pickOr tOk zOk rfl rfl tg ?_|refine S.pickAndG tOk zOk rfl rfl rfl tg tg ?_|refine S.pickAnd tOk zOk rfl rfl tg ?_|refine Yg rfl rfl tg ?_|refine Yp rfl ?_|apply Yw|apply Y1|apply Yn|apply Ys
   refine W.cond rfl (fun c36=>?_) fun c36=>?_
   ·skip
    apply Y1
    refine Yp rfl ?_
    apply Yn
    apply Yt
    apply Yu
    exact Yz rfl rfl rfl (by clear E; rw [part_r]; first | (simp_all [value_nil]; done) | (simp only [beq_eq_false_iff_ne, ne_eq] at *; rw [if_pos (by simp; omega)]; rfl))
   iterate 18 first|refine S.pickOr tOk zOk rfl rfl tg ?_|refine Yp rfl ?_|refine Yg rfl rfl tg ?_|apply Yk|apply Y1|apply Y3|apply Ys|apply Yn
   refine S.callG rfl rfl rfl rfl tg rfl rfl (fun h => pc_outref2_NameOf n (by omega)) ?_
   iterate 11 first|refine S.pickAndG tOk zOk rfl rfl rfl tg tg ?_|refine S.pickAnd tOk zOk rfl rfl tg ?_|refine Yg rfl rfl tg ?_|refine Yp rfl ?_
   refine S.callG rfl rfl rfl rfl tg rfl rfl (fun h => pc_outref2_PathOf n (by omega)) ?_
   refine Yg rfl rfl tg ?_
   refine S.pickAndG tOk zOk rfl rfl rfl tg tg ?_
   refine S.pickOr tOk zOk rfl rfl tg ?_
   apply Yn
   refine W.cond rfl (fun c37=>?_) fun c37=>?_
   ·skip
    apply Y1
    refine Yp rfl ?_
    apply Yn
    apply Yt
    apply Yu
    exact Yz rfl rfl rfl (by clear E; rw [part_r]; first | (simp_all [value_nil]; done) | (simp only [beq_eq_false_iff_ne, ne_eq] at *; rw [if_pos (by simp; omega)]; rfl))
   iterate 6 first|refine Yp rfl ?_|apply Yk|apply Y1|apply Ys|apply Yn
   refine S.call rfl rfl rfl rfl rfl (pc_outref2_ValueOf v (by omega)) ?_
   refine Yp rfl ?_
   apply Yn
   refine W.cond rfl (fun c38=>?_) fun c38=>?_
   ·skip
    apply Y1
    refine Yp rfl ?_
    apply Yn
    apply Yt
    apply Yu
    exact Yz rfl rfl rfl (by clear E; rw [part_r]; first | (simp_all [value_nil]; done) | (simp only [beq_eq_false_iff_ne, ne_eq] at *; rw [if_pos (by simp; omega)]; rfl))
   iterate 8 first|refine Yp rfl ?_|apply Yk|apply Y1|apply Yn|apply Ys
   refine W.cond rfl (fun c39=>?_) fun c39=>?_
   ·skip
    apply Y1
    iterate 2 refine Yp rfl ?_
    refine S.call rfl rfl rfl rfl rfl (pc_outref2_ReadRange v hv) ?_
    iterate 12 first|refine Yp rfl ?_|apply Yu|apply Yt|refine S.store tOk rfl rfl rfl rfl rfl rfl rfl rfl ?_|refine S.alloc tOk rfl rfl rfl rfl ?_|apply Y3|apply Yn
    exact Yz rfl rfl rfl (by clear E; rw [part_r]; first | (simp_all [value_nil]; done) | (simp only [beq_eq_false_iff_ne, ne_eq] at *; rw [if_pos (by simp; omega)]; rfl))
   apply Yk
   apply Y3
   refine Yp rfl ?_
   apply Yn
   apply Yt
   exact Yz rfl rfl rfl (by clear E; rw [part_r]; first | (simp_all [value_nil]; done) | (simp only [beq_eq_false_iff_ne, ne_eq] at *; rw [if_pos (by simp; omega)]; rfl))
  exact absurd c35 (by rw [c34]; simp)
 apply Yr
 iterate 2 refine Yp rfl ?_
 apply Yn
 refine W.cond rfl (fun c40=>?_) fun c40=>?_
 ·skip
  obtain rfl : x = 8 := by simpa using c40
  apply Yr
  iterate 43 first|refine S.pickOr tOk zOk rfl rfl tg ?_|refine S.pickAndG tOk zOk rfl rfl rfl tg tg ?_|refine S.pickAnd tOk zOk rfl rfl tg ?_|refine Yg rfl rfl tg ?_|refine Yp rfl ?_|apply Yw|apply Y1|apply Yn|apply Ys
  refine W.cond rfl (fun c41=>?_) fun c41=>?_
  ·skip
   apply Y1
   refine Yp rfl ?_
   apply Yn
   apply Yt
   apply Yu
   exact Yz rfl rfl rfl (by clear E; rw [part_r]; first | (simp_all [value_nil]; done) | (simp only [beq_eq_false_iff_ne, ne_eq] at *; rw [if_pos (by simp; omega)]; rfl))
  iterate 18 first|refine S.pickOr tOk zOk rfl rfl tg ?_|refine Yp rfl ?_|refine Yg rfl rfl tg ?_|apply Yk|apply Y1|apply Y3|apply Ys|apply Yn
  refine S.callG rfl rfl rfl rfl tg rfl rfl (fun h => pc_outref2_NameOf n (by omega)) ?_
  iterate 11 first|refine S.pickAndG tOk zOk rfl rfl rfl tg tg ?_|refine S.pickAnd tOk zOk rfl rfl tg ?_|refine Yg rfl rfl tg ?_|refine Yp rfl ?_
  refine S.callG rfl rfl rfl rfl tg rfl rfl (fun h => pc_outref2_PathOf n (by omega)) ?_
  refine Yg rfl rfl tg ?_
  refine S.pickAndG tOk zOk rfl rfl rfl tg tg ?_
  refine S.pickOr tOk zOk rfl rfl tg ?_
  apply Yn
  refine W.cond rfl (fun c42=>?_) fun c42=>?_
  ·skip
   apply Y1
   refine Yp rfl ?_
   apply Yn
   apply Yt
   apply Yu
   exact Yz rfl rfl rfl (by clear E; rw [part_r]; first | (simp_all [value_nil]; done) | (simp only [beq_eq_false_iff_ne, ne_eq] at *; rw [if_pos (by simp; omega)]; rfl))
  iterate 6 first|refine Yp rfl ?_|apply Yk|apply Y1|apply Ys|apply Yn
  refine S.call rfl rfl rfl rfl rfl (pc_outref2_ValueOf v (by omega)) ?_
  refine Yp rfl ?_
  apply Yn
  refine W.cond rfl (fun c43=>?_) fun c43=>?_
  ·skip
   apply Y1
   refine Yp rfl ?_
   apply Yn
   apply Yt
   apply Yu
   exact Yz rfl rfl rfl (by clear E; rw [part_r]; first | (simp_all [value_nil]; done) | (simp only [beq_eq_false_iff_ne, ne_eq] at *; rw [if_pos (by simp; omega)]; rfl))
  iterate 8 first|refine Yp rfl ?_|apply Yk|apply Y1|apply Yn|apply Ys
  refine W.cond rfl (fun c44=>?_) fun c44=>?_
  ·skip
   apply Y1
   iterate 2 refine Yp rfl ?_
   refine S.call rfl rfl rfl rfl rfl (pc_outref2_ReadRange v hv) ?_
   iterate 12 first|refine Yp rfl ?_|apply Yu|apply Yt|refine S.store tOk rfl rfl rfl rfl rfl rfl rfl rfl ?_|refine S.alloc tOk rfl rfl rfl rfl ?_|apply Y3|apply Yn
   exact Yz rfl rfl rfl (by clear E; rw [part_r]; first | (simp_all [value_nil]; done) | (simp only [beq_eq_false_iff_ne, ne_eq] at *; rw [if_pos (by simp; omega)]; rfl))
  apply Yk
  apply Y3
  refine Yp rfl ?_
  apply Yn
  apply Yt
  exact Yz rfl rfl rfl (by clear E; rw [part_r]; first | (simp_all [value_nil]; done) | (simp only [beq_eq_false_iff_ne, ne_eq] at *; rw [if_pos (by simp; omega)]; rfl))
 apply Y1
 refine Yp rfl ?_
 apply Yn
 apply Yt
 apply Yv
 apply Yu
 exact Yz rfl rfl rfl (by clear E; rw [part_r]; first | (simp_all [value_nil]; done) | (simp only [beq_eq_false_iff_ne, ne_eq] at *; rw [if_pos (by simp; omega)]; rfl))
end
section
open Go
theorem visits_true {S : Type} {g : CT → S → Bool × S} : ∀ {l : List CT} {s : S}, (∀ c ∈ l, ∀ s, (g c s).1 = true) → (visits g l s).1 = true
  | [], s, h => rfl
  | c :: l, s, h => by
    unfold visits
    rw [if_pos (h c List.mem_cons_self s)]
    exact visits_true fun a ha => h a (List.mem_cons_of_mem _ ha)
theorem visit_true {S : Type} {f : CT → Int → S → Bool × S} (h : ∀ c lv s, (f c lv s).1 = true) : ∀ (n : Nat) (c : CT) (lv : Int) (s : S), c.w ≤ n → (visit f c lv s).1 = true
  | 0, c, lv, s, hn => by have := c.pos; omega
  | n + 1, c, lv, s, hn => by
    rw [visit_go (h c lv s)]
    exact visits_true fun a ha s => visit_true h n a (up1 lv) s (by have := CT.sz ha; omega)
def maxI (a b : Int) : Int := if a < b then b else a
def ce1 (c : CT) (lv : Int) (s : Int × Int) : Bool × (Int × Int) := (true, (up1 s.1, maxI s.2 lv))
def ce2 (c : CT) (lv : Int) (s : Int) : Bool × Int := (true, if s == 0 then c.part else s)
theorem ce1_t (c : CT) (lv : Int) (s : Int × Int) : (visit ce1 c lv s).1 = true := visit_true (fun _ _ _ => rfl) c.w c lv s (Nat.le_refl _)
theorem ce2_t (c : CT) (lv : Int) (s : Int) : (visit ce2 c lv s).1 = true := visit_true (fun _ _ _ => rfl) c.w c lv s (Nat.le_refl _)
def errR (c : CT) : Int :=
 if decide ((visit ce1 c 0 (0, 0)).2.1 > 100) then 4
 else firstB (visit ce2 c 0 0).2 (if decide ((visit ce1 c 0 (0, 0)).2.2 > 20) then 4 else 0)
end
section
open Go
open Go.RowKit
attribute [local irreducible] thenK blockK W
attribute [local irreducible] rangeB rangeR pathB nameB valueB visit visits checkP
theorem pc_ce1 (x : Int) (n v : List UInt8) (xs : List (List D)) (lv p d : Int) :
  HCall Tryz.prog J 31 ([.agg [.d (.int .i64 x), .d (.str n), .d (.str v), .d (.vec 4 xs)], .one (.d (.int .i64 lv)), .one (.ptr 0 0), .one (.ptr 1 0)]) ([[.d (.int .i64 p)], [.d (.int .i64 d)]]) ([]) ([]) (isH (.tup []) ([[.d (.int .i64 (up1 p))], [.d (.int .i64 (maxI d lv))]]) ([]) ([])) := by
 refine HCall.ofD tOk ⟨2, 0, 0⟩ (fn := Tryz.f31) Tryz.func31 (by kernel_rfl) rfl (Nat.le_of_ble_eq_true rfl) (fun E => ?_)
 iterate 11 first|refine Yp rfl ?_|refine S.store tOk rfl rfl rfl rfl rfl rfl rfl rfl ?_|refine S.box rfl rfl rfl rfl ?_|apply Y4|apply Y3|apply Y1
 exact ⟨_, rfl, rfl, LeG.refl _, rfl, rfl, rfl⟩
theorem pc_ce2 (x : Int) (n v : List UInt8) (xs : List (List D)) (hn : n.length < 4294967000) (hv : v.length < 4294967000) (lv e : Int) :
  HCall Tryz.prog J 32 ([.agg [.d (.int .i64 x), .d (.str n), .d (.str v), .d (.vec 4 xs)], .one (.d (.int .i64 lv)), .one (.ptr 0 0)]) ([[.d (.int .i64 e)]]) ([]) ([]) (isH (.tup []) ([[.d (.int .i64 (if e == 0 then partP x n v (xs.length : Int) else e))]]) ([]) ([])) := by
 refine HCall.ofD tOk ⟨1, 0, 0⟩ (fn := Tryz.f32) Tryz.func32 (by kernel_rfl) rfl (Nat.le_of_ble_eq_true rfl) (fun E => ?_)
 apply Y1
 refine S.box rfl rfl rfl rfl ?_
 apply Y3
 iterate 2 refine Yp rfl ?_
 apply Yn
 refine W.cond rfl (fun c1=>?_) fun c1=>?_
 ·skip
  apply Yr
  refine Yp rfl ?_
  refine S.call rfl rfl rfl rfl rfl (pc_partError x n v xs hn hv) ?_
  refine S.store tOk rfl rfl rfl rfl rfl rfl rfl rfl ?_
  exact ⟨_, rfl, rfl, LeG.refl _, (by rw [if_pos c1]; rfl), rfl, rfl⟩
 apply Yk
 exact ⟨_, rfl, rfl, LeG.refl _, (by rw [if_neg (Bool.eq_false_iff.1 c1)]; rfl), rfl, rfl⟩
theorem pc_parts1s (c : CT) (lv : Int) (p : Int) (d : Int) (hc : CtBig c) (ih : ∀ a ∈ c.l, ∀ (lv  : Int) (p : Int) (d : Int), CtBig a → HCall Tryz.prog J 30 [ctV a, .one (.d (.int .i64 lv)), .one (.clo 31 [.ptr 0 0, .ptr 1 0])] [[.d (.int .i64 p)], [.d (.int .i64 d)]] [] [] (isH (.tup []) [[.d (.int .i64 (visit ce1 a lv (p, d)).2.1)], [.d (.int .i64 (visit ce1 a lv (p, d)).2.2)]] [] [])) :
  HCall Tryz.prog J 30 ([ctV c, .one (.d (.int .i64 lv)), .one (.clo 31 [.ptr 0 0, .ptr 1 0])]) ([[.d (.int .i64 p)], [.d (.int .i64 d)]]) ([]) ([]) (isH (.tup []) ([[.d (.int .i64 (visit ce1 c lv (p, d)).2.1)], [.d (.int .i64 (visit ce1 c lv (p, d)).2.2)]]) ([]) ([])) := by
 have hbig := hc.ll
 have hf : (ce1 c lv (p, d)).1 = true := rfl
 unfold ctV
 rw [ds_map]
 have hlen : ((c.l.map CT.d).length : Int) = (c.l.length : Int) := by rw [List.length_map]
 refine HCall.ofD tOk ⟨2, 0, 0⟩ (fn := Tryz.f30) Tryz.func30 (by kernel_rfl) rfl (Nat.le_of_ble_eq_true rfl) (fun E => ?_)
 apply Y1
 refine S.box rfl rfl rfl rfl ?_
 apply Y3
 iterate 3 refine Yp rfl ?_
 refine S.hcallD rfl rfl rfl rfl ((pc_ce1 c.k c.n c.v _ lv p d).fd [0, 1] [] [] rfl) ?_
 apply Y3
 iterate 4 refine Yp rfl ?_
 apply Yn
 apply Yb
 refine W.loop (fun k st => ∃ i : Nat, ∃ p1 : Int, ∃ d1 : Int, i ≤ c.l.length ∧ visits (fun a => visit ce1 a (up1 lv)) (c.l.take i) (ce1 c lv (p, d)).2 = (true, (p1, d1)) ∧ k = c.l.length - i ∧ ∃ t b2 r2 m2, st = ⟨t, [[.d (.int .i64 p1)], [.d (.int .i64 d1)], [.d (.int .i64 c.k), .d (.str c.n), .d (.str c.v), .d (.vec 4 (c.l.map CT.d))]] ++ b2, [] ++ r2, [] ++ m2⟩ ∧ holdsL t [(1, .one (.d (.int .i64 lv))), (2, .one (.clo 31 [.ptr 0 0, .ptr 1 0])), (13, .one (.d (.vec 4 (c.l.map CT.d)))), (14, .one (.d (.int .i64 ((c.l.map CT.d).length : Int)))), (15, .one (.d (.int .i64 (i : Int))))]) (c.l.length) ⟨0, _, _, Nat.zero_le _, visits_nil, rfl, _, _, _, _, rfl, rfl, rfl, rfl, rfl, rfl, trivial⟩ ?_
 rintro k0 _ ⟨i, p1, d1, f0_0, f0_1, rfl, t0, bb0, rr0, mm0, rfl, hh0⟩
 refine W.keepR _ _ _ _ _ _ _ hh0 rfl ?_
 apply Y1
 refine Yp rfl ?_
 apply Yn
 apply Ys
 refine W.cond rfl (fun c1=>?_) fun c1=>?_
 ·skip
  have hi := row_lt c1
  apply Yk
  apply Yn
  apply Ys
  apply Yb
  apply Y1
  refine YE rfl (row_ok hi) (getD_map_ct hi) rfl ?_
  iterate 8 first|refine Yp rfl ?_|refine S.store tOk rfl rfl rfl rfl rfl rfl rfl rfl ?_|refine S.alloc tOk rfl rfl rfl rfl ?_|apply Y4
  refine S.hcallD rfl rfl rfl rfl ((ih (c.l.getD i CT.z) (mem_ct hi) (up1 lv) p1 d1 (hc.l _ (mem_ct hi))).fd [0, 1] [] [] rfl) ?_
  apply Yw
  apply Y4
  iterate 2 refine Yp rfl ?_
  refine loop_n (c.l.length - (i + 1)) (by omega) ⟨i + 1, _, _, hi, visit_next hi f0_1 (ce1_t _ _ _), rfl, _, _, _, _, rfl, rfl, rfl, rfl, rfl, inc_i64 (by omega), trivial⟩
 have hi := row_ge c1
 have hv := visit_all hf hi f0_1
 apply Yq
 apply Ye
 apply Ye
 apply Yx
 exact ⟨_, rfl, rfl, LeG.refl _, (by rw [hv]; rfl), rfl, rfl⟩
theorem pc_parts1 : ∀ (n : Nat) (c : CT), c.w ≤ n → ∀ (lv : Int) (p : Int) (d : Int), CtBig c → HCall Tryz.prog J 30 [ctV c, .one (.d (.int .i64 lv)), .one (.clo 31 [.ptr 0 0, .ptr 1 0])] [[.d (.int .i64 p)], [.d (.int .i64 d)]] [] [] (isH (.tup []) [[.d (.int .i64 (visit ce1 c lv (p, d)).2.1)], [.d (.int .i64 (visit ce1 c lv (p, d)).2.2)]] [] [])
 | 0, c, h => by have := c.pos; omega
 | n + 1, c, h => fun lv p d hc => pc_parts1s c lv p d hc (fun a ha => pc_parts1 n a (by have := CT.sz ha; omega))
theorem pc_parts2s (c : CT) (lv : Int) (e : Int) (hc : CtBig c) (ih : ∀ a ∈ c.l, ∀ (lv  : Int) (e : Int), CtBig a → HCall Tryz.prog J 30 [ctV a, .one (.d (.int .i64 lv)), .one (.clo 32 [.ptr 0 0])] [[.d (.int .i64 e)]] [] [] (isH (.tup []) [[.d (.int .i64 (visit ce2 a lv e).2)]] [] [])) :
  HCall Tryz.prog J 30 ([ctV c, .one (.d (.int .i64 lv)), .one (.clo 32 [.ptr 0 0])]) ([[.d (.int .i64 e)]]) ([]) ([]) (isH (.tup []) ([[.d (.int .i64 (visit ce2 c lv e).2)]]) ([]) ([])) := by
 have hbig := hc.ll
 have hf : (ce2 c lv e).1 = true := rfl
 unfold ctV
 rw [ds_map]
 have hlen : ((c.l.map CT.d).length : Int) = (c.l.length : Int) := by rw [List.length_map]
 have hcl2 := pc_ce2 c.k c.n c.v (c.l.map CT.d) hc.n hc.v lv e
 rw [hlen] at hcl2
 refine HCall.ofD tOk ⟨1, 0, 0⟩ (fn := Tryz.f30) Tryz.func30 (by kernel_rfl) rfl (Nat.le_of_ble_eq_true rfl) (fun E => ?_)
 apply Y1
 refine S.box rfl rfl rfl rfl ?_
 apply Y3
 iterate 3 refine Yp rfl ?_
 refine S.hcallD rfl rfl rfl rfl (hcl2.fd [0] [] [] rfl) ?_
 apply Y3
 iterate 4 refine Yp rfl ?_
 apply Yn
 apply Yb
 refine W.loop (fun k st => ∃ i : Nat, ∃ e1 : Int, i ≤ c.l.length ∧ visits (fun a => visit ce2 a (up1 lv)) (c.l.take i) (ce2 c lv e).2 = (true, e1) ∧ k = c.l.length - i ∧ ∃ t b2 r2 m2, st = ⟨t, [[.d (.int .i64 e1)], [.d (.int .i64 c.k), .d (.str c.n), .d (.str c.v), .d (.vec 4 (c.l.map CT.d))]] ++ b2, [] ++ r2, [] ++ m2⟩ ∧ holdsL t [(1, .one (.d (.int .i64 lv))), (2, .one (.clo 32 [.ptr 0 0])), (13, .one (.d (.vec 4 (c.l.map CT.d)))), (14, .one (.d (.int .i64 ((c.l.map CT.d).length : Int)))), (15, .one (.d (.int .i64 (i : Int))))]) (c.l.length) ⟨0, _, Nat.zero_le _, visits_nil, rfl, _, _, _, _, rfl, rfl, rfl, rfl, rfl, rfl, trivial⟩ ?_
 rintro k0 _ ⟨i, e1, f0_0, f0_1, rfl, t0, bb0, rr0, mm0, rfl, hh0⟩
 refine W.keepR _ _ _ _ _ _ _ hh0 rfl ?_
 apply Y1
 refine Yp rfl ?_
 apply Yn
 apply Ys
 refine W.cond rfl (fun c1=>?_) fun c1=>?_
 ·skip
  have hi := row_lt c1
  apply Yk
  apply Yn
  apply Ys
  apply Yb
  apply Y1
  refine YE rfl (row_ok hi) (getD_map_ct hi) rfl ?_
  iterate 8 first|refine Yp rfl ?_|refine S.store tOk rfl rfl rfl rfl rfl rfl rfl rfl ?_|refine S.alloc tOk rfl rfl rfl rfl ?_|apply Y4
  refine S.hcallD rfl rfl rfl rfl ((ih (c.l.getD i CT.z) (mem_ct hi) (up1 lv) e1 (hc.l _ (mem_ct hi))).fd [0] [] [] rfl) ?_
  apply Yw
  apply Y4
  iterate 2 refine Yp rfl ?_
  refine loop_n (c.l.length - (i + 1)) (by omega) ⟨i + 1, _, hi, visit_next hi f0_1 (ce2_t _ _ _), rfl, _, _, _, _, rfl, rfl, rfl, rfl, rfl, inc_i64 (by omega), trivial⟩
 have hi := row_ge c1
 have hv := visit_all hf hi f0_1
 apply Yq
 apply Ye
 apply Ye
 apply Yx
 exact ⟨_, rfl, rfl, LeG.refl _, (by rw [hv]; rfl), rfl, rfl⟩
theorem pc_parts2 : ∀ (n : Nat) (c : CT), c.w ≤ n → ∀ (lv : Int) (e : Int), CtBig c → HCall Tryz.prog J 30 [ctV c, .one (.d (.int .i64 lv)), .one (.clo 32 [.ptr 0 0])] [[.d (.int .i64 e)]] [] [] (isH (.tup []) [[.d (.int .i64 (visit ce2 c lv e).2)]] [] [])
 | 0, c, h => by have := c.pos; omega
 | n + 1, c, h => fun lv e hc => pc_parts2s c lv e hc (fun a ha => pc_parts2 n a (by have := CT.sz ha; omega))
theorem err_1 {c : CT} (h : decide ((visit ce1 c 0 (0, 0)).2.1 > 100) = true) : errR c = 4 := if_pos h
theorem err_0 {c : CT} (h : decide ((visit ce1 c 0 (0, 0)).2.1 > 100) = false) : errR c = firstB (visit ce2 c 0 0).2 (if decide ((visit ce1 c 0 (0, 0)).2.2 > 20) then 4 else 0) := if_neg (by rw [h]; simp)
theorem pc_CondErr (c : CT) (hc : CtBig c) :
  PureCall Tryz.prog J 7 [ctV c] (.one (.d (.int .i64 (errR c)))) := by
 refine PureCall.of_body tOk (fn := Tryz.f7) Tryz.func7 (by kernel_rfl) rfl (Nat.le_of_ble_eq_true rfl) (fun E => ?_)
 apply Y1
 iterate 9 first|refine Yp rfl ?_|refine S.store tOk rfl rfl rfl rfl rfl rfl rfl rfl ?_|refine S.alloc tOk rfl rfl rfl rfl ?_|refine S.box rfl rfl rfl rfl ?_|apply Y3
 refine S.makeFunc rfl rfl rfl ?_
 refine S.hcallD rfl rfl rfl rfl ((pc_parts1 c.w c (Nat.le_refl _) 0 0 0 hc).fd [1, 2] [] [] rfl) ?_
 iterate 6 first|refine Yp rfl ?_|apply Y1|apply Yn|apply Ys
 refine W.cond rfl (fun c1=>?_) fun c1=>?_
 ·skip
  apply Y1
  refine Yp rfl ?_
  apply Yn
  apply Yt
  apply Yu
  exact Yz rfl rfl rfl (by rw [err_1 c1]; rfl)
 apply Yk
 apply Y3
 refine S.alloc tOk rfl rfl rfl rfl ?_
 refine S.store tOk rfl rfl rfl rfl rfl rfl rfl rfl ?_
 apply Y3
 refine Yp rfl ?_
 refine S.makeFunc rfl rfl rfl ?_
 refine S.hcallD rfl rfl rfl rfl ((pc_parts2 c.w c (Nat.le_refl _) 0 0 hc).fd [3] [] [] rfl) ?_
 apply Yn
 apply Ys
 refine W.regionD mixed (by kernel_rfl) ?_
 iterate 3 refine Ym rfl rfl ?_
 refine D.call rfl rfl rfl rfl rfl (pc_outref2_When _ 4) ?_
 refine D.slice tOk rfl rfl ?_
 refine D.call rfl rfl rfl rfl rfl (pc_first2 (visit ce2 c 0 0).2 (if decide ((visit ce1 c 0 (0, 0)).2.2 > 20) then 4 else 0)) ?_
 refine Ym rfl rfl ?_
 apply Yn
 apply Yt
 exact Yz rfl rfl rfl (by rw [err_0 c1])
end
end Go.Proofs.YtfcdmcdhhikhaaaGreatDoor
namespace Go.Proofs.YtfcdmcdhhikhaaaGreatDoor
section
open Go
theorem ws_app : ∀ (l m : List CT), CT.ws (l ++ m) = CT.ws l + CT.ws m
  | [], m => by show CT.ws m = 0 + CT.ws m; omega
  | c :: l, m => by
    show c.w + CT.ws (l ++ m) = (c.w + CT.ws l) + CT.ws m
    rw [ws_app l m]; omega
mutual
def CT.pt : CT → Int → List (CT × Int)
  | .mk k n v l, lv => (.mk k n v l, lv) :: CT.pts l (up1 lv)
def CT.pts : List CT → Int → List (CT × Int)
  | [], _ => []
  | c :: l, lv => c.pt lv ++ CT.pts l lv
end
theorem pt_eq (c : CT) (lv : Int) : c.pt lv = (c, lv) :: CT.pts c.l (up1 lv) := by cases c; rfl
theorem pts_len : ∀ (n : Nat) (l : List CT) (lv : Int), CT.ws l ≤ n → (CT.pts l lv).length = CT.ws l
  | n, [], lv, h => rfl
  | 0, c :: l, lv, h => by
    have h1 : CT.ws (c :: l) = c.w + CT.ws l := rfl
    have := c.pos; omega
  | n + 1, c :: l, lv, h => by
    have h1 : CT.ws (c :: l) = c.w + CT.ws l := rfl
    have h2 := c.pos
    have h3 : c.w = CT.ws c.l + 1 := by cases c; rfl
    show (c.pt lv ++ CT.pts l lv).length = _
    rw [pt_eq, List.length_append, List.length_cons, pts_len n l lv (by omega), pts_len n c.l _ (by omega)]
    omega
theorem pt_len (c : CT) (lv : Int) : (c.pt lv).length = c.w := by
 have h3 : c.w = CT.ws c.l + 1 := by cases c; rfl
 rw [pt_eq, List.length_cons, pts_len _ c.l _ (Nat.le_refl _), h3]
def runs {S : Type} (f : CT → Int → S → Bool × S) : List (CT × Int) → S → Bool × S
 | [], s => (true, s)
 | (c, lv) :: L, s => if (f c lv s).1 then runs f L (f c lv s).2 else (false, (f c lv s).2)
theorem runs_app {S : Type} {f : CT → Int → S → Bool × S} : ∀ (A B : List (CT × Int)) (s : S), runs f (A ++ B) s = if (runs f A s).1 then runs f B (runs f A s).2 else (false, (runs f A s).2)
  | [], B, s => rfl
  | (c, lv) :: A, B, s => by
    have e : ∀ L : List (CT × Int), runs f ((c, lv) :: L) s = if (f c lv s).1 then runs f L (f c lv s).2 else (false, (f c lv s).2) := fun L => rfl
    rw [List.cons_append, e, e]
    cases h : (f c lv s).1 with
    | true => rw [if_pos rfl, if_pos rfl]; exact runs_app A B _
    | false => simp
theorem visits_runs {S : Type} {f : CT → Int → S → Bool × S} : ∀ (n : Nat) (l : List CT) (lv : Int) (s : S), CT.ws l ≤ n → visits (fun a => visit f a lv) l s = runs f (CT.pts l lv) s
  | n, [], lv, s, h => rfl
  | 0, c :: l, lv, s, h => by
    have h1 : CT.ws (c :: l) = c.w + CT.ws l := rfl
    have := c.pos; omega
  | n + 1, c :: l, lv, s, h => by
    have h1 : CT.ws (c :: l) = c.w + CT.ws l := rfl
    have h2 := c.pos
    have h3 : c.w = CT.ws c.l + 1 := by cases c; rfl
    have hc : ∀ s, visit f c lv s = runs f (c.pt lv) s := fun s => by
      rw [visit_eq, pt_eq, visits_runs n c.l _ _ (by omega)]; rfl
    show (if (visit f c lv s).1 then visits (fun a => visit f a lv) l (visit f c lv s).2 else (false, (visit f c lv s).2)) = runs f (c.pt lv ++ CT.pts l lv) s
    rw [runs_app, hc, visits_runs n l lv _ (by omega)]
theorem visit_runs {S : Type} {f : CT → Int → S → Bool × S} (c : CT) (lv : Int) (s : S) : visit f c lv s = runs f (c.pt lv) s := by
 rw [visit_eq, pt_eq, visits_runs _ c.l _ _ (Nat.le_refl _)]; rfl
theorem up1_of {n : Nat} (h : n < 4000000000) : up1 (n : Int) = ((n + 1 : Nat) : Int) := by
 unfold up1
 rw [IntKind.wrap_i64]; omega
def deepB (L : List (CT × Int)) : Bool := L.any fun p => decide (p.2 > 20)
theorem run_ce1 : ∀ (L : List (CT × Int)) (n : Nat) (d : Int), n + L.length < 4000000000 → (runs ce1 L ((n : Int), d)).2.1 = ((n + L.length : Nat) : Int) ∧ decide ((runs ce1 L ((n : Int), d)).2.2 > 20) = (decide (d > 20) || deepB L)
  | [], n, d, h => by
    refine ⟨rfl, ?_⟩
    show decide (d > 20) = (decide (d > 20) || false)
    rw [Bool.or_false]
  | (c, lv) :: L, n, d, h => by
    have hl : ((c, lv) :: L).length = L.length + 1 := rfl
    rw [hl] at h
    have h1 : runs ce1 ((c, lv) :: L) ((n : Int), d) = runs ce1 L (((n + 1 : Nat) : Int), maxI d lv) := by
      show runs ce1 L (up1 (n : Int), maxI d lv) = _
      rw [up1_of (by omega)]
    have ih := run_ce1 L (n + 1) (maxI d lv) (by omega)
    rw [h1]
    refine ⟨ih.1.trans (by rw [hl]; congr 1; omega), ih.2.trans ?_⟩
    have : decide (maxI d lv > 20) = (decide (d > 20) || decide (lv > 20)) := by
      unfold maxI; split <;> simp <;> omega
    rw [this]
    show _ = (decide (d > 20) || (decide (lv > 20) || deepB L))
    rw [Bool.or_assoc]
theorem run_cc1 : ∀ (L : List (CT × Int)) (n : Nat) (b : Bool), n ≤ 100 → (n + L.length ≤ 100 → runs cc1 L ((n : Int), b) = (true, (((n + L.length : Nat) : Int), b || deepB L))) ∧ (100 < n + L.length → (runs cc1 L ((n : Int), b)).2.1 = 101)
  | [], n, b, h => by
    refine ⟨fun _ => ?_, fun h2 => by simp at h2; omega⟩
    show (true, ((n : Int), b)) = (true, ((n : Int), b || false))
    rw [Bool.or_false]
  | (c, lv) :: L, n, b, h => by
    have hl : ((c, lv) :: L).length = L.length + 1 := rfl
    have h1 : runs cc1 ((c, lv) :: L) ((n : Int), b) = if decide (((n + 1 : Nat) : Int) ≤ 100) then runs cc1 L (((n + 1 : Nat) : Int), b || decide (lv > 20)) else (false, (((n + 1 : Nat) : Int), b || decide (lv > 20))) := by
      show (if decide (up1 (n : Int) ≤ 100) then runs cc1 L (up1 (n : Int), b || decide (lv > 20)) else (false, (up1 (n : Int), b || decide (lv > 20)))) = _
      rw [up1_of (by omega)]
    rw [h1, hl]
    by_cases h2 : n + 1 ≤ 100
    · rw [if_pos (by simp; omega)]
      have ih := run_cc1 L (n + 1) (b || decide (lv > 20)) h2
      refine ⟨fun h3 => (ih.1 (by omega)).trans ?_, fun h3 => ih.2 (by omega)⟩
      show (true, _, (b || decide (lv > 20)) || deepB L) = (true, _, b || (decide (lv > 20) || deepB L))
      rw [Bool.or_assoc]
      have : n + 1 + L.length = n + (L.length + 1) := by omega
      rw [this]
    · rw [if_neg (by simp; omega)]
      refine ⟨fun h3 => by omega, fun _ => ?_⟩
      show ((n + 1 : Nat) : Int) = 101
      omega
theorem run_ce2_old : ∀ (L : List (CT × Int)) (e : Int), (e == 0) = false → (runs ce2 L e).2 = e
  | [], e, h => rfl
  | (c, lv) :: L, e, h => by
    show (runs ce2 L (if e == 0 then c.part else e)).2 = e
    rw [h]; exact run_ce2_old L e h
theorem run_2 : ∀ (L : List (CT × Int)), (runs ce2 L 0).2 = (runs cc2 L 0).2
  | [] => rfl
  | (c, lv) :: L => by
    show (runs ce2 L c.part).2 = (if c.part == 0 then runs cc2 L c.part else (false, c.part)).2
    cases h : (c.part == 0) with
    | true =>
      have h0 : c.part = 0 := by simpa using h
      rw [h0]; exact run_2 L
    | false => exact run_ce2_old L _ h
theorem errs_eq {c : CT} (h : c.w < 3000000000) : errR c = checkP c := by
  unfold errR checkP
  rw [visit_runs, visit_runs, visit_runs, visit_runs]
  have hl := pt_len c 0
  have h1 := run_ce1 (c.pt 0) 0 0 (by omega)
  have h2 := run_cc1 (c.pt 0) 0 false (by omega)
  simp only [Int.ofNat_zero, Int.natCast_zero, show ((0 : Nat) : Int) = 0 from rfl, Nat.zero_add] at h1 h2
  rw [h1.1, h1.2, hl, run_2]
  rw [hl] at h2
  by_cases h3 : c.w ≤ 100
  · have h4 := h2.1 h3
    rw [h4]
    have : decide (((c.w : Nat) : Int) > 100) = false := by simp; omega
    rw [this]
    unfold firstB
    show (if false then _ else _) = _
    cases hp : ((runs cc2 (c.pt 0) 0).2 == 0) with
    | true =>
      have hp0 : (runs cc2 (c.pt 0) 0).2 = 0 := by simpa using hp
      cases hd : deepB (c.pt 0) <;> simp [hp0]
    | false =>
      simp at hp
      simp [hp]
  · have h4 := h2.2 (by omega)
    rw [h4]
    have : decide (((c.w : Nat) : Int) > 100) = true := by simp; omega
    rw [this]; rfl
end
section
open Go
open Go.RowKit
attribute [local irreducible] thenK blockK W
attribute [local irreducible] rangeB rangeR pathB nameB valueB visit visits checkP errR quoteL qAt nextT skipB wordE toks condT condG listG parseP
theorem pc_EqualCond (l : List CT) (hl : l.length ≤ 4294967000) (hc : ∀ a ∈ l, PureCall Tryz.prog J 19 [ctV a, ctV a] (.one (.d (.bool true)))) :
  PureCall Tryz.prog J 62 [.one (.d (.vec 4 (l.map CT.d))), .one (.d (.vec 4 (l.map CT.d))), .one (.d (.fn 19))] (.one (.d (.bool true))) := by
 refine PureCall.of_body tOk (fn := Tryz.f62) Tryz.func62 (by kernel_rfl) rfl (Nat.le_of_ble_eq_true rfl) (fun E => ?_)
 iterate 11 first|refine Yp rfl ?_|apply Y1|apply Yn|apply Ys
 refine W.cond rfl (fun c1=>?_) fun c1=>?_
 ·skip
  exact absurd c1 (by simp)
 iterate 9 first|refine Yp rfl ?_|apply Yb|apply Yk|apply Y1|apply Yn|apply Ys
 refine W.loop (fun k st => ∃ i : Nat, i ≤ l.length ∧ k = l.length - i ∧ ∃ t b2 r2 m2, st = ⟨t, [] ++ b2, [] ++ r2, [] ++ m2⟩ ∧ holdsL t [(1, .one (.d (.vec 4 (l.map CT.d)))), (2, .one (.d (.fn 19))), (15, .one (.d (.vec 4 (l.map CT.d)))), (16, .one (.d (.int .i64 ((l.map CT.d).length : Int)))), (17, .one (.d (.int .i64 (i : Int))))]) (l.length) ⟨0, Nat.zero_le _, rfl, _, _, _, _, rfl, rfl, rfl, rfl, rfl, rfl, trivial⟩ ?_
 rintro k0 _ ⟨i, f0_0, rfl, t0, bb0, rr0, mm0, rfl, hh0⟩
 refine W.keepR _ _ _ _ _ _ _ hh0 rfl ?_
 apply Y1
 refine Yp rfl ?_
 apply Yn
 apply Ys
 refine W.cond rfl (fun c2=>?_) fun c2=>?_
 ·skip
  have hi := row_lt c2
  apply Yk
  apply Yn
  apply Ys
  apply Yb
  apply Y1
  refine Yp rfl ?_
  refine YE rfl (row_ok hi) (getD_map_ct hi) rfl ?_
  iterate 7 first|refine Yp rfl ?_|refine S.store tOk rfl rfl rfl rfl rfl rfl rfl rfl ?_|refine S.alloc tOk rfl rfl rfl rfl ?_|apply Y3
  refine YE rfl (row_ok hi) (getD_map_ct hi) rfl ?_
  iterate 7 first|refine Yp rfl ?_|refine S.store tOk rfl rfl rfl rfl rfl rfl rfl rfl ?_|refine S.alloc tOk rfl rfl rfl rfl ?_|apply Y3
  refine S.call rfl rfl rfl rfl rfl (hc (l.getD i CT.z) (mem_ct hi)) ?_
  refine Yp rfl ?_
  apply Yn
  refine W.cond rfl (fun c3=>?_) fun c3=>?_
  ·skip
   exact absurd c3 (by simp)
  apply Yk
  apply Yw
  apply Y4
  iterate 2 refine Yp rfl ?_
  refine loop_n (l.length - (i + 1)) (by omega) ⟨i + 1, hi, rfl, _, _, _, _, rfl, rfl, rfl, rfl, rfl, inc_i64 (by omega), trivial⟩
 apply Yq
 apply Ye
 apply Ye
 apply Yx
 apply Y3
 refine Yp rfl ?_
 apply Yn
 apply Yt
 exact ⟨_, rfl, rfl, LeV.refl _⟩
theorem pc_sameS (c : CT) (hc : CtBig c) (ih : ∀ a ∈ c.l, PureCall Tryz.prog J 19 [ctV a, ctV a] (.one (.d (.bool true)))) :
  PureCall Tryz.prog J 19 [ctV c, ctV c] (.one (.d (.bool true))) := by
 have hl := hc.ll
 unfold ctV
 rw [ds_map]
 refine PureCall.of_body tOk (fn := Tryz.f19) Tryz.func19 (by kernel_rfl) rfl (Nat.le_of_ble_eq_true rfl) (fun E => ?_)
 iterate 29 first|refine S.pickAnd tOk zOk rfl rfl tg ?_|refine Yg rfl rfl tg ?_|refine Yp rfl ?_|refine S.box rfl rfl rfl rfl ?_|apply Y3|apply Y1
 refine S.callG rfl rfl rfl rfl tg rfl rfl (fun h => pc_EqualCond c.l (by omega) ih) ?_
 refine S.pickAnd tOk zOk rfl rfl tg ?_
 refine Yp rfl ?_
 apply Yn
 apply Yt
 exact Yz rfl rfl rfl (by simp)
theorem pc_same : ∀ (n : Nat) (c : CT), c.w ≤ n → CtBig c → PureCall Tryz.prog J 19 [ctV c, ctV c] (.one (.d (.bool true)))
 | 0, c, h => by have := c.pos; omega
 | n + 1, c, h => fun hc => pc_sameS c hc (fun a ha => pc_same n a (by have := CT.sz ha; omega) (hc.l a ha))
end
section
open Go
def wordC (k : Int) : L8 := if k == 8 then [111, 114] else [97, 110, 100]
def txtL (k : Int) (xs : List L8) : L8 :=
 if xs.length == 0 then [40] ++ wordC k ++ [41] else if xs.length == 1 then [40] ++ wordC k ++ [32] ++ xs.getD 0 [] ++ [41] else [40] ++ Lib.join xs ([32] ++ wordC k ++ [32]) ++ [41]
def txtC (k : Int) (n v : L8) (xs : List L8) : L8 :=
 if k == 1 then [97, 108, 119, 97, 121, 115] else if k == 2 then [102, 97, 99, 116, 32] ++ n ++ [32, 61, 32] ++ quoB v else if k == 3 then [115, 101, 116, 116, 105, 110, 103, 32] ++ n ++ [32, 61, 32] ++ quoB v
 else if k == 4 then [104, 97, 115, 32] ++ n else if k == 5 then [118, 101, 114, 115, 105, 111, 110, 32] ++ n ++ [32, 105, 110, 32] ++ quoB v else if k == 6 then [110, 111, 116, 32] ++ xs.getD 0 [] else txtL k xs
mutual
def CT.tx : CT → L8
  | .mk k n v l => txtC k n v (CT.txs l)
def CT.txs : List CT → List L8
  | [] => []
  | c :: l => c.tx :: CT.txs l
end
theorem txs_map : ∀ (l : List CT), CT.txs l = l.map CT.tx
  | [] => rfl
  | c :: l => by
    show c.tx :: CT.txs l = _
    rw [txs_map l]; rfl
theorem tx_eq (c : CT) : c.tx = txtC c.k c.n c.v (c.l.map CT.tx) := by
 cases c with | mk k n v l =>
 show txtC k n v (CT.txs l) = _
 rw [txs_map]; rfl
mutual
def CT.b : CT → Nat
  | .mk k n v l => n.length + 2 * v.length + 30 + CT.bs l
def CT.bs : List CT → Nat
  | [] => 0
  | c :: l => c.b + 5 + CT.bs l
end
theorem bs_mem : ∀ {l : List CT} {a : CT}, a ∈ l → a.b + 5 ≤ CT.bs l
  | c :: l, a, h => by
    show a.b + 5 ≤ c.b + 5 + CT.bs l
    rcases List.mem_cons.1 h with rfl | h
    · omega
    · have := bs_mem h; omega
theorem b_eq (c : CT) : c.b = c.n.length + 2 * c.v.length + 30 + CT.bs c.l := by cases c; rfl
theorem b_sub {c a : CT} (h : a ∈ c.l) : a.b ≤ c.b := by
 rw [b_eq c]
 have := bs_mem h
 omega
theorem join_bs (sep : L8) (hs : sep.length ≤ 5) : ∀ (l : List CT), (∀ a ∈ l, a.tx.length ≤ a.b) → (Lib.join (l.map CT.tx) sep).length ≤ CT.bs l
  | [], _ => Nat.le_refl _
  | [a], h => by
    have h1 := h a (by simp)
    show (Lib.join [a.tx] sep).length ≤ a.b + 5 + 0
    rw [Lib.join_one]; omega
  | a :: c :: l, h => by
    have h1 := h a (by simp)
    have ih := join_bs sep hs (c :: l) (fun x hx => h x (by simp [List.mem_cons.1 hx]))
    have e : Lib.join (a.tx :: c.tx :: l.map CT.tx) sep = a.tx ++ sep ++ Lib.join (c.tx :: l.map CT.tx) sep := by simp [Lib.join, List.intercalate, List.intersperse]
    show (Lib.join (a.tx :: c.tx :: l.map CT.tx) sep).length ≤ a.b + 5 + CT.bs (c :: l)
    rw [e, List.length_append, List.length_append]
    have ih : (Lib.join (c.tx :: l.map CT.tx) sep).length ≤ CT.bs (c :: l) := ih
    omega
theorem wordC_len (k : Int) : (wordC k).length ≤ 3 := by unfold wordC; split <;> decide
theorem tx_le : ∀ (n : Nat) (c : CT), c.w ≤ n → c.tx.length ≤ c.b
  | 0, c, h => by have := c.pos; omega
  | n + 1, c, h => by
    have ih : ∀ a ∈ c.l, a.tx.length ≤ a.b := fun a ha => tx_le n a (by have := CT.sz ha; omega)
    have hq := (esc_le c.v).2
    have h0 : ((c.l.map CT.tx).getD 0 []).length ≤ CT.bs c.l := by
      cases hl : c.l with
      | nil => exact Nat.zero_le _
      | cons a l =>
        have := ih a (by rw [hl]; simp)
        show a.tx.length ≤ a.b + 5 + CT.bs l
        omega
    have hw := wordC_len c.k
    have hj := join_bs ([32] ++ wordC c.k ++ [32]) (by simp; omega) c.l ih
    rw [tx_eq, b_eq]
    unfold txtC txtL quoB
    repeat' split
    all_goals (simp only [List.length_append, List.length_cons, List.length_nil]; omega)
inductive CtT : CT → Prop where
 | mk (k : Int) (n v : L8) (l : List CT) (h1 : n.length ≤ 2000000) (h2 : v.length ≤ 2000000) (h4 : l.length ≤ 2000000) (h5 : k = 6 → l.length = 1) (h6 : k = 5 → (rangeB v).2 = 0) (h3 : ∀ a ∈ l, CtT a) : CtT (.mk k n v l)
theorem CtT.n {c : CT} (h : CtT c) : c.n.length ≤ 2000000 := by cases h; assumption
theorem CtT.v {c : CT} (h : CtT c) : c.v.length ≤ 2000000 := by cases h; assumption
theorem CtT.ll {c : CT} (h : CtT c) : c.l.length ≤ 2000000 := by cases h; assumption
theorem CtT.not {c : CT} (h : CtT c) : c.k = 6 → c.l.length = 1 := by cases h; assumption
theorem CtT.ver {c : CT} (h : CtT c) : c.k = 5 → (rangeB c.v).2 = 0 := by cases h; assumption
theorem CtT.l {c : CT} (h : CtT c) : ∀ a ∈ c.l, CtT a := by cases h; assumption
end
section
open Go
open Go.RowKit
attribute [local irreducible] thenK blockK W
attribute [local irreducible] rangeB pathB nameB valueB firstNe escB quoB CT.tx CT.b txtC txtL visit visits checkP errR
theorem word_w {k : Int} : ((k == 8) = true → [111, 114] = wordC k) ∧ ((k == 8) = false → [97, 110, 100] = wordC k) := by
 unfold wordC; constructor <;> intro h <;> simp [h]
theorem tx_list {c : CT} (h1 : (c.k == 1) = false) (h2 : (c.k == 2) = false) (h3 : (c.k == 3) = false) (h4 : (c.k == 4) = false) (h5 : (c.k == 5) = false) (h6 : (c.k == 6) = false) : c.tx = txtL c.k (c.l.map CT.tx) := by
 rw [tx_eq]; unfold txtC; simp only [h1, h2, h3, h4, h5, h6, Bool.false_eq_true, if_false]
theorem tx_not {c : CT} (h : (c.k == 6) = true) (hl : c.l.length = 1) : c.tx = [110, 111, 116, 32] ++ (c.l.getD 0 CT.z).tx := by
 have hk : c.k = 6 := by simpa using h
 rw [tx_eq]; unfold txtC
 rw [hk]
 match c.l, hl with
 | [a], _ => rfl
theorem tl_0 {k : Int} {l : List CT} (h : l.length = 0) : txtL k (l.map CT.tx) = [40] ++ wordC k ++ [41] := by
 match l, h with
 | [], _ => unfold txtL; rfl
theorem tl_1 {k : Int} {l : List CT} (h : l.length = 1) : txtL k (l.map CT.tx) = [40] ++ wordC k ++ [32] ++ (l.getD 0 CT.z).tx ++ [41] := by
 match l, h with
 | [a], _ => unfold txtL; rfl
theorem tl_2 {k : Int} {l : List CT} (h0 : l.length ≠ 0) (h : l.length ≠ 1) : txtL k (l.map CT.tx) = [40] ++ Lib.join (l.map CT.tx) ([32] ++ wordC k ++ [32]) ++ [41] := by
 unfold txtL; rw [List.length_map, if_neg (by simpa using h0), if_neg (by simpa using h)]
theorem len_0 {c : CT} (h : (((c.l.map CT.d).length : Int) == 0) = true) (hm : (c.l.map CT.d).length = c.l.length) : c.l.length = 0 := by simp only [beq_iff_eq] at h; omega
theorem len_n0 {c : CT} (h : (((c.l.map CT.d).length : Int) == 0) = false) (hm : (c.l.map CT.d).length = c.l.length) : c.l.length ≠ 0 := by simp only [beq_eq_false_iff_ne, ne_eq] at h; omega
theorem len_1 {c : CT} (h : (((c.l.map CT.d).length : Int) == 1) = true) (hm : (c.l.map CT.d).length = c.l.length) : c.l.length = 1 := by simp only [beq_iff_eq] at h; omega
theorem len_n1 {c : CT} (h : (((c.l.map CT.d).length : Int) == 1) = false) (hm : (c.l.map CT.d).length = c.l.length) : c.l.length ≠ 1 := by simp only [beq_eq_false_iff_ne, ne_eq] at h; omega
theorem pc_tx1s (c : CT) (hc : CtT c) (hb : c.b ≤ 100000000) (ih : ∀ a ∈ c.l, PureCall Tryz.prog J 40 [ctV a] (.one (.d (.str a.tx)))) :
  PureCall Tryz.prog J 40 [ctV c] (.one (.d (.str c.tx))) := by
 have hl := hc.ll
 have hn := hc.n
 have hv := hc.v
 have hq := quoB_le hv
 have hbe := b_eq c
 have hll : (CT.ds c.l).length = c.l.length := by rw [ds_map, List.length_map]
 have hts : ∀ a ∈ c.l, a.tx.length ≤ 100000000 := fun a ha => Nat.le_trans (tx_le _ a (Nat.le_refl _)) (Nat.le_trans (b_sub ha) hb)
 have hwl := wordC_len c.k
 unfold ctV
 rw [ds_map]
 have hmap : (c.l.map CT.d).length = c.l.length := List.length_map _
 refine PureCall.of_body tOk (fn := Tryz.f40) Tryz.func40 (by kernel_rfl) rfl (Nat.le_of_ble_eq_true rfl) (fun E => ?_)
 iterate 14 first|refine Yp rfl ?_|apply Yb|refine S.box rfl rfl rfl rfl ?_|apply Y1|apply Yn|apply Ys
 refine W.cond rfl (fun c1=>?_) fun c1=>?_
 ·skip
  apply Y1
  refine Yp rfl ?_
  apply Yn
  apply Yt
  apply Yv
  apply Yu
  exact Yz rfl rfl rfl (by rw [tx_eq]; unfold txtC; simp only [c1, Bool.false_eq_true, if_true, if_false] <;> rfl)
 apply Y1
 iterate 2 refine Yp rfl ?_
 apply Yn
 refine W.cond rfl (fun c2=>?_) fun c2=>?_
 ·skip
  apply Ys
  refine W.regionD mixed (by kernel_rfl) ?_
  iterate 2 refine Ym rfl rfl ?_
  refine D.pure tOk zOk rfl rfl (cat_ok (by simp only [List.length_append, List.length_cons, List.length_nil]; omega)) rfl ?_
  refine D.pure tOk zOk rfl rfl (cat_ok (by simp only [List.length_append, List.length_cons, List.length_nil]; omega)) rfl ?_
  iterate 2 refine Ym rfl rfl ?_
  refine D.call rfl rfl rfl rfl rfl (pc_ver_Quoted c.v (by omega)) ?_
  refine D.pure tOk zOk rfl rfl (cat_ok (by simp only [List.length_append, List.length_cons, List.length_nil]; omega)) rfl ?_
  refine Ym rfl rfl ?_
  apply Yn
  apply Yt
  apply Yv
  apply Yu
  exact Yz rfl rfl rfl (by rw [tx_eq]; unfold txtC; simp only [c1, c2, Bool.false_eq_true, if_true, if_false] <;> rfl)
 apply Y1
 iterate 2 refine Yp rfl ?_
 apply Yn
 refine W.cond rfl (fun c3=>?_) fun c3=>?_
 ·skip
  apply Ys
  refine W.regionD mixed (by kernel_rfl) ?_
  iterate 2 refine Ym rfl rfl ?_
  refine D.pure tOk zOk rfl rfl (cat_ok (by simp only [List.length_append, List.length_cons, List.length_nil]; omega)) rfl ?_
  refine D.pure tOk zOk rfl rfl (cat_ok (by simp only [List.length_append, List.length_cons, List.length_nil]; omega)) rfl ?_
  iterate 2 refine Ym rfl rfl ?_
  refine D.call rfl rfl rfl rfl rfl (pc_ver_Quoted c.v (by omega)) ?_
  refine D.pure tOk zOk rfl rfl (cat_ok (by simp only [List.length_append, List.length_cons, List.length_nil]; omega)) rfl ?_
  refine Ym rfl rfl ?_
  apply Yn
  apply Yt
  apply Yv
  apply Yu
  exact Yz rfl rfl rfl (by rw [tx_eq]; unfold txtC; simp only [c1, c2, c3, Bool.false_eq_true, if_true, if_false] <;> rfl)
 apply Y1
 iterate 2 refine Yp rfl ?_
 apply Yn
 refine W.cond rfl (fun c4=>?_) fun c4=>?_
 ·skip
  apply Y1
  iterate 2 refine Yp rfl ?_
  refine YP rfl (cat_ok (by simp only [List.length_append, List.length_cons, List.length_nil]; omega)) rfl ?_
  refine Yp rfl ?_
  apply Yn
  apply Yt
  apply Yv
  apply Yu
  exact Yz rfl rfl rfl (by rw [tx_eq]; unfold txtC; simp only [c1, c2, c3, c4, Bool.false_eq_true, if_true, if_false] <;> rfl)
 apply Y1
 iterate 2 refine Yp rfl ?_
 apply Yn
 refine W.cond rfl (fun c5=>?_) fun c5=>?_
 ·skip
  apply Ys
  refine W.regionD mixed (by kernel_rfl) ?_
  iterate 2 refine Ym rfl rfl ?_
  refine D.pure tOk zOk rfl rfl (cat_ok (by simp only [List.length_append, List.length_cons, List.length_nil]; omega)) rfl ?_
  refine D.pure tOk zOk rfl rfl (cat_ok (by simp only [List.length_append, List.length_cons, List.length_nil]; omega)) rfl ?_
  iterate 2 refine Ym rfl rfl ?_
  refine D.call rfl rfl rfl rfl rfl (pc_ver_Quoted c.v (by omega)) ?_
  refine D.pure tOk zOk rfl rfl (cat_ok (by simp only [List.length_append, List.length_cons, List.length_nil]; omega)) rfl ?_
  refine Ym rfl rfl ?_
  apply Yn
  apply Yt
  apply Yv
  apply Yu
  exact Yz rfl rfl rfl (by rw [tx_eq]; unfold txtC; simp only [c1, c2, c3, c4, c5, Bool.false_eq_true, if_true, if_false] <;> rfl)
 apply Y1
 iterate 2 refine Yp rfl ?_
 apply Yn
 refine W.cond rfl (fun c6=>?_) fun c6=>?_
 ·skip
  have hk6 := hc.not (by simpa using c6)
  have h0 : 0 < c.l.length := by omega
  have ht0 := hts _ (mem_ct h0)
  apply Y1
  iterate 2 refine Yp rfl ?_
  refine YE rfl (row_ok (i := 0) h0) (getD_map_ct (i := 0) h0) rfl ?_
  refine Yp rfl ?_
  refine S.call rfl rfl rfl rfl rfl (ih _ (mem_ct h0)) ?_
  refine YP rfl (cat_ok (by simp only [List.length_append, List.length_cons, List.length_nil]; omega)) rfl ?_
  refine Yp rfl ?_
  apply Yn
  apply Yt
  apply Yv
  apply Yu
  exact Yz rfl rfl rfl (by rw [tx_not c6 hk6])
 iterate 11 first|refine Yp rfl ?_|apply Yw|apply Yk|apply Y1|apply Y3|apply Yn|apply Ys
 refine W.cond rfl (fun c7=>?_) fun c7=>?_
 ·skip
  iterate 14 first|refine Yp rfl ?_|apply Yb|apply Y1|apply Yn|apply Ys|apply Yr
  refine W.cond rfl (fun c8=>?_) fun c8=>?_
  ·skip
   apply Y1
   refine Yp rfl ?_
   refine YP rfl (rfl) rfl ?_
   refine YP rfl (rfl) rfl ?_
   refine Yp rfl ?_
   apply Yn
   apply Yt
   apply Yv
   apply Yu
   exact Yz rfl rfl rfl (by rw [tx_list c1 c2 c3 c4 c5 c6, tl_0 (len_0 c8 hmap), ← word_w.1 c7])
  apply Y1
  iterate 2 refine Yp rfl ?_
  apply Yn
  refine W.cond rfl (fun c9=>?_) fun c9=>?_
  ·skip
   have h0 : 0 < c.l.length := by have := len_1 c9 hmap; omega
   have ht0 := hts _ (mem_ct h0)
   apply Y1
   refine Yp rfl ?_
   refine YP rfl (rfl) rfl ?_
   refine YP rfl (rfl) rfl ?_
   iterate 2 refine Yp rfl ?_
   refine YE rfl (row_ok (i := 0) h0) (getD_map_ct (i := 0) h0) rfl ?_
   refine Yp rfl ?_
   refine S.call rfl rfl rfl rfl rfl (ih _ (mem_ct h0)) ?_
   refine YP rfl (cat_ok (by simp only [List.length_append, List.length_cons, List.length_nil]; omega)) rfl ?_
   refine YP rfl (cat_ok (by simp only [List.length_append, List.length_cons, List.length_nil]; omega)) rfl ?_
   refine Yp rfl ?_
   apply Yn
   apply Yt
   apply Yv
   apply Yu
   exact Yz rfl rfl rfl (by rw [tx_list c1 c2 c3 c4 c5 c6, tl_1 (len_1 c9 hmap), ← word_w.1 c7])
  iterate 7 first|refine Yp rfl ?_|apply Yw|apply Yk|apply Y3|apply Ys|apply Yn
  refine W.newRow 4 1 9 rfl ?_
  apply Yr
  iterate 4 refine Yp rfl ?_
  apply Yn
  apply Yb
  refine W.loop (fun k st => ∃ i : Nat, ∃ v : Nat, ∃ al : Bool, ∃ wd : L8, i ≤ c.l.length ∧ wd = wordC c.k ∧ k = c.l.length - i ∧ ∃ t b2 r2 m2, st = ⟨t, [[.d (.int .i64 c.k), .d (.str c.n), .d (.str c.v), .d (.vec 4 (c.l.map CT.d))]] ++ b2, [some ⟨al, v, 1, 9, (((c.l.take i).map CT.tx).map fun x => [D.str x])⟩] ++ r2, [] ++ m2⟩ ∧ holdsL t [(1, .one (.ptr 0 0)), (3, .one (.d (.str wd))), (4, .one (.row 0 v 0 (((c.l.take i).map CT.tx).map fun x => [D.str x]).length)), (78, .one (.d (.vec 4 (c.l.map CT.d)))), (79, .one (.d (.int .i64 ((c.l.map CT.d).length : Int)))), (80, .one (.d (.int .i64 (i : Int))))]) (c.l.length) ⟨0, 0, false, _, Nat.zero_le _, (by first | exact word_w.1 c7 | exact word_w.2 c7), rfl, _, _, _, _, rfl, rfl, rfl, rfl, rfl, rfl, rfl, trivial⟩ ?_
  rintro k2 _ ⟨i, v, al, wd, f2_0, f2_1, rfl, t2, bb2, rr2, mm2, rfl, hh2⟩
  refine W.keepR _ _ _ _ _ _ _ hh2 rfl ?_
  apply Y1
  refine Yp rfl ?_
  apply Yn
  apply Ys
  refine W.cond rfl (fun c10=>?_) fun c10=>?_
  ·skip
   have hi := row_lt c10
   have hti := hts _ (mem_ct hi)
   apply Yk
   apply Yn
   apply Ys
   apply Yb
   apply Y1
   refine YE rfl (row_ok hi) (getD_map_ct hi) rfl ?_
   iterate 6 first|refine Yp rfl ?_|refine S.store tOk rfl rfl rfl rfl rfl rfl rfl rfl ?_|refine S.alloc tOk rfl rfl rfl rfl ?_|apply Y4
   refine S.call rfl rfl rfl rfl rfl (ih _ (mem_ct hi)) ?_
   refine S.slice tOk rfl rfl ?_
   refine S.append tOk rfl rfl rfl rfl rfl rfl rfl rfl rfl rfl rfl rfl (by show _ + 1 ≤ _; simp; omega) rfl (take_snoc2 CT.z hi) rfl ?_
   iterate 5 first|refine Yp rfl ?_|apply Yw|apply Y4
   refine loop_n (c.l.length - (i + 1)) (by omega) ⟨i + 1, _, _, _, hi, f2_1, rfl, _, _, _, _, rfl, rfl, rfl, rfl, rfl, rfl, inc_i64 (by omega), trivial⟩
  have hi := row_ge c10
  have hwd : wd.length ≤ 3 := by rw [f2_1]; exact hwl
  iterate 6 first|apply Ye|apply Yx|apply Yq|apply Ys|apply Yn
  refine W.freeze (q := ⟨_, _, _, _, _⟩) [4] rfl (by intro k hk; simp at hk; subst hk; rfl) ?_
  have htk : c.l.take i = c.l := List.take_of_length_le hi
  rw [htk]
  have hxl : (c.l.map CT.tx).length = c.l.length := List.length_map _
  have hj := join_bs ([32] ++ wd ++ [32]) (by rw [f2_1]; simp; omega) c.l (fun a ha => tx_le _ a (Nat.le_refl _))
  generalize hxs : c.l.map CT.tx = xs at hj hxl ⊢
  apply Yr
  iterate 2 refine Yp rfl ?_
  refine YP rfl (cat_ok (by simp only [List.length_append, List.length_cons, List.length_nil]; omega)) rfl ?_
  refine YP rfl (cat_ok (by simp only [List.length_append, List.length_cons, List.length_nil]; omega)) rfl ?_
  refine S.call rfl rfl rfl rfl rfl (pc_Join xs ([32] ++ wd ++ [32]) (by omega) (by omega)) ?_
  refine YP rfl (cat_ok (by simp only [List.length_append, List.length_cons, List.length_nil]; omega)) rfl ?_
  refine YP rfl (cat_ok (by simp only [List.length_append, List.length_cons, List.length_nil]; omega)) rfl ?_
  refine Yp rfl ?_
  apply Yn
  apply Yt
  exact Yz rfl rfl rfl (by rw [tx_list c1 c2 c3 c4 c5 c6, tl_2 (len_n0 c8 hmap) (len_n1 c9 hmap), hxs, f2_1])
 iterate 13 first|refine Yp rfl ?_|apply Yb|apply Yk|apply Y1|apply Yn|apply Ys
 refine W.cond rfl (fun c11=>?_) fun c11=>?_
 ·skip
  apply Y1
  refine Yp rfl ?_
  refine YP rfl (rfl) rfl ?_
  refine YP rfl (rfl) rfl ?_
  refine Yp rfl ?_
  apply Yn
  apply Yt
  apply Yv
  apply Yu
  exact Yz rfl rfl rfl (by rw [tx_list c1 c2 c3 c4 c5 c6, tl_0 (len_0 c11 hmap), ← word_w.2 c7])
 apply Y1
 iterate 2 refine Yp rfl ?_
 apply Yn
 refine W.cond rfl (fun c12=>?_) fun c12=>?_
 ·skip
  have h0 : 0 < c.l.length := by have := len_1 c12 hmap; omega
  have ht0 := hts _ (mem_ct h0)
  apply Y1
  refine Yp rfl ?_
  refine YP rfl (rfl) rfl ?_
  refine YP rfl (rfl) rfl ?_
  iterate 2 refine Yp rfl ?_
  refine YE rfl (row_ok (i := 0) h0) (getD_map_ct (i := 0) h0) rfl ?_
  refine Yp rfl ?_
  refine S.call rfl rfl rfl rfl rfl (ih _ (mem_ct h0)) ?_
  refine YP rfl (cat_ok (by simp only [List.length_append, List.length_cons, List.length_nil]; omega)) rfl ?_
  refine YP rfl (cat_ok (by simp only [List.length_append, List.length_cons, List.length_nil]; omega)) rfl ?_
  refine Yp rfl ?_
  apply Yn
  apply Yt
  apply Yv
  apply Yu
  exact Yz rfl rfl rfl (by rw [tx_list c1 c2 c3 c4 c5 c6, tl_1 (len_1 c12 hmap), ← word_w.2 c7])
 apply Yk
 apply Yw
 apply Y3
 refine Yp rfl ?_
 apply Yn
 apply Ys
 apply Ys
 refine W.newRow 4 1 9 rfl ?_
 apply Yr
 iterate 4 refine Yp rfl ?_
 apply Yn
 apply Yb
 refine W.loop (fun k st => ∃ i : Nat, ∃ v : Nat, ∃ al : Bool, ∃ wd : L8, i ≤ c.l.length ∧ wd = wordC c.k ∧ k = c.l.length - i ∧ ∃ t b2 r2 m2, st = ⟨t, [[.d (.int .i64 c.k), .d (.str c.n), .d (.str c.v), .d (.vec 4 (c.l.map CT.d))]] ++ b2, [some ⟨al, v, 1, 9, (((c.l.take i).map CT.tx).map fun x => [D.str x])⟩] ++ r2, [] ++ m2⟩ ∧ holdsL t [(1, .one (.ptr 0 0)), (3, .one (.d (.str wd))), (4, .one (.row 0 v 0 (((c.l.take i).map CT.tx).map fun x => [D.str x]).length)), (78, .one (.d (.vec 4 (c.l.map CT.d)))), (79, .one (.d (.int .i64 ((c.l.map CT.d).length : Int)))), (80, .one (.d (.int .i64 (i : Int))))]) (c.l.length) ⟨0, 0, false, _, Nat.zero_le _, (by first | exact word_w.1 c7 | exact word_w.2 c7), rfl, _, _, _, _, rfl, rfl, rfl, rfl, rfl, rfl, rfl, trivial⟩ ?_
 rintro k2 _ ⟨i, v, al, wd, f2_0, f2_1, rfl, t2, bb2, rr2, mm2, rfl, hh2⟩
 refine W.keepR _ _ _ _ _ _ _ hh2 rfl ?_
 apply Y1
 refine Yp rfl ?_
 apply Yn
 apply Ys
 refine W.cond rfl (fun c13=>?_) fun c13=>?_
 ·skip
  have hi := row_lt c13
  have hti := hts _ (mem_ct hi)
  apply Yk
  apply Yn
  apply Ys
  apply Yb
  apply Y1
  refine YE rfl (row_ok hi) (getD_map_ct hi) rfl ?_
  iterate 6 first|refine Yp rfl ?_|refine S.store tOk rfl rfl rfl rfl rfl rfl rfl rfl ?_|refine S.alloc tOk rfl rfl rfl rfl ?_|apply Y4
  refine S.call rfl rfl rfl rfl rfl (ih _ (mem_ct hi)) ?_
  refine S.slice tOk rfl rfl ?_
  refine S.append tOk rfl rfl rfl rfl rfl rfl rfl rfl rfl rfl rfl rfl (by show _ + 1 ≤ _; simp; omega) rfl (take_snoc2 CT.z hi) rfl ?_
  iterate 5 first|refine Yp rfl ?_|apply Yw|apply Y4
  refine loop_n (c.l.length - (i + 1)) (by omega) ⟨i + 1, _, _, _, hi, f2_1, rfl, _, _, _, _, rfl, rfl, rfl, rfl, rfl, rfl, inc_i64 (by omega), trivial⟩
 have hi := row_ge c13
 have hwd : wd.length ≤ 3 := by rw [f2_1]; exact hwl
 apply Yq
 apply Ye
 apply Ye
 apply Yx
 apply Yn
 apply Ys
 refine W.freeze (q := ⟨_, _, _, _, _⟩) [4] rfl (by intro k hk; simp at hk; subst hk; rfl) ?_
 have htk : c.l.take i = c.l := List.take_of_length_le hi
 rw [htk]
 have hxl : (c.l.map CT.tx).length = c.l.length := List.length_map _
 have hj := join_bs ([32] ++ wd ++ [32]) (by rw [f2_1]; simp; omega) c.l (fun a ha => tx_le _ a (Nat.le_refl _))
 generalize hxs : c.l.map CT.tx = xs at hj hxl ⊢
 apply Yr
 iterate 2 refine Yp rfl ?_
 refine YP rfl (cat_ok (by simp only [List.length_append, List.length_cons, List.length_nil]; omega)) rfl ?_
 refine YP rfl (cat_ok (by simp only [List.length_append, List.length_cons, List.length_nil]; omega)) rfl ?_
 refine S.call rfl rfl rfl rfl rfl (pc_Join xs ([32] ++ wd ++ [32]) (by omega) (by omega)) ?_
 refine YP rfl (cat_ok (by simp only [List.length_append, List.length_cons, List.length_nil]; omega)) rfl ?_
 refine YP rfl (cat_ok (by simp only [List.length_append, List.length_cons, List.length_nil]; omega)) rfl ?_
 refine Yp rfl ?_
 apply Yn
 apply Yt
 exact Yz rfl rfl rfl (by rw [tx_list c1 c2 c3 c4 c5 c6, tl_2 (len_n0 c11 hmap) (len_n1 c12 hmap), hxs, f2_1])
theorem pc_tx1 : ∀ (n : Nat) (c : CT), c.w ≤ n → CtT c → c.b ≤ 100000000 → PureCall Tryz.prog J 40 [ctV c] (.one (.d (.str c.tx)))
 | 0, c, h => by have := c.pos; omega
 | n + 1, c, h => fun hc hb => pc_tx1s c hc hb (fun a ha => pc_tx1 n a (by have := CT.sz ha; omega) (hc.l a ha) (Nat.le_trans (b_sub ha) hb))
theorem pc_condText (c : CT) (hc : CtT c) (hb : c.b ≤ 100000000) : PureCall Tryz.prog J 40 [ctV c] (.one (.d (.str c.tx))) := pc_tx1 _ c (Nat.le_refl _) hc hb
def printC (c : CT) : L8 × Int := if checkP c != 0 then ([], checkP c) else (c.tx, 0)
theorem printC_1 {c : CT} (h : (checkP c != 0) = true) : printC c = ([], checkP c) := if_pos h
theorem printC_2 {c : CT} (h : (checkP c != 0) = false) : printC c = (c.tx, 0) := if_neg (Bool.eq_false_iff.1 h)
section
variable {xs : List L8} {k : Int}
theorem lx_0 (h : (((xs.map fun x => ([.str x] : List D)).length : Int) == 0) = true) : txtL k xs = [40] ++ wordC k ++ [41] := by
 rw [List.length_map, beq_iff_eq] at h
 unfold txtL; rw [if_pos (by rw [beq_iff_eq]; omega)]
theorem lx_1 (h : (((xs.map fun x => ([.str x] : List D)).length : Int) == 1) = true) : txtL k xs = [40] ++ wordC k ++ [32] ++ xs.getD 0 [] ++ [41] := by
 rw [List.length_map, beq_iff_eq] at h
 unfold txtL; rw [if_neg (by rw [beq_iff_eq]; omega), if_pos (by rw [beq_iff_eq]; omega)]
theorem lx_2 (h : (((xs.map fun x => ([.str x] : List D)).length : Int) == 0) = false) (h1 : (((xs.map fun x => ([.str x] : List D)).length : Int) == 1) = false) : txtL k xs = [40] ++ Lib.join xs ([32] ++ wordC k ++ [32]) ++ [41] := by
 rw [List.length_map, beq_eq_false_iff_ne] at h h1
 unfold txtL; rw [if_neg (by rw [beq_iff_eq]; omega), if_neg (by rw [beq_iff_eq]; omega)]
theorem lx_at (h : (((xs.map fun x => ([.str x] : List D)).length : Int) == 1) = true) : 0 < xs.length := by
 rw [List.length_map, beq_iff_eq] at h; omega
theorem lx_b (h : 0 < xs.length) (hx : ∀ x ∈ xs, x.length ≤ 100000000) : (xs.getD 0 []).length ≤ 100000000 := by
 match xs, h with
 | a :: _, _ => exact hx a (by simp)
end
theorem pc_ver_PrintCond (c : CT) (hb0 : CtBig c) (hc : checkP c = 0 → CtT c) (hb : c.b ≤ 100000000) :
  PureCall Tryz.prog J 11 [ctV c] (.tup [.one (.d (.str (printC c).1)), .one (.d (.int .i64 (printC c).2))]) := by
 refine PureCall.of_body tOk (fn := Tryz.f11) Tryz.func11 (by kernel_rfl) rfl (Nat.le_of_ble_eq_true rfl) (fun E => ?_)
 iterate 8 first|refine Yp rfl ?_|refine S.box rfl rfl rfl rfl ?_|apply Y1|apply Ys|apply Yn
 refine S.call rfl rfl rfl rfl rfl (pc_ver_CheckCond c hb0) ?_
 iterate 5 first|refine Yp rfl ?_|apply Y3|apply Yn
 refine W.cond rfl (fun c1=>?_) fun c1=>?_
 ·skip
  iterate 7 first|refine Yp rfl ?_|apply Yu|apply Yt|apply Y1|apply Yn
  exact Yz rfl rfl rfl (by rw [printC_1 c1]; rfl)
 apply Yk
 apply Y3
 refine Yp rfl ?_
 refine S.call rfl rfl rfl rfl rfl (pc_condText c (hc (by simpa using c1)) hb) ?_
 iterate 2 refine Yp rfl ?_
 apply Yn
 apply Yt
 exact Yz rfl rfl rfl (by rw [printC_2 c1]; rfl)
theorem pc_tx2s (c : CT) (hc : CtT c) (hb : c.b ≤ 100000000) (ih : ∀ a ∈ c.l, PureCall Tryz.prog J 15 [ctV a] (.one (.d (.str a.tx)))) :
  PureCall Tryz.prog J 15 [ctV c] (.one (.d (.str c.tx))) := by
 have hl := hc.ll
 have hn := hc.n
 have hv := hc.v
 have hq := quoB_le hv
 have hbe := b_eq c
 have hll : (CT.ds c.l).length = c.l.length := by rw [ds_map, List.length_map]
 have hts : ∀ a ∈ c.l, a.tx.length ≤ 100000000 := fun a ha => Nat.le_trans (tx_le _ a (Nat.le_refl _)) (Nat.le_trans (b_sub ha) hb)
 have hwl := wordC_len c.k
 unfold ctV
 rw [ds_map]
 have hmap : (c.l.map CT.d).length = c.l.length := List.length_map _
 refine PureCall.of_body tOk (fn := Tryz.f15) Tryz.func15 (by kernel_rfl) rfl (Nat.le_of_ble_eq_true rfl) (fun E => ?_)
 iterate 14 first|refine Yp rfl ?_|apply Yb|refine S.box rfl rfl rfl rfl ?_|apply Y1|apply Yn|apply Ys
 refine W.cond rfl (fun c1=>?_) fun c1=>?_
 ·skip
  apply Y1
  refine Yp rfl ?_
  apply Yn
  apply Yt
  apply Yv
  apply Yu
  exact Yz rfl rfl rfl (by rw [tx_eq]; unfold txtC; simp only [c1, Bool.false_eq_true, if_true, if_false] <;> rfl)
 apply Y1
 iterate 2 refine Yp rfl ?_
 apply Yn
 refine W.cond rfl (fun c2=>?_) fun c2=>?_
 ·skip
  apply Ys
  refine W.regionD mixed (by kernel_rfl) ?_
  iterate 2 refine Ym rfl rfl ?_
  refine D.pure tOk zOk rfl rfl (cat_ok (by simp only [List.length_append, List.length_cons, List.length_nil]; omega)) rfl ?_
  refine D.pure tOk zOk rfl rfl (cat_ok (by simp only [List.length_append, List.length_cons, List.length_nil]; omega)) rfl ?_
  iterate 2 refine Ym rfl rfl ?_
  refine D.call rfl rfl rfl rfl rfl (pc_outref2_Quoted c.v (by omega)) ?_
  refine D.pure tOk zOk rfl rfl (cat_ok (by simp only [List.length_append, List.length_cons, List.length_nil]; omega)) rfl ?_
  refine Ym rfl rfl ?_
  apply Yn
  apply Yt
  apply Yv
  apply Yu
  exact Yz rfl rfl rfl (by rw [tx_eq]; unfold txtC; simp only [c1, c2, Bool.false_eq_true, if_true, if_false] <;> rfl)
 apply Y1
 iterate 2 refine Yp rfl ?_
 apply Yn
 refine W.cond rfl (fun c3=>?_) fun c3=>?_
 ·skip
  apply Ys
  refine W.regionD mixed (by kernel_rfl) ?_
  iterate 2 refine Ym rfl rfl ?_
  refine D.pure tOk zOk rfl rfl (cat_ok (by simp only [List.length_append, List.length_cons, List.length_nil]; omega)) rfl ?_
  refine D.pure tOk zOk rfl rfl (cat_ok (by simp only [List.length_append, List.length_cons, List.length_nil]; omega)) rfl ?_
  iterate 2 refine Ym rfl rfl ?_
  refine D.call rfl rfl rfl rfl rfl (pc_outref2_Quoted c.v (by omega)) ?_
  refine D.pure tOk zOk rfl rfl (cat_ok (by simp only [List.length_append, List.length_cons, List.length_nil]; omega)) rfl ?_
  refine Ym rfl rfl ?_
  apply Yn
  apply Yt
  apply Yv
  apply Yu
  exact Yz rfl rfl rfl (by rw [tx_eq]; unfold txtC; simp only [c1, c2, c3, Bool.false_eq_true, if_true, if_false] <;> rfl)
 apply Y1
 iterate 2 refine Yp rfl ?_
 apply Yn
 refine W.cond rfl (fun c4=>?_) fun c4=>?_
 ·skip
  apply Y1
  iterate 2 refine Yp rfl ?_
  refine YP rfl (cat_ok (by simp only [List.length_append, List.length_cons, List.length_nil]; omega)) rfl ?_
  refine Yp rfl ?_
  apply Yn
  apply Yt
  apply Yv
  apply Yu
  exact Yz rfl rfl rfl (by rw [tx_eq]; unfold txtC; simp only [c1, c2, c3, c4, Bool.false_eq_true, if_true, if_false] <;> rfl)
 apply Y1
 iterate 2 refine Yp rfl ?_
 apply Yn
 refine W.cond rfl (fun c5=>?_) fun c5=>?_
 ·skip
  apply Ys
  refine W.regionD mixed (by kernel_rfl) ?_
  iterate 2 refine Ym rfl rfl ?_
  refine D.pure tOk zOk rfl rfl (cat_ok (by simp only [List.length_append, List.length_cons, List.length_nil]; omega)) rfl ?_
  refine D.pure tOk zOk rfl rfl (cat_ok (by simp only [List.length_append, List.length_cons, List.length_nil]; omega)) rfl ?_
  iterate 2 refine Ym rfl rfl ?_
  refine D.call rfl rfl rfl rfl rfl (pc_outref2_Quoted c.v (by omega)) ?_
  refine D.pure tOk zOk rfl rfl (cat_ok (by simp only [List.length_append, List.length_cons, List.length_nil]; omega)) rfl ?_
  refine Ym rfl rfl ?_
  apply Yn
  apply Yt
  apply Yv
  apply Yu
  exact Yz rfl rfl rfl (by rw [tx_eq]; unfold txtC; simp only [c1, c2, c3, c4, c5, Bool.false_eq_true, if_true, if_false] <;> rfl)
 apply Y1
 iterate 2 refine Yp rfl ?_
 apply Yn
 refine W.cond rfl (fun c6=>?_) fun c6=>?_
 ·skip
  have hk6 := hc.not (by simpa using c6)
  have h0 : 0 < c.l.length := by omega
  have ht0 := hts _ (mem_ct h0)
  apply Y1
  iterate 2 refine Yp rfl ?_
  refine YE rfl (row_ok (i := 0) h0) (getD_map_ct (i := 0) h0) rfl ?_
  refine Yp rfl ?_
  refine S.call rfl rfl rfl rfl rfl (ih _ (mem_ct h0)) ?_
  refine YP rfl (cat_ok (by simp only [List.length_append, List.length_cons, List.length_nil]; omega)) rfl ?_
  refine Yp rfl ?_
  apply Yn
  apply Yt
  apply Yv
  apply Yu
  exact Yz rfl rfl rfl (by rw [tx_not c6 hk6])
 iterate 11 first|refine Yp rfl ?_|apply Yw|apply Yk|apply Y1|apply Y3|apply Yn|apply Ys
 refine W.cond rfl (fun c7=>?_) fun c7=>?_
 ·skip
  iterate 7 first|refine Yp rfl ?_|apply Y3|apply Ys|apply Yn|apply Yr
  refine W.newRow 4 1 9 rfl ?_
  apply Yr
  iterate 4 refine Yp rfl ?_
  apply Yn
  apply Yb
  refine W.loop (fun k st => ∃ i : Nat, ∃ v : Nat, ∃ al : Bool, ∃ wd : L8, i ≤ c.l.length ∧ wd = wordC c.k ∧ k = c.l.length - i ∧ ∃ t b2 r2 m2, st = ⟨t, [[.d (.int .i64 c.k), .d (.str c.n), .d (.str c.v), .d (.vec 4 (c.l.map CT.d))]] ++ b2, [some ⟨al, v, 1, 9, (((c.l.take i).map CT.tx).map fun x => [D.str x])⟩] ++ r2, [] ++ m2⟩ ∧ holdsL t [(1, .one (.ptr 0 0)), (3, .one (.d (.str wd))), (4, .one (.row 0 v 0 (((c.l.take i).map CT.tx).map fun x => [D.str x]).length)), (58, .one (.d (.vec 4 (c.l.map CT.d)))), (59, .one (.d (.int .i64 ((c.l.map CT.d).length : Int)))), (60, .one (.d (.int .i64 (i : Int))))]) (c.l.length) ⟨0, 0, false, _, Nat.zero_le _, (by first | exact word_w.1 c7 | exact word_w.2 c7), rfl, _, _, _, _, rfl, rfl, rfl, rfl, rfl, rfl, rfl, trivial⟩ ?_
  rintro k1 _ ⟨i, v, al, wd, f1_0, f1_1, rfl, t1, bb1, rr1, mm1, rfl, hh1⟩
  refine W.keepR _ _ _ _ _ _ _ hh1 rfl ?_
  apply Y1
  refine Yp rfl ?_
  apply Yn
  apply Ys
  refine W.cond rfl (fun c8=>?_) fun c8=>?_
  ·skip
   have hi := row_lt c8
   have hti := hts _ (mem_ct hi)
   apply Yk
   apply Yn
   apply Ys
   apply Yb
   apply Y1
   refine YE rfl (row_ok hi) (getD_map_ct hi) rfl ?_
   iterate 6 first|refine Yp rfl ?_|refine S.store tOk rfl rfl rfl rfl rfl rfl rfl rfl ?_|refine S.alloc tOk rfl rfl rfl rfl ?_|apply Y4
   refine S.call rfl rfl rfl rfl rfl (ih _ (mem_ct hi)) ?_
   refine S.slice tOk rfl rfl ?_
   refine S.append tOk rfl rfl rfl rfl rfl rfl rfl rfl rfl rfl rfl rfl (by show _ + 1 ≤ _; simp; omega) rfl (take_snoc2 CT.z hi) rfl ?_
   iterate 5 first|refine Yp rfl ?_|apply Yw|apply Y4
   refine loop_n (c.l.length - (i + 1)) (by omega) ⟨i + 1, _, _, _, hi, f1_1, rfl, _, _, _, _, rfl, rfl, rfl, rfl, rfl, rfl, inc_i64 (by omega), trivial⟩
  have hi := row_ge c8
  have hwd : wd.length ≤ 3 := by rw [f1_1]; exact hwl
  iterate 7 first|apply Ye|apply Yx|apply Yq|apply Ys|apply Yn
  refine W.freeze (q := ⟨_, _, _, _, _⟩) [4] rfl (by intro k hk; simp at hk; subst hk; rfl) ?_
  have htk : c.l.take i = c.l := List.take_of_length_le hi
  rw [htk]
  have hxl : (c.l.map CT.tx).length = c.l.length := List.length_map _
  have hxb : ∀ x ∈ c.l.map CT.tx, x.length ≤ 100000000 := by
   intro x hx
   obtain ⟨a, ha, rfl⟩ := List.mem_map.1 hx
   exact hts a ha
  have hj := join_bs ([32] ++ wd ++ [32]) (by rw [f1_1]; simp; omega) c.l (fun a ha => tx_le _ a (Nat.le_refl _))
  generalize hxs : c.l.map CT.tx = xs at hj hxl hxb ⊢
  iterate 9 first|refine Yp rfl ?_|apply Yb|apply Y1|apply Yn|apply Yr
  refine W.cond rfl (fun c9=>?_) fun c9=>?_
  ·skip
   apply Y1
   refine Yp rfl ?_
   refine YP rfl (cat_ok (by simp only [List.length_append, List.length_cons, List.length_nil]; omega)) rfl ?_
   refine YP rfl (cat_ok (by simp only [List.length_append, List.length_cons, List.length_nil]; omega)) rfl ?_
   refine Yp rfl ?_
   apply Yn
   apply Yt
   apply Yv
   apply Yu
   exact Yz rfl rfl rfl (by rw [tx_list c1 c2 c3 c4 c5 c6, hxs, lx_0 c9, f1_1])
  apply Y1
  iterate 2 refine Yp rfl ?_
  apply Yn
  refine W.cond rfl (fun c10=>?_) fun c10=>?_
  ·skip
   have h0 := lx_at c10
   have hx0 := lx_b h0 hxb
   apply Y1
   refine Yp rfl ?_
   refine YP rfl (cat_ok (by simp only [List.length_append, List.length_cons, List.length_nil]; omega)) rfl ?_
   refine YP rfl (cat_ok (by simp only [List.length_append, List.length_cons, List.length_nil]; omega)) rfl ?_
   refine Yp rfl ?_
   refine YE rfl (row_ok (i := 0) h0) (row_at (f := fun x => ([.str x] : List D)) (i := 0) [] h0) rfl ?_
   refine Yp rfl ?_
   refine YP rfl (cat_ok (by simp only [List.length_append, List.length_cons, List.length_nil]; omega)) rfl ?_
   refine YP rfl (cat_ok (by simp only [List.length_append, List.length_cons, List.length_nil]; omega)) rfl ?_
   refine Yp rfl ?_
   apply Yn
   apply Yt
   apply Yv
   apply Yu
   exact Yz rfl rfl rfl (by rw [tx_list c1 c2 c3 c4 c5 c6, hxs, lx_1 c10, f1_1])
  apply Yk
  apply Yw
  apply Y3
  iterate 2 refine Yp rfl ?_
  refine YP rfl (cat_ok (by simp only [List.length_append, List.length_cons, List.length_nil]; omega)) rfl ?_
  refine YP rfl (cat_ok (by simp only [List.length_append, List.length_cons, List.length_nil]; omega)) rfl ?_
  refine S.call rfl rfl rfl rfl rfl (pc_Join xs ([32] ++ wd ++ [32]) (by omega) (by omega)) ?_
  refine YP rfl (cat_ok (by simp only [List.length_append, List.length_cons, List.length_nil]; omega)) rfl ?_
  refine YP rfl (cat_ok (by simp only [List.length_append, List.length_cons, List.length_nil]; omega)) rfl ?_
  refine Yp rfl ?_
  apply Yn
  apply Yt
  exact Yz rfl rfl rfl (by rw [tx_list c1 c2 c3 c4 c5 c6, hxs, lx_2 c9 c10, f1_1])
 apply Yk
 apply Y3
 refine Yp rfl ?_
 apply Yn
 apply Ys
 apply Ys
 refine W.newRow 4 1 9 rfl ?_
 apply Yr
 iterate 4 refine Yp rfl ?_
 apply Yn
 apply Yb
 refine W.loop (fun k st => ∃ i : Nat, ∃ v : Nat, ∃ al : Bool, ∃ wd : L8, i ≤ c.l.length ∧ wd = wordC c.k ∧ k = c.l.length - i ∧ ∃ t b2 r2 m2, st = ⟨t, [[.d (.int .i64 c.k), .d (.str c.n), .d (.str c.v), .d (.vec 4 (c.l.map CT.d))]] ++ b2, [some ⟨al, v, 1, 9, (((c.l.take i).map CT.tx).map fun x => [D.str x])⟩] ++ r2, [] ++ m2⟩ ∧ holdsL t [(1, .one (.ptr 0 0)), (3, .one (.d (.str wd))), (4, .one (.row 0 v 0 (((c.l.take i).map CT.tx).map fun x => [D.str x]).length)), (58, .one (.d (.vec 4 (c.l.map CT.d)))), (59, .one (.d (.int .i64 ((c.l.map CT.d).length : Int)))), (60, .one (.d (.int .i64 (i : Int))))]) (c.l.length) ⟨0, 0, false, _, Nat.zero_le _, (by first | exact word_w.1 c7 | exact word_w.2 c7), rfl, _, _, _, _, rfl, rfl, rfl, rfl, rfl, rfl, rfl, trivial⟩ ?_
 rintro k1 _ ⟨i, v, al, wd, f1_0, f1_1, rfl, t1, bb1, rr1, mm1, rfl, hh1⟩
 refine W.keepR _ _ _ _ _ _ _ hh1 rfl ?_
 apply Y1
 refine Yp rfl ?_
 apply Yn
 apply Ys
 refine W.cond rfl (fun c11=>?_) fun c11=>?_
 ·skip
  have hi := row_lt c11
  have hti := hts _ (mem_ct hi)
  apply Yk
  apply Yn
  apply Ys
  apply Yb
  apply Y1
  refine YE rfl (row_ok hi) (getD_map_ct hi) rfl ?_
  iterate 6 first|refine Yp rfl ?_|refine S.store tOk rfl rfl rfl rfl rfl rfl rfl rfl ?_|refine S.alloc tOk rfl rfl rfl rfl ?_|apply Y4
  refine S.call rfl rfl rfl rfl rfl (ih _ (mem_ct hi)) ?_
  refine S.slice tOk rfl rfl ?_
  refine S.append tOk rfl rfl rfl rfl rfl rfl rfl rfl rfl rfl rfl rfl (by show _ + 1 ≤ _; simp; omega) rfl (take_snoc2 CT.z hi) rfl ?_
  iterate 5 first|refine Yp rfl ?_|apply Yw|apply Y4
  refine loop_n (c.l.length - (i + 1)) (by omega) ⟨i + 1, _, _, _, hi, f1_1, rfl, _, _, _, _, rfl, rfl, rfl, rfl, rfl, rfl, inc_i64 (by omega), trivial⟩
 have hi := row_ge c11
 have hwd : wd.length ≤ 3 := by rw [f1_1]; exact hwl
 iterate 7 first|apply Ye|apply Yx|apply Yq|apply Ys|apply Yn
 refine W.freeze (q := ⟨_, _, _, _, _⟩) [4] rfl (by intro k hk; simp at hk; subst hk; rfl) ?_
 have htk : c.l.take i = c.l := List.take_of_length_le hi
 rw [htk]
 have hxl : (c.l.map CT.tx).length = c.l.length := List.length_map _
 have hxb : ∀ x ∈ c.l.map CT.tx, x.length ≤ 100000000 := by
  intro x hx
  obtain ⟨a, ha, rfl⟩ := List.mem_map.1 hx
  exact hts a ha
 have hj := join_bs ([32] ++ wd ++ [32]) (by rw [f1_1]; simp; omega) c.l (fun a ha => tx_le _ a (Nat.le_refl _))
 generalize hxs : c.l.map CT.tx = xs at hj hxl hxb ⊢
 iterate 9 first|refine Yp rfl ?_|apply Yb|apply Y1|apply Yn|apply Yr
 refine W.cond rfl (fun c12=>?_) fun c12=>?_
 ·skip
  apply Y1
  refine Yp rfl ?_
  refine YP rfl (cat_ok (by simp only [List.length_append, List.length_cons, List.length_nil]; omega)) rfl ?_
  refine YP rfl (cat_ok (by simp only [List.length_append, List.length_cons, List.length_nil]; omega)) rfl ?_
  refine Yp rfl ?_
  apply Yn
  apply Yt
  apply Yv
  apply Yu
  exact Yz rfl rfl rfl (by rw [tx_list c1 c2 c3 c4 c5 c6, hxs, lx_0 c12, f1_1])
 apply Y1
 iterate 2 refine Yp rfl ?_
 apply Yn
 refine W.cond rfl (fun c13=>?_) fun c13=>?_
 ·skip
  have h0 := lx_at c13
  have hx0 := lx_b h0 hxb
  apply Y1
  refine Yp rfl ?_
  refine YP rfl (cat_ok (by simp only [List.length_append, List.length_cons, List.length_nil]; omega)) rfl ?_
  refine YP rfl (cat_ok (by simp only [List.length_append, List.length_cons, List.length_nil]; omega)) rfl ?_
  refine Yp rfl ?_
  refine YE rfl (row_ok (i := 0) h0) (row_at (f := fun x => ([.str x] : List D)) (i := 0) [] h0) rfl ?_
  refine Yp rfl ?_
  refine YP rfl (cat_ok (by simp only [List.length_append, List.length_cons, List.length_nil]; omega)) rfl ?_
  refine YP rfl (cat_ok (by simp only [List.length_append, List.length_cons, List.length_nil]; omega)) rfl ?_
  refine Yp rfl ?_
  apply Yn
  apply Yt
  apply Yv
  apply Yu
  exact Yz rfl rfl rfl (by rw [tx_list c1 c2 c3 c4 c5 c6, hxs, lx_1 c13, f1_1])
 apply Yk
 apply Yw
 apply Y3
 iterate 2 refine Yp rfl ?_
 refine YP rfl (cat_ok (by simp only [List.length_append, List.length_cons, List.length_nil]; omega)) rfl ?_
 refine YP rfl (cat_ok (by simp only [List.length_append, List.length_cons, List.length_nil]; omega)) rfl ?_
 refine S.call rfl rfl rfl rfl rfl (pc_Join xs ([32] ++ wd ++ [32]) (by omega) (by omega)) ?_
 refine YP rfl (cat_ok (by simp only [List.length_append, List.length_cons, List.length_nil]; omega)) rfl ?_
 refine YP rfl (cat_ok (by simp only [List.length_append, List.length_cons, List.length_nil]; omega)) rfl ?_
 refine Yp rfl ?_
 apply Yn
 apply Yt
 exact Yz rfl rfl rfl (by rw [tx_list c1 c2 c3 c4 c5 c6, hxs, lx_2 c12 c13, f1_1])
theorem pc_tx2 : ∀ (n : Nat) (c : CT), c.w ≤ n → CtT c → c.b ≤ 100000000 → PureCall Tryz.prog J 15 [ctV c] (.one (.d (.str c.tx)))
 | 0, c, h => by have := c.pos; omega
 | n + 1, c, h => fun hc hb => pc_tx2s c hc hb (fun a ha => pc_tx2 n a (by have := CT.sz ha; omega) (hc.l a ha) (Nat.le_trans (b_sub ha) hb))
theorem pc_CondText (c : CT) (hc : CtT c) (hb : c.b ≤ 100000000) : PureCall Tryz.prog J 15 [ctV c] (.one (.d (.str c.tx))) := pc_tx2 _ c (Nat.le_refl _) hc hb
end
section
open Go
theorem spanE_0 {s : Sp} (h : spanE s = 0) : (s.hf = false → s.f = Ver.z) ∧ (s.ht = false → s.t = Ver.z) ∧ s.f.check = 0 ∧ s.t.check = 0 ∧ (s.hf = true → s.ht = true → orderB s.f s.t < 0) := by
 have hc := span_checks h
 have hform : ((!(s.f.eqb Ver.z) && !s.hf) || (!(s.t.eqb Ver.z) && !s.ht)) = false := by
  cases hx : ((!(s.f.eqb Ver.z) && !s.hf) || (!(s.t.eqb Ver.z) && !s.ht)) with
  | false => rfl
  | true => have := spE_form hx; omega
 have hf := form_f hform
 refine ⟨hf.1, hf.2, hc.1, hc.2, fun h1 h2 => ?_⟩
 have e2 : (s.hf && s.f.check != 0) = false := by simp [hc.1]
 have e3 : (s.ht && s.t.check != 0) = false := by simp [hc.2]
 cases h4 : ((s.hf && s.ht) && decide (orderB s.f s.t ≥ 0)) with
 | false => rw [h1, h2] at h4; simpa using h4
 | true => have := spE_o hform e2 e3 h4; omega
theorem spAt_zero {ss : List Sp} (h : rangeE ss = 0) {i : Nat} (hi : i < ss.length) : spAt ss i = 0 := by
 unfold rangeE at h
 split at h
 ·skip
  exact absurd h (by decide)
 ·skip
  exact firstNe_zero h _ (List.mem_map.2 ⟨i, List.mem_range.2 hi, rfl⟩)
theorem span_zero {ss : List Sp} (h : rangeE ss = 0) {i : Nat} (hi : i < ss.length) : spanE (ss.getD i Sp.z) = 0 := by
 have h1 := spAt_zero h hi
 cases hx : (spanE (ss.getD i Sp.z) != 0) with
 | false => simpa using hx
 | true => rw [spAt_own hx] at h1; exact h1
theorem span_in {ss : List Sp} (h : rangeE ss = 0) {s : Sp} (hs : s ∈ ss) : spanE s = 0 := by
 obtain ⟨i, hi, rfl⟩ := List.getElem_of_mem hs
 have := span_zero h hi
 rwa [List.getD_eq_getElem?_getD, List.getElem?_eq_getElem hi] at this
theorem within_inside {s : Sp} {v : Ver} (hf : s.f.check = 0) (ht : s.t.check = 0) (hv : v.check = 0) : withinB s v = insideR s v := by
 unfold withinB insideR
 rw [compare_eq hv hf, compare_eq hv ht]
 congr 1
 ·skip
  cases s.hf
  ·skip
   rfl
  ·skip
   rw [Bool.eq_iff_iff]; simp
 ·skip
  cases s.ht
  ·skip
   rfl
  ·skip
   rw [Bool.eq_iff_iff]; simp
theorem has_eq {ss : List Sp} {v : Ver} (h : rangeE ss = 0) (hv : v.check = 0) : hasB ss v = hasR ss v := by
 unfold hasB hasR
 have hc : ∀ s ∈ ss, s.f.check = 0 ∧ s.t.check = 0 := fun s hs => ⟨(spanE_0 (span_in h hs)).2.2.1, (spanE_0 (span_in h hs)).2.2.2.1⟩
 have key : ∀ s ∈ ss, hasAt ss.length v s = hasAtR (allR ss) v s := fun s hs => by
  unfold hasAt hasAtR
  rw [within_inside (hc s hs).1 (hc s hs).2 hv]
  have e : (((ss.length : Int) == 1 && !s.hf) && !s.ht) = allR ss := by
   unfold allR
   match ss, hs with
   | [x], hs => rw [List.mem_singleton.1 hs]; rfl
   | x :: y :: l, hs =>
    have : (((x :: y :: l).length : Int) == 1) = false := by simp; omega
    rw [this]; rfl
  rw [e]
 rw [Bool.eq_iff_iff, List.any_eq_true, List.any_eq_true]
 exact ⟨fun ⟨s, h1, h2⟩ => ⟨s, h1, by rw [← key s h1]; exact h2⟩, fun ⟨s, h1, h2⟩ => ⟨s, h1, by rw [key s h1]; exact h2⟩⟩
end
section
open Go
theorem rangeB_E (s : L8) : rangeE (rangeB s).1 = 0 := by
 have h0 : rangeE [] = 0 := by decide
 unfold rangeB
 repeat' split
 ·skip
  exact h0
 ·skip
  exact h0
 ·skip
  exact h0
 ·skip
  exact h0
 ·skip
  exact h0
 ·skip
  rename_i h
  simpa using h
theorem check_e {v : Ver} (h : v.check = 0) : v.e.length ≤ 40 := by
  unfold Ver.check checkB at h
  split at h
  · cases h
  · split at h
    · cases h
    · rename_i h2
      simp only [Bool.and_eq_true, Bool.not_eq_true', not_and, Bool.not_eq_false] at h2
      by_cases he : v.e = []
      · rw [he]; exact Nat.zero_le _
      · have h3 := h2 (by simpa using he)
        unfold earlyB at h3
        rw [Bool.and_eq_true, decide_eq_true_eq] at h3
        omega
theorem range_sp (s : L8) : ∀ x ∈ (rangeB s).1, SpLen x := fun x hx => by
 have h := spanE_0 (span_in (rangeB_E s) hx)
 have h1 := check_e h.2.2.1
 have h2 := check_e h.2.2.2.1
 exact ⟨by omega, by omega⟩
abbrev Tell := L8 → L8 × Bool
def holdK (k : Int) (n v : L8) (xs : List Bool) (f g : Tell) : Bool :=
 if k == 2 then (f n).2 && (f n).1 == v else if k == 3 then (g n).2 && (g n).1 == v else if k == 4 then (g n).2
 else if k == 5 then ((f n).2 && (parseB (f n).1).2 == 0 && (rangeB v).2 == 0) && hasB (rangeB v).1 (parseB (f n).1).1
 else if k == 6 then !xs.getD 0 false else if k == 7 then !xs.any (fun b => !b) else if k == 8 then xs.any id else true
mutual
def CT.ho (f g : Tell) : CT → Bool
  | .mk k n v l => holdK k n v (CT.hos f g l) f g
def CT.hos (f g : Tell) : List CT → List Bool
  | [] => []
  | c :: l => CT.ho f g c :: CT.hos f g l
end
theorem hos_map (f g : Tell) : ∀ (l : List CT), CT.hos f g l = l.map (CT.ho f g)
  | [] => rfl
  | c :: l => by
    show CT.ho f g c :: CT.hos f g l = _
    rw [hos_map f g l]; rfl
theorem ho_eq (f g : Tell) (c : CT) : c.ho f g = holdK c.k c.n c.v (c.l.map (CT.ho f g)) f g := by
 cases c with | mk k n v l =>
 show holdK k n v (CT.hos f g l) f g = _
 rw [hos_map]; rfl
section
variable {f g : Tell} {c : CT}
theorem ho_2 (h : (c.k == 2) = true) : c.ho f g = ((f c.n).2 && (f c.n).1 == c.v) := by rw [ho_eq]; exact if_pos h
theorem ho_3 (h2 : (c.k == 2) = false) (h : (c.k == 3) = true) : c.ho f g = ((g c.n).2 && (g c.n).1 == c.v) := by rw [ho_eq, holdK, if_neg (Bool.eq_false_iff.1 h2)]; exact if_pos h
theorem ho_4 (h2 : (c.k == 2) = false) (h3 : (c.k == 3) = false) (h : (c.k == 4) = true) : c.ho f g = (g c.n).2 := by
 rw [ho_eq, holdK, if_neg (Bool.eq_false_iff.1 h2), if_neg (Bool.eq_false_iff.1 h3)]; exact if_pos h
theorem ho_5 (h2 : (c.k == 2) = false) (h3 : (c.k == 3) = false) (h4 : (c.k == 4) = false) (h : (c.k == 5) = true) : c.ho f g = (((f c.n).2 && (parseB (f c.n).1).2 == 0 && (rangeB c.v).2 == 0) && hasB (rangeB c.v).1 (parseB (f c.n).1).1) := by
 rw [ho_eq, holdK, if_neg (Bool.eq_false_iff.1 h2), if_neg (Bool.eq_false_iff.1 h3), if_neg (Bool.eq_false_iff.1 h4)]; exact if_pos h
theorem ho_6 (h : (c.k == 6) = true) (h1 : 0 < c.l.length) : c.ho f g = !(c.l.getD 0 CT.z).ho f g := by
 have hk : c.k = 6 := by simpa using h
 rw [ho_eq, hk]
 show (!(c.l.map (CT.ho f g)).getD 0 false) = _
 match c.l, h1 with
 | a :: _, _ => rfl
theorem ho_7 (h : (c.k == 7) = true) : c.ho f g = !c.l.any (fun a => !a.ho f g) := by
 have hk : c.k = 7 := by simpa using h
 rw [ho_eq, hk]
 show (!(c.l.map (CT.ho f g)).any (fun b => !b)) = _
 rw [List.any_map]; rfl
theorem ho_8 (h : (c.k == 8) = true) : c.ho f g = c.l.any (fun a => a.ho f g) := by
 have hk : c.k = 8 := by simpa using h
 rw [ho_eq, hk]
 show (c.l.map (CT.ho f g)).any id = _
 rw [List.any_map]; rfl
theorem ho_0 (h2 : (c.k == 2) = false) (h3 : (c.k == 3) = false) (h4 : (c.k == 4) = false) (h5 : (c.k == 5) = false) (h6 : (c.k == 6) = false) (h7 : (c.k == 7) = false) (h8 : (c.k == 8) = false) : c.ho f g = true := by
 rw [ho_eq, holdK]; simp only [h2, h3, h4, h5, h6, h7, h8, Bool.false_eq_true, if_false]
end
end
section
open Go
open Go.RowKit
attribute [local irreducible] thenK blockK W
attribute [local irreducible] rangeB pathB nameB valueB bsI bsF valO valT parseB hasB CT.ho holdK
theorem pc_IndexFunc_Cond (f : Nat) (caps : List C) (b : List (List C)) (r : List (Option RowO)) (m : List (List (DV × DV))) (φ : CT → Bool) (l : List CT) (hl : l.length ≤ 1000000000) (hc : ∀ a ∈ l, HCall Tryz.prog J f (ctV a :: caps.map V.one) b r m (isH (.one (.d (.bool (φ a)))) b r m)) :
  HCall Tryz.prog J 115 ([.one (.d (.vec 4 (l.map CT.d))), .one (.clo f caps)]) (b) (r) (m) (isH (.one (.d (.int .i64 (idxOf φ l)))) (b) (r) (m)) := by
 have hmap : (l.map CT.d).length = l.length := List.length_map _
 refine HCall.ofN tOk (fn := Tryz.f115) Tryz.func115 (by kernel_rfl) rfl (Nat.le_of_ble_eq_true rfl) (fun E => ?_)
 iterate 9 first|refine Yp rfl ?_|apply Y1|apply Yn|apply Ys
 apply Yb
 refine W.loop (fun k st => ∃ i : Nat, i ≤ l.length ∧ (l.take i).any φ = false ∧ k = l.length - i ∧ ∃ t, st = ⟨t, b, r, m⟩ ∧ holdsL t [(0, .one (.d (.vec 4 (l.map CT.d)))), (1, .one (.clo f caps)), (6, .one (.d (.vec 4 (l.map CT.d)))), (7, .one (.d (.int .i64 ((l.map CT.d).length : Int)))), (8, .one (.d (.int .i64 (i : Int))))]) (l.length) ⟨0, Nat.zero_le _, by simp, rfl, _, rfl, rfl, rfl, rfl, rfl, rfl, trivial⟩ ?_
 rintro k0 _ ⟨i, f0_0, f0_1, rfl, t0, rfl, hh0⟩
 refine W.keep _ hh0 ?_
 apply Y1
 refine Yp rfl ?_
 apply Yn
 apply Ys
 refine W.cond rfl (fun c1=>?_) fun c1=>?_
 ·skip
  have hi := row_lt c1
  iterate 11 first|refine Yp rfl ?_|apply Yb|apply Yk|apply Y3|apply Y1|apply Ys|apply Yn
  refine YE rfl (row_ok hi) (getD_map_ct hi) rfl ?_
  refine Yp rfl ?_
  refine S.hcallU rfl rfl rfl (hc (l.getD i CT.z) (mem_ct hi)) ?_
  apply Yn
  refine W.cond rfl (fun c2=>?_) fun c2=>?_
  ·skip
   iterate 10 first|apply Yu|apply Yv|refine Yp rfl ?_|apply Yt|apply Y1|apply Yn
   exact ⟨_, rfl, LeG.of_eq (congrArg (fun x => V.one (C.d (D.int .i64 x))) (idxOf_at (d := CT.z) hi f0_1 c2).symm), rfl, rfl, rfl⟩
  apply Yk
  apply Yw
  apply Y4
  iterate 2 refine Yp rfl ?_
  refine loop_n (l.length - (i + 1)) (by omega) ⟨i + 1, hi, any_take (d := CT.z) hi f0_1 c2, rfl, _, rfl, rfl, rfl, rfl, rfl, inc_i64 (by omega), trivial⟩
 have hi := row_ge c1
 apply Yq
 apply Ye
 apply Ye
 apply Yx
 apply Y3
 refine Yp rfl ?_
 apply Yn
 apply Yt
 exact ⟨_, rfl, LeG.of_eq (congrArg (fun x => V.one (C.d (D.int .i64 x))) (idxOf_none (any_end hi f0_1)).symm), rfl, rfl, rfl⟩
theorem pc_ContainsFunc_Cond (f : Nat) (caps : List C) (b : List (List C)) (r : List (Option RowO)) (m : List (List (DV × DV))) (φ : CT → Bool) (l : List CT) (hl : l.length ≤ 1000000000) (hc : ∀ a ∈ l, HCall Tryz.prog J f (ctV a :: caps.map V.one) b r m (isH (.one (.d (.bool (φ a)))) b r m)) :
  HCall Tryz.prog J 66 ([.one (.d (.vec 4 (l.map CT.d))), .one (.clo f caps)]) (b) (r) (m) (isH (.one (.d (.bool (l.any φ)))) (b) (r) (m)) := by
 refine HCall.ofN tOk (fn := Tryz.f66) Tryz.func66 (by kernel_rfl) rfl (Nat.le_of_ble_eq_true rfl) (fun E => ?_)
 iterate 5 first|refine Yp rfl ?_|apply Y3|apply Y1
 refine S.hcallD rfl rfl rfl rfl (pc_IndexFunc_Cond f caps b r m φ l hl hc) ?_
 iterate 2 refine Yp rfl ?_
 apply Yn
 apply Yt
 exact ⟨_, rfl, LeG.of_eq (congrArg (fun x => V.one (C.d (D.bool x))) idxOf_ge), rfl, rfl, rfl⟩
theorem pc_one1 (fl gl : List Stg) (a : CT) (ha : HCall Tryz.prog J 29 [ctV a, .one (.clo 49 [.ptr 0 0]), .one (.clo 49 [.ptr 1 0])] [[.d (.vec 2 (fl.map stgD))], [.d (.vec 2 (gl.map stgD))]] [] [] (isH (.one (.d (.bool (a.ho (valT fl) (valT gl))))) [[.d (.vec 2 (fl.map stgD))], [.d (.vec 2 (gl.map stgD))]] [] [])) :
  HCall Tryz.prog J 73 ([ctV a, .one (.ptr 2 0), .one (.ptr 3 0)]) ([[.d (.vec 2 (fl.map stgD))], [.d (.vec 2 (gl.map stgD))], [.clo 49 [.ptr 0 0]], [.clo 49 [.ptr 1 0]]]) ([]) ([]) (isH (.one (.d (.bool (a.ho (valT fl) (valT gl))))) ([[.d (.vec 2 (fl.map stgD))], [.d (.vec 2 (gl.map stgD))], [.clo 49 [.ptr 0 0]], [.clo 49 [.ptr 1 0]]]) ([]) ([])) := by
 refine HCall.ofD tOk ⟨4, 0, 0⟩ (fn := Tryz.f73) Tryz.func73 (by kernel_rfl) rfl (Nat.le_of_ble_eq_true rfl) (fun E => ?_)
 iterate 7 first|refine Yp rfl ?_|refine S.box rfl rfl rfl rfl ?_|apply Y3|apply Y1
 refine S.hcallD rfl rfl rfl rfl (ha.fd [0, 1] [] [] rfl) ?_
 refine Yp rfl ?_
 apply Yn
 apply Yt
 exact ⟨_, rfl, rfl, LeG.refl _, rfl, rfl, rfl⟩
theorem pc_one2 (fl gl : List Stg) (a : CT) (ha : HCall Tryz.prog J 29 [ctV a, .one (.clo 49 [.ptr 0 0]), .one (.clo 49 [.ptr 1 0])] [[.d (.vec 2 (fl.map stgD))], [.d (.vec 2 (gl.map stgD))]] [] [] (isH (.one (.d (.bool (a.ho (valT fl) (valT gl))))) [[.d (.vec 2 (fl.map stgD))], [.d (.vec 2 (gl.map stgD))]] [] [])) :
  HCall Tryz.prog J 77 ([ctV a, .one (.ptr 4 0)]) ([[.d (.vec 2 (fl.map stgD))], [.d (.vec 2 (gl.map stgD))], [.clo 49 [.ptr 0 0]], [.clo 49 [.ptr 1 0]], [.clo 73 [.ptr 2 0, .ptr 3 0]]]) ([]) ([]) (isH (.one (.d (.bool (!a.ho (valT fl) (valT gl))))) ([[.d (.vec 2 (fl.map stgD))], [.d (.vec 2 (gl.map stgD))], [.clo 49 [.ptr 0 0]], [.clo 49 [.ptr 1 0]], [.clo 73 [.ptr 2 0, .ptr 3 0]]]) ([]) ([])) := by
 refine HCall.ofD tOk ⟨5, 0, 0⟩ (fn := Tryz.f77) Tryz.func77 (by kernel_rfl) rfl (Nat.le_of_ble_eq_true rfl) (fun E => ?_)
 iterate 6 first|refine Yp rfl ?_|refine S.box rfl rfl rfl rfl ?_|apply Y3|apply Y1
 refine S.hcallD rfl rfl rfl rfl ((pc_one1 fl gl a ha).fd [0, 1, 2, 3] [] [] rfl) ?_
 iterate 2 refine Yp rfl ?_
 apply Yn
 apply Yt
 exact ⟨_, rfl, rfl, LeG.refl _, rfl, rfl, rfl⟩
structure StgL (l : List Stg) : Prop where
 n : l.length ≤ 4294967000
 v : ∀ s ∈ l, s.v.length < 4294967000
 r : Rise l
theorem valT_len {l : List Stg} (h : StgL l) (key : L8) : (valT l key).1.length < 4294967000 := by
 unfold valT
 cases hq : valO l key with
 | none => exact (by decide : ([] : L8).length < 4294967000)
 | some s =>
  unfold valO at hq
  exact h.v s (List.mem_of_find?_eq_some hq)
theorem pc_holdss (fl gl : List Stg) (hf : StgL fl) (hg : StgL gl) (c : CT) (hc : CtT c) (ih : ∀ a ∈ c.l, HCall Tryz.prog J 29 [ctV a, .one (.clo 49 [.ptr 0 0]), .one (.clo 49 [.ptr 1 0])] [[.d (.vec 2 (fl.map stgD))], [.d (.vec 2 (gl.map stgD))]] [] [] (isH (.one (.d (.bool (a.ho (valT fl) (valT gl))))) [[.d (.vec 2 (fl.map stgD))], [.d (.vec 2 (gl.map stgD))]] [] [])) :
  HCall Tryz.prog J 29 ([ctV c, .one (.clo 49 [.ptr 0 0]), .one (.clo 49 [.ptr 1 0])]) ([[.d (.vec 2 (fl.map stgD))], [.d (.vec 2 (gl.map stgD))]]) ([]) ([]) (isH (.one (.d (.bool (c.ho (valT fl) (valT gl))))) ([[.d (.vec 2 (fl.map stgD))], [.d (.vec 2 (gl.map stgD))]]) ([]) ([])) := by
 have hl := hc.ll
 have hv := hc.v
 have hfl := valT_len hf c.n
 have hpe := parse_e (valT fl c.n).1
 have hrl := rangeB_len c.v
 unfold ctV
 rw [ds_map]
 refine HCall.ofD tOk ⟨2, 0, 0⟩ (fn := Tryz.f29) Tryz.func29 (by kernel_rfl) rfl (Nat.le_of_ble_eq_true rfl) (fun E => ?_)
 apply Y1
 iterate 3 refine S.box rfl rfl rfl rfl ?_
 refine Yp rfl ?_
 apply Y3
 refine S.makeFunc rfl rfl rfl ?_
 iterate 13 first|refine Yp rfl ?_|apply Yb|refine S.store tOk rfl rfl rfl rfl rfl rfl rfl rfl ?_|refine S.alloc tOk rfl rfl rfl rfl ?_|apply Y1|apply Yn|apply Ys
 refine W.cond rfl (fun c1=>?_) fun c1=>?_
 ·skip
  apply Y1
  iterate 3 refine Yp rfl ?_
  refine S.hcallD rfl rfl rfl rfl ((pc_inF fl hf.n hf.r c.n).fd [0] [] [] rfl) ?_
  iterate 18 first|refine S.pickAnd tOk zOk rfl rfl tg ?_|refine Yp rfl ?_|refine Yg rfl rfl tg ?_|apply Yu|apply Yv|apply Yt|apply Y3|apply Yn
  exact ⟨_, rfl, rfl, LeG.of_force rfl (by first | (rw [ho_2 c1]; done) | (rw [ho_3 c1 c2]; done) | (rw [ho_4 c1 c2 c3]; rfl) | (rw [ho_5 c1 c2 c3 c4]; done) | (rw [ho_6 c5 h0]; done) | (rw [ho_7 c6]; done) | (rw [ho_8 c7]; done) | (rw [ho_0 c1 c2 c3 c4 c5 c6 c7]; rfl)), rfl, rfl, rfl⟩
 apply Y1
 iterate 2 refine Yp rfl ?_
 apply Yn
 refine W.cond rfl (fun c2=>?_) fun c2=>?_
 ·skip
  apply Y1
  iterate 3 refine Yp rfl ?_
  refine S.hcallD rfl rfl rfl rfl ((pc_inF gl hg.n hg.r c.n).fd [1] [] [] rfl) ?_
  iterate 18 first|refine S.pickAnd tOk zOk rfl rfl tg ?_|refine Yp rfl ?_|refine Yg rfl rfl tg ?_|apply Yu|apply Yv|apply Yt|apply Y3|apply Yn
  exact ⟨_, rfl, rfl, LeG.of_force rfl (by first | (rw [ho_2 c1]; done) | (rw [ho_3 c1 c2]; done) | (rw [ho_4 c1 c2 c3]; rfl) | (rw [ho_5 c1 c2 c3 c4]; done) | (rw [ho_6 c5 h0]; done) | (rw [ho_7 c6]; done) | (rw [ho_8 c7]; done) | (rw [ho_0 c1 c2 c3 c4 c5 c6 c7]; rfl)), rfl, rfl, rfl⟩
 apply Y1
 iterate 2 refine Yp rfl ?_
 apply Yn
 refine W.cond rfl (fun c3=>?_) fun c3=>?_
 ·skip
  apply Y1
  iterate 3 refine Yp rfl ?_
  refine S.hcallD rfl rfl rfl rfl ((pc_inF gl hg.n hg.r c.n).fd [1] [] [] rfl) ?_
  iterate 12 first|refine Yp rfl ?_|apply Yu|apply Yv|apply Yt|apply Y3|apply Yn
  exact ⟨_, rfl, rfl, LeG.of_force rfl (by first | (rw [ho_2 c1]; done) | (rw [ho_3 c1 c2]; done) | (rw [ho_4 c1 c2 c3]; rfl) | (rw [ho_5 c1 c2 c3 c4]; done) | (rw [ho_6 c5 h0]; done) | (rw [ho_7 c6]; done) | (rw [ho_8 c7]; done) | (rw [ho_0 c1 c2 c3 c4 c5 c6 c7]; rfl)), rfl, rfl, rfl⟩
 apply Y1
 iterate 2 refine Yp rfl ?_
 apply Yn
 refine W.cond rfl (fun c4=>?_) fun c4=>?_
 ·skip
  apply Y1
  iterate 3 refine Yp rfl ?_
  refine S.hcallD rfl rfl rfl rfl ((pc_inF fl hf.n hf.r c.n).fd [0] [] [] rfl) ?_
  iterate 7 first|refine Yp rfl ?_|apply Y3
  refine S.call rfl rfl rfl rfl rfl (pc_ver_Parse (valT fl c.n).1 (by omega)) ?_
  iterate 9 first|refine Yp rfl ?_|refine S.store tOk rfl rfl rfl rfl rfl rfl rfl rfl ?_|refine S.alloc tOk rfl rfl rfl rfl ?_|apply Y3
  refine S.call rfl rfl rfl rfl rfl (pc_ver_ParseRange c.v (by omega)) ?_
  iterate 19 first|refine S.pickAnd tOk zOk rfl rfl tg ?_|refine Yp rfl ?_|refine Yg rfl rfl tg ?_|refine S.store tOk rfl rfl rfl rfl rfl rfl rfl rfl ?_|refine S.alloc tOk rfl rfl rfl rfl ?_|apply Y3
  refine S.callG rfl rfl rfl rfl tg rfl rfl (fun _ => pc_ver_has (rangeB c.v).1 (by omega) (range_sp c.v) (parseB (valT fl c.n).1).1 (by omega)) ?_
  refine S.pickAnd tOk zOk rfl rfl tg ?_
  refine Yp rfl ?_
  apply Yn
  apply Yt
  apply Yv
  apply Yu
  exact ⟨_, rfl, rfl, LeG.of_force rfl (by first | (rw [ho_2 c1]; done) | (rw [ho_3 c1 c2]; done) | (rw [ho_4 c1 c2 c3]; rfl) | (rw [ho_5 c1 c2 c3 c4]; done) | (rw [ho_6 c5 h0]; done) | (rw [ho_7 c6]; done) | (rw [ho_8 c7]; done) | (rw [ho_0 c1 c2 c3 c4 c5 c6 c7]; rfl)), rfl, rfl, rfl⟩
 apply Y1
 iterate 2 refine Yp rfl ?_
 apply Yn
 refine W.cond rfl (fun c5=>?_) fun c5=>?_
 ·skip
  have hk6 := hc.not (by simpa using c5)
  have h0 : 0 < c.l.length := by omega
  apply Ys
  refine W.regionS 5 mixed rfl (by kernel_rfl) ?_
  refine AnyZ.eager 1 rfl (by kernel_rfl) (Eag.pure tOk zOk rfl (fun _ _ _ => rfl) rfl rfl) ?_
  refine AnyZ.two 0 2 (by kernel_rfl) rfl rfl ?_ ?_
  ·skip
   refine OpZ.d ?_
   refine Ym rfl rfl ?_
   refine WD.nil ?_
   refine AnyZ.one 2 (by kernel_rfl) rfl ?_
   refine OpZ.d ?_
   refine Ym rfl rfl ?_
   refine WD.nil ?_
   refine AnyZ.one 3 (by kernel_rfl) rfl ?_
   refine OpZ.d ?_
   refine D.pureE tOk zOk rfl rfl (row_ok (i := 0) h0) (getD_map_ct (i := 0) h0) rfl ?_
   refine WD.nil ?_
   refine AnyZ.one 4 (by kernel_rfl) rfl ?_
   refine OpZ.d ?_
   refine Ym rfl rfl ?_
   refine WD.nil ?_
   refine AnyZ.nil (by kernel_rfl) ?_
   refine S.hcallD rfl rfl rfl rfl ((pc_one1 fl gl (c.l.getD 0 CT.z) (ih _ (mem_ct h0))).fd [0, 1, 3, 4] [] [] rfl) ?_
   iterate 6 first|refine Yp rfl ?_|apply Yu|apply Yv|apply Yt|apply Yn
   exact ⟨_, rfl, rfl, LeG.of_force rfl (by first | (rw [ho_2 c1]; done) | (rw [ho_3 c1 c2]; done) | (rw [ho_4 c1 c2 c3]; rfl) | (rw [ho_5 c1 c2 c3 c4]; done) | (rw [ho_6 c5 h0]; done) | (rw [ho_7 c6]; done) | (rw [ho_8 c7]; done) | (rw [ho_0 c1 c2 c3 c4 c5 c6 c7]; rfl)), rfl, rfl, rfl⟩
  refine OpZ.d ?_
  refine Ym rfl rfl ?_
  refine WD.nil ?_
  refine AnyZ.two 0 3 (by kernel_rfl) rfl rfl ?_ ?_
  ·skip
   refine OpZ.d ?_
   refine Ym rfl rfl ?_
   refine WD.nil ?_
   refine AnyZ.one 3 (by kernel_rfl) rfl ?_
   refine OpZ.d ?_
   refine D.pureE tOk zOk rfl rfl (row_ok (i := 0) h0) (getD_map_ct (i := 0) h0) rfl ?_
   refine WD.nil ?_
   refine AnyZ.one 4 (by kernel_rfl) rfl ?_
   refine OpZ.d ?_
   refine Ym rfl rfl ?_
   refine WD.nil ?_
   refine AnyZ.nil (by kernel_rfl) ?_
   refine S.hcallD rfl rfl rfl rfl ((pc_one1 fl gl (c.l.getD 0 CT.z) (ih _ (mem_ct h0))).fd [0, 1, 3, 4] [] [] rfl) ?_
   iterate 6 first|refine Yp rfl ?_|apply Yu|apply Yv|apply Yt|apply Yn
   exact ⟨_, rfl, rfl, LeG.of_force rfl (by first | (rw [ho_2 c1]; done) | (rw [ho_3 c1 c2]; done) | (rw [ho_4 c1 c2 c3]; rfl) | (rw [ho_5 c1 c2 c3 c4]; done) | (rw [ho_6 c5 h0]; done) | (rw [ho_7 c6]; done) | (rw [ho_8 c7]; done) | (rw [ho_0 c1 c2 c3 c4 c5 c6 c7]; rfl)), rfl, rfl, rfl⟩
  refine OpZ.d ?_
  refine D.pureE tOk zOk rfl rfl (row_ok (i := 0) h0) (getD_map_ct (i := 0) h0) rfl ?_
  refine WD.nil ?_
  refine AnyZ.two 0 4 (by kernel_rfl) rfl rfl ?_ ?_
  ·skip
   refine OpZ.d ?_
   refine Ym rfl rfl ?_
   refine WD.nil ?_
   refine AnyZ.one 4 (by kernel_rfl) rfl ?_
   refine OpZ.d ?_
   refine Ym rfl rfl ?_
   refine WD.nil ?_
   refine AnyZ.nil (by kernel_rfl) ?_
   refine S.hcallD rfl rfl rfl rfl ((pc_one1 fl gl (c.l.getD 0 CT.z) (ih _ (mem_ct h0))).fd [0, 1, 3, 4] [] [] rfl) ?_
   iterate 6 first|refine Yp rfl ?_|apply Yu|apply Yv|apply Yt|apply Yn
   exact ⟨_, rfl, rfl, LeG.of_force rfl (by first | (rw [ho_2 c1]; done) | (rw [ho_3 c1 c2]; done) | (rw [ho_4 c1 c2 c3]; rfl) | (rw [ho_5 c1 c2 c3 c4]; done) | (rw [ho_6 c5 h0]; done) | (rw [ho_7 c6]; done) | (rw [ho_8 c7]; done) | (rw [ho_0 c1 c2 c3 c4 c5 c6 c7]; rfl)), rfl, rfl, rfl⟩
  refine OpZ.d ?_
  refine Ym rfl rfl ?_
  refine WD.nil ?_
  refine AnyZ.one 0 (by kernel_rfl) rfl ?_
  refine OpZ.d ?_
  refine Ym rfl rfl ?_
  refine WD.nil ?_
  refine AnyZ.nil (by kernel_rfl) ?_
  refine S.hcallD rfl rfl rfl rfl ((pc_one1 fl gl (c.l.getD 0 CT.z) (ih _ (mem_ct h0))).fd [0, 1, 3, 4] [] [] rfl) ?_
  iterate 6 first|refine Yp rfl ?_|apply Yu|apply Yv|apply Yt|apply Yn
  exact ⟨_, rfl, rfl, LeG.of_force rfl (by first | (rw [ho_2 c1]; done) | (rw [ho_3 c1 c2]; done) | (rw [ho_4 c1 c2 c3]; rfl) | (rw [ho_5 c1 c2 c3 c4]; done) | (rw [ho_6 c5 h0]; done) | (rw [ho_7 c6]; done) | (rw [ho_8 c7]; done) | (rw [ho_0 c1 c2 c3 c4 c5 c6 c7]; rfl)), rfl, rfl, rfl⟩
 apply Y1
 iterate 2 refine Yp rfl ?_
 apply Yn
 refine W.cond rfl (fun c6=>?_) fun c6=>?_
 ·skip
  apply Y1
  iterate 2 refine Yp rfl ?_
  refine S.makeFunc rfl rfl rfl ?_
  refine S.hcallD rfl rfl rfl rfl (pc_ContainsFunc_Cond 77 [.ptr 5 0] _ _ _ (fun a => !a.ho (valT fl) (valT gl)) c.l (by omega) (fun a ha => (pc_one2 fl gl a (ih a ha)).fd [0, 1, 3, 4, 5] [] [] rfl)) ?_
  iterate 6 first|refine Yp rfl ?_|apply Yu|apply Yv|apply Yt|apply Yn
  exact ⟨_, rfl, rfl, LeG.of_force rfl (by first | (rw [ho_2 c1]; done) | (rw [ho_3 c1 c2]; done) | (rw [ho_4 c1 c2 c3]; rfl) | (rw [ho_5 c1 c2 c3 c4]; done) | (rw [ho_6 c5 h0]; done) | (rw [ho_7 c6]; done) | (rw [ho_8 c7]; done) | (rw [ho_0 c1 c2 c3 c4 c5 c6 c7]; rfl)), rfl, rfl, rfl⟩
 apply Y1
 iterate 2 refine Yp rfl ?_
 apply Yn
 refine W.cond rfl (fun c7=>?_) fun c7=>?_
 ·skip
  apply Y1
  iterate 3 refine Yp rfl ?_
  refine S.hcallD rfl rfl rfl rfl (pc_ContainsFunc_Cond 73 [.ptr 3 0, .ptr 4 0] _ _ _ (fun a => a.ho (valT fl) (valT gl)) c.l (by omega) (fun a ha => (pc_one1 fl gl a (ih a ha)).fd [0, 1, 3, 4] [] [] rfl)) ?_
  refine Yp rfl ?_
  apply Yn
  apply Yt
  apply Yv
  apply Yu
  exact ⟨_, rfl, rfl, LeG.of_force rfl (by first | (rw [ho_2 c1]; done) | (rw [ho_3 c1 c2]; done) | (rw [ho_4 c1 c2 c3]; rfl) | (rw [ho_5 c1 c2 c3 c4]; done) | (rw [ho_6 c5 h0]; done) | (rw [ho_7 c6]; done) | (rw [ho_8 c7]; done) | (rw [ho_0 c1 c2 c3 c4 c5 c6 c7]; rfl)), rfl, rfl, rfl⟩
 apply Yk
 apply Yw
 apply Y3
 refine Yp rfl ?_
 apply Yn
 apply Yt
 exact ⟨_, rfl, rfl, LeG.of_force rfl (by first | (rw [ho_2 c1]; done) | (rw [ho_3 c1 c2]; done) | (rw [ho_4 c1 c2 c3]; rfl) | (rw [ho_5 c1 c2 c3 c4]; done) | (rw [ho_6 c5 h0]; done) | (rw [ho_7 c6]; done) | (rw [ho_8 c7]; done) | (rw [ho_0 c1 c2 c3 c4 c5 c6 c7]; rfl)), rfl, rfl, rfl⟩
theorem pc_holds1 (fl gl : List Stg) (hf : StgL fl) (hg : StgL gl) : ∀ (n : Nat) (c : CT), c.w ≤ n → CtT c → HCall Tryz.prog J 29 [ctV c, .one (.clo 49 [.ptr 0 0]), .one (.clo 49 [.ptr 1 0])] [[.d (.vec 2 (fl.map stgD))], [.d (.vec 2 (gl.map stgD))]] [] [] (isH (.one (.d (.bool (c.ho (valT fl) (valT gl))))) [[.d (.vec 2 (fl.map stgD))], [.d (.vec 2 (gl.map stgD))]] [] [])
 | 0, c, h => by have := c.pos; omega
 | n + 1, c, h => fun hc => pc_holdss fl gl hf hg c hc (fun a ha => pc_holds1 fl gl hf hg n a (by have := CT.sz ha; omega) (hc.l a ha))
def holdsP (c : CT) (fl gl : List Stg) : Bool × Int :=
 if checkP c != 0 then (false, checkP c) else if listE nameB fl != 0 then (false, listE nameB fl) else if listE pathB gl != 0 then (false, listE pathB gl) else (c.ho (valT fl) (valT gl), 0)
section
variable {c : CT} {fl gl : List Stg}
theorem hp_1 (h : (checkP c != 0) = true) : holdsP c fl gl = (false, checkP c) := if_pos h
variable (h : (checkP c != 0) = false)
include h
theorem hp_2 (h2 : (listE nameB fl != 0) = true) : holdsP c fl gl = (false, listE nameB fl) := by rw [holdsP, if_neg (Bool.eq_false_iff.1 h)]; exact if_pos h2
variable (h2 : (listE nameB fl != 0) = false)
include h2
theorem hp_3 (h3 : (listE pathB gl != 0) = true) : holdsP c fl gl = (false, listE pathB gl) := by rw [holdsP, if_neg (Bool.eq_false_iff.1 h), if_neg (Bool.eq_false_iff.1 h2)]; exact if_pos h3
theorem hp_4 (h3 : (listE pathB gl != 0) = false) : holdsP c fl gl = (c.ho (valT fl) (valT gl), 0) := by rw [holdsP, if_neg (Bool.eq_false_iff.1 h), if_neg (Bool.eq_false_iff.1 h2)]; exact if_neg (Bool.eq_false_iff.1 h3)
end
structure StgB (l : List Stg) : Prop where
 n : l.length ≤ 4294967000
 s : ∀ s ∈ l, s.k.length < 4294967000 ∧ s.v.length < 4294967000
theorem pc_HoldsF (x : D) :
  HCall Tryz.prog J 48 ([.one (.d x)]) ([]) ([]) ([]) (isH (.one (.clo 49 [.ptr 0 0])) ([[.d x]]) ([]) ([])) := by
 refine HCall.ofD tOk ⟨1, 0, 0⟩ (fn := Tryz.f48) Tryz.func48 (by kernel_rfl) rfl (Nat.le_of_ble_eq_true rfl) (fun E => ?_)
 apply Y1
 refine S.box rfl rfl rfl rfl ?_
 refine Yp rfl ?_
 apply Y3
 refine S.makeFunc rfl rfl rfl ?_
 refine Yp rfl ?_
 apply Yn
 apply Yt
 exact ⟨_, rfl, rfl, LeG.refl _, rfl, rfl, rfl⟩
theorem pc_Holds (c : CT) (hb0 : CtBig c) (hc : checkP c = 0 → CtT c) (fl gl : List Stg) (hf : StgB fl) (hg : StgB gl) :
  PureCall Tryz.prog J 13 [ctV c, .one (.d (.vec 2 (fl.map stgD))), .one (.d (.vec 2 (gl.map stgD)))] (.tup [.one (.d (.bool (holdsP c fl gl).1)), .one (.d (.int .i64 (holdsP c fl gl).2))]) := by
 refine PureCall.of_body tOk (fn := Tryz.f13) Tryz.func13 (by kernel_rfl) rfl (Nat.le_of_ble_eq_true rfl) (fun E => ?_)
 iterate 8 first|refine Yp rfl ?_|refine S.box rfl rfl rfl rfl ?_|apply Y1|apply Ys|apply Yn
 refine S.call rfl rfl rfl rfl rfl (pc_ver_CheckCond c hb0) ?_
 iterate 5 first|refine Yp rfl ?_|apply Y3|apply Yn
 refine W.cond rfl (fun c1=>?_) fun c1=>?_
 ·skip
  iterate 7 first|refine Yp rfl ?_|apply Yu|apply Yt|apply Y1|apply Yn
  exact Yz rfl rfl rfl (by first | (rw [hp_1 c1]; rfl) | (rw [hp_2 c1 c2]; rfl) | (rw [hp_3 c1 c2 c3]; rfl) | (rw [hp_4 c1 c2 c3]; rfl))
 apply Yk
 apply Yn
 apply Ys
 apply Y1
 refine Yp rfl ?_
 refine S.call rfl rfl rfl rfl rfl (pc_sF nameB 46 (fun s h => pc_ver_IsName s (by omega)) fl hf.n hf.s) ?_
 iterate 5 first|refine Yp rfl ?_|apply Y3|apply Yn
 refine W.cond rfl (fun c2=>?_) fun c2=>?_
 ·skip
  iterate 7 first|refine Yp rfl ?_|apply Yu|apply Yt|apply Y1|apply Yn
  exact Yz rfl rfl rfl (by first | (rw [hp_1 c1]; rfl) | (rw [hp_2 c1 c2]; rfl) | (rw [hp_3 c1 c2 c3]; rfl) | (rw [hp_4 c1 c2 c3]; rfl))
 apply Yk
 apply Yn
 apply Ys
 apply Y1
 refine Yp rfl ?_
 refine S.call rfl rfl rfl rfl rfl (pc_sF pathB 47 (fun s h => pc_ver_IsPath s (by omega)) gl hg.n hg.s) ?_
 iterate 5 first|refine Yp rfl ?_|apply Y3|apply Yn
 refine W.cond rfl (fun c3=>?_) fun c3=>?_
 ·skip
  iterate 7 first|refine Yp rfl ?_|apply Yu|apply Yt|apply Y1|apply Yn
  exact Yz rfl rfl rfl (by first | (rw [hp_1 c1]; rfl) | (rw [hp_2 c1 c2]; rfl) | (rw [hp_3 c1 c2 c3]; rfl) | (rw [hp_4 c1 c2 c3]; rfl))
 have hf1 : StgL fl := ⟨hf.n, fun s hs => (hf.s s hs).2, rise_of (show listE nameB fl = 0 by simpa using c2)⟩
 have hg1 : StgL gl := ⟨hg.n, fun s hs => (hg.s s hs).2, rise_of (show listE pathB gl = 0 by simpa using c3)⟩
 have pch := pc_holds1 fl gl hf1 hg1 _ c (Nat.le_refl _) (hc (by simpa using c1))
 apply Yk
 apply Y3
 refine Yp rfl ?_
 apply Yn
 apply Ys
 refine W.regionS 7 mixed rfl (by kernel_rfl) ?_
 refine AnyZ.eager 1 rfl (by kernel_rfl) (Eag.pure tOk zOk rfl (fun _ _ _ => rfl) rfl rfl) ?_
 refine AnyZ.eager 2 rfl (by kernel_rfl) (Eag.pure tOk zOk rfl (fun _ _ _ => rfl) rfl rfl) ?_
 refine AnyZ.eager 4 rfl (by kernel_rfl) (Eag.pure tOk zOk rfl (fun _ _ _ => rfl) rfl rfl) ?_
 refine AnyZ.eager 5 rfl (by kernel_rfl) (Eag.pure tOk zOk rfl (fun _ _ _ => rfl) rfl rfl) ?_
 refine AnyZ.two 0 3 (by kernel_rfl) rfl rfl ?_ ?_
 ·skip
  refine OpZ.d ?_
  refine Ym rfl rfl ?_
  refine WD.nil ?_
  refine AnyZ.one 3 (by kernel_rfl) rfl ?_
  refine OpZ.hcall rfl rfl rfl rfl ((pc_HoldsF (.vec 2 (fl.map stgD))).fd [] [] [] rfl) ?_
  refine AnyZ.one 6 (by kernel_rfl) rfl ?_
  refine OpZ.hcall rfl rfl rfl rfl ((pc_HoldsF (.vec 2 (gl.map stgD))).fd [] [] [] rfl) ?_
  refine AnyZ.nil (by kernel_rfl) ?_
  refine S.hcallD rfl rfl rfl rfl (pch.fd [1, 2] [] [] rfl) ?_
  iterate 2 refine Yp rfl ?_
  apply Yn
  apply Yt
  exact Yz rfl rfl rfl (by first | (rw [hp_1 c1]; rfl) | (rw [hp_2 c1 c2]; rfl) | (rw [hp_3 c1 c2 c3]; rfl) | (rw [hp_4 c1 c2 c3]; rfl))
 refine OpZ.hcall rfl rfl rfl rfl ((pc_HoldsF (.vec 2 (fl.map stgD))).fd [] [] [] rfl) ?_
 refine AnyZ.two 0 6 (by kernel_rfl) rfl rfl ?_ ?_
 ·skip
  refine OpZ.d ?_
  refine Ym rfl rfl ?_
  refine WD.nil ?_
  refine AnyZ.one 6 (by kernel_rfl) rfl ?_
  refine OpZ.hcall rfl rfl rfl rfl ((pc_HoldsF (.vec 2 (gl.map stgD))).fd [] [] [] rfl) ?_
  refine AnyZ.nil (by kernel_rfl) ?_
  refine S.hcallD rfl rfl rfl rfl (pch.fd [1, 2] [] [] rfl) ?_
  iterate 2 refine Yp rfl ?_
  apply Yn
  apply Yt
  exact Yz rfl rfl rfl (by first | (rw [hp_1 c1]; rfl) | (rw [hp_2 c1 c2]; rfl) | (rw [hp_3 c1 c2 c3]; rfl) | (rw [hp_4 c1 c2 c3]; rfl))
 refine OpZ.hcall rfl rfl rfl rfl ((pc_HoldsF (.vec 2 (gl.map stgD))).fd [] [] [] rfl) ?_
 refine AnyZ.one 0 (by kernel_rfl) rfl ?_
 refine OpZ.d ?_
 refine Ym rfl rfl ?_
 refine WD.nil ?_
 refine AnyZ.nil (by kernel_rfl) ?_
 refine S.hcallD rfl rfl rfl rfl (pch.fd [1, 2] [] [] rfl) ?_
 iterate 2 refine Yp rfl ?_
 apply Yn
 apply Yt
 exact Yz rfl rfl rfl (by first | (rw [hp_1 c1]; rfl) | (rw [hp_2 c1 c2]; rfl) | (rw [hp_3 c1 c2 c3]; rfl) | (rw [hp_4 c1 c2 c3]; rfl))
end
end Go.Proofs.YtfcdmcdhhikhaaaGreatDoor
