/- Part 3 of a proof: V62, W60, W32, A42, A43, A44, A45, V63, V64, V65, V66, V22, V23, V24, V25, V67, W69, V71, W13, A46, L7, A47. -/
import Derived.Maps.RangeRun
import Derived.Sort.Walk0
import Derived.Test.YtcchfmilleffjaaGreatDoorMCTopThereAndBack2
set_option linter.unusedVariables false
set_option linter.unusedSimpArgs false
namespace Go.Proofs.YtcchfmilleffjaaGreatDoor
open Go
def usTu (kd : Int) : Bool := kd == 1 || kd == 2 || kd == 3
def usOld (kd : Int) : Bool := kd == 7 || kd == 8
def usNew (kd : Int) : Bool := kd == 4 || kd == 5 || kd == 7 || kd == 8
def belowB (a b : L8) : Bool := Lib.hasPrefix a (b ++ [47])
def ruleC (r : Rul) : Int :=
  if decide (r.kd < 1) || decide (r.kd > 8) then 1
  else if !pathB r.k || usTu r.kd && !pathB r.tu then 5
  else if !usTu r.kd && !(r.tu == []) || !usOld r.kd && !(r.old == []) || !usNew r.kd && !(r.nu == []) || !valueB r.old || !valueB r.nu then 2
  else if usTu r.kd && r.k == r.tu then 11
  else if r.kd == 2 && (belowB r.k r.tu || belowB r.tu r.k) then 13
  else if usOld r.kd && r.old == r.nu then 11
  else 0
theorem path_len {s : L8} (h : pathB s = true) : s.length ≤ 200 := by
  unfold pathB at h
  rw [Bool.and_eq_true] at h
  have := of_decide_eq_true h.2
  omega
structure RulOk (r : Rul) : Prop where
  lo : 1 ≤ r.kd
  hi : r.kd ≤ 8
  k : pathB r.k = true
  tu : usTu r.kd = true → pathB r.tu = true
  tu0 : usTu r.kd = false → r.tu = []
  old0 : usOld r.kd = false → r.old = []
  nu0 : usNew r.kd = false → r.nu = []
  vo : valueB r.old = true
  vn : valueB r.nu = true
theorem rul_ok {r : Rul} (h : ruleC r = 0) : RulOk r := by
  unfold ruleC at h
  repeat' split at h
  all_goals first | (cases h; done) | skip
  rename_i h1 h2 h3 h4 h5 h6
  simp only [Bool.or_eq_true, Bool.and_eq_true, decide_eq_true_eq, Bool.not_eq_true', not_or, not_and, beq_eq_false_iff_ne, ne_eq, Bool.not_eq_false] at h1 h2 h3
  refine ⟨by omega, by omega, h2.1, h2.2, fun h => ?_, fun h => ?_, fun h => ?_, h3.1.2, h3.2⟩
  · exact Classical.not_not.1 (h3.1.1.1.1 h)
  · exact Classical.not_not.1 (h3.1.1.1.2 h)
  · exact Classical.not_not.1 (h3.1.1.2 h)
theorem RulOk.len {r : Rul} (h : RulOk r) : r.k.length ≤ 200 ∧ r.tu.length ≤ 200 := by
  refine ⟨path_len h.k, ?_⟩
  cases hu : usTu r.kd with
  | true => exact path_len (h.tu hu)
  | false => rw [h.tu0 hu]; simp
def allP (t : Tab) : Bool := t.all fun x => pathB x.1
def badP (t : Tab) (key tu : L8) : Bool := (movT t key tu).any fun x => !pathB x.1
def stepE (t : Tab) (r : Rul) : Int := if r.kd == 2 && badP t r.k r.tu then 5 else if decide (((doT t r).length : Int) > 2000) then 4 else 0
theorem all_keys {t : Tab} : allP t = true ↔ ∀ k ∈ t.map (·.1), pathB k = true := by
  unfold allP
  rw [List.all_eq_true]
  constructor
  · intro h k hk
    obtain ⟨x, hx, rfl⟩ := List.mem_map.1 hk
    exact h x hx
  · intro h x hx
    exact h _ (List.mem_map.2 ⟨x, hx, rfl⟩)
theorem any_not {t : Tab} : t.any (fun x => !pathB x.1) = !allP t := by
  unfold allP
  rw [List.not_all_eq_any_not]
theorem keys_copy {t : Tab} : ∀ {u : Tab} {k : L8}, k ∈ (copyT t u).map (·.1) ↔ k ∈ t.map (·.1) ∨ k ∈ u.map (·.1) := by
  induction t with
  | nil => intro u k; simp [copyT]
  | cons x l ih =>
    intro u k
    show k ∈ (copyT l (setL beqS u x.1 x.2)).map (·.1) ↔ _
    rw [ih, keys_set]
    simp only [List.map_cons, List.mem_cons]
    constructor
    · rintro (h | h | h)
      · exact .inl (.inr h)
      · exact .inl (.inl h)
      · exact .inr h
    · rintro ((h | h) | h)
      · exact .inr (.inl h)
      · exact .inl h
      · exact .inr (.inr h)
theorem keys_del {t : Tab} {k q : L8} (h : q ∈ (delL beqS t k).map (·.1)) : q ∈ t.map (·.1) := ((del_sub t k).map _).subset h
theorem pref_all {t : Tab} (h : allP t = true) (key tu : L8) : allP (prefT t key tu) = !badP t key tu := by
  unfold badP
  rw [any_not, Bool.not_not, Bool.eq_iff_iff, all_keys, all_keys]
  unfold prefT
  constructor
  · exact fun h1 k hk => h1 k (keys_copy.2 (.inl hk))
  · intro h1 k hk
    rcases keys_copy.1 hk with h2 | h2
    · exact h1 k h2
    · obtain ⟨x, hx, rfl⟩ := List.mem_map.1 h2
      exact all_keys.1 h _ (List.mem_map.2 ⟨x, (List.mem_filter.1 hx).1, rfl⟩)
theorem set_all {t : Tab} (h : allP t = true) {k v : L8} (hk : pathB k = true) : allP (setL beqS t k v) = true := by
  rw [all_keys] at *
  intro q hq
  rcases (keys_set t k v q).1 hq with h1 | h1
  · rw [h1]; exact hk
  · exact h q h1
theorem del_all {t : Tab} (h : allP t = true) (k : L8) : allP (delL beqS t k) = true := by
  rw [all_keys] at *
  exact fun q hq => h q (keys_del hq)
theorem do_all {t : Tab} (h : allP t = true) {r : Rul} (hr : RulOk r) : allP (doT t r) = !(r.kd == 2 && badP t r.k r.tu) := by
  have hk := hr.k
  unfold doT
  by_cases h1 : (r.kd == 1) = true
  · have e := beq_iff_eq.1 h1
    have ht : pathB r.tu = true := hr.tu (by rw [e]; rfl)
    rw [if_pos h1]
    have h2 : (r.kd == 2) = false := by rw [e]; rfl
    rw [h2]
    split
    · exact set_all (del_all h _) ht
    · exact h
  · rw [if_neg h1]
    by_cases h2 : (r.kd == 2) = true
    · rw [if_pos h2, pref_all h, h2]; rfl
    · rw [if_neg h2]
      have h2 : (r.kd == 2) = false := Bool.eq_false_iff.2 h2
      rw [h2]
      show _ = true
      by_cases h3 : (r.kd == 3) = true
      · have e := beq_iff_eq.1 h3
        have ht : pathB r.tu = true := hr.tu (by rw [e]; rfl)
        rw [if_pos h3]
        split
        · exact set_all h ht
        · exact h
      · rw [if_neg h3]
        repeat' split
        all_goals first | exact h | exact set_all h hk | exact del_all h _
theorem step_all {t : Tab} (h : allP t = true) {r : Rul} (hr : RulOk r) (hs : stepE t r = 0) : allP (doT t r) = true ∧ (doT t r).length ≤ 2000 := by
  unfold stepE at hs
  split at hs
  · cases hs
  · rename_i h1
    split at hs
    · cases hs
    · rename_i h2
      refine ⟨by rw [do_all h hr, Bool.eq_false_iff.2 h1]; rfl, ?_⟩
      have := h2
      simp only [decide_eq_true_eq] at this
      omega
theorem EqT.allP {t u : Tab} (h : EqT t u) : allP t = allP u := by
  have := h.any (fun x => !pathB x.1)
  rw [any_not, any_not] at this
  simpa using this
theorem EqT.mov {t u : Tab} (h : EqT t u) (key tu : L8) : EqT (movT t key tu) (movT u key tu) := ⟨nd_mov h.l _ _, nd_mov h.r _ _, by rw [lk_mov h.l, lk_mov h.r, h.e]⟩
theorem EqT.bad {t u : Tab} (h : EqT t u) (key tu : L8) : badP t key tu = badP u key tu := (h.mov key tu).any _
theorem EqT.stepE {t u : Tab} (h : EqT t u) (r : Rul) : stepE t r = stepE u r := by
  unfold Go.Proofs.YtcchfmilleffjaaGreatDoor.stepE
  rw [h.bad, (h.do r).len]
def runT (ss : List Stg) (rs : List Rul) : Nat → Tab
  | 0 => tabOf ss
  | i + 1 => doT (runT ss rs i) (rs.getD i Rul.z)
theorem run_nd (ss : List Stg) (rs : List Rul) : ∀ i, ndT (runT ss rs i)
  | 0 => tabTo_nd _ _
  | i + 1 => nd_do (run_nd ss rs i) _
def rulesE (rs : List Rul) : Int := firstNe (rs.map ruleC)
def runF (ss : List Stg) (rs : List Rul) : Int := firstNe [listE pathB ss, if decide ((ss.length : Int) > 2000) then 4 else 0, if decide ((rs.length : Int) > 100) then 4 else 0, rulesE rs]
def stepsE (ss : List Stg) (rs : List Rul) : Int := firstNe ((List.range rs.length).map fun i => stepE (runT ss rs i) (rs.getD i Rul.z))
def runP (ss : List Stg) (rs : List Rul) : List Stg × Int :=
  if runF ss rs != 0 then ([], runF ss rs) else if stepsE ss rs != 0 then ([], stepsE ss rs) else (listT (runT ss rs rs.length), 0)
def invR (r : Rul) : Rul × Int :=
  if ruleC r != 0 then (Rul.z, ruleC r) else if r.kd == 1 || r.kd == 2 then (⟨r.kd, r.tu, r.k, r.old, r.nu⟩, 0) else if r.kd == 7 then (⟨r.kd, r.k, r.tu, r.nu, r.old⟩, 0) else if r.kd == 8 then (r, 0) else (Rul.z, 12)
def invE (rs : List Rul) : Int := firstNe (rs.map fun r => (invR r).2)
def invAll (rs : List Rul) : List Rul × Int :=
  if decide ((rs.length : Int) > 100) then ([], 4) else if invE rs != 0 then ([], invE rs) else ((rs.map fun r => (invR r).1).reverse, 0)
def losesT (t : Tab) (r : Rul) : Bool :=
  if r.kd == 1 then hasL beqS t r.tu else if r.kd == 2 then t.any (fun x => (tailOf x.1 r.tu).isSome) else if r.kd == 7 then hasL beqS t r.k && getL beqS [] t r.k == r.nu else false
theorem EqT.loses {t u : Tab} (h : EqT t u) (r : Rul) : losesT t r = losesT u r := by
  unfold losesT
  rw [h.has, h.has, h.get, h.any]
def cleanT (ss : List Stg) (rs : List Rul) : Bool := (List.range rs.length).all fun i => !losesT (runT ss rs i) (rs.getD i Rul.z)
def cleanP (ss : List Stg) (rs : List Rul) : Bool × Int :=
  if (runP ss rs).2 != 0 then (false, (runP ss rs).2) else if (invAll rs).2 != 0 then (false, (invAll rs).2) else (cleanT ss rs, 0)
end Go.Proofs.YtcchfmilleffjaaGreatDoor
set_option maxRecDepth 100000
set_option maxHeartbeats 4000000
namespace Go.Proofs.YtcchfmilleffjaaGreatDoor
open Go
open Go.RowKit
attribute [local irreducible] rangeB pathB nameB valueB firstNe
structure RulB (r : Rul) : Prop where
  k : r.k.length ≤ 2000000
  tu : r.tu.length ≤ 2000000
  old : r.old.length ≤ 2000000
  nu : r.nu.length ≤ 2000000
theorem RulB.z : RulB Rul.z := ⟨by decide, by decide, by decide, by decide⟩
theorem pc_uses (x : Int) :
  PureCall Tryz.prog J 100 [.one (.d (.int .i64 x))] (.tup [.one (.d (.bool (usTu x))), .one (.d (.bool (usOld x))), .one (.d (.bool (usNew x)))]) := by
 refine PureCall.of_body tOk (fn := Tryz.f100) Tryz.func100 (by kernel_rfl) rfl (Nat.le_of_ble_eq_true rfl) (fun E => ?_)
 refine W.seq ?_
 refine W.region ?_
 refine S.pure tOk zOk rfl rfl rfl ?_
 refine S.pure tOk zOk rfl rfl rfl ?_
 refine S.pure tOk zOk rfl rfl rfl ?_
 refine thenK_n ?_
 refine W.seq ?_
 refine W.seq ?_
 refine W.region ?_
 refine S.pure tOk zOk rfl rfl rfl ?_
 refine thenK_n ?_
 refine W.block ?_
 refine W.seq ?_
 refine W.seq ?_
 refine W.region ?_
 refine S.pure tOk zOk rfl rfl rfl ?_
 refine S.pure tOk zOk rfl rfl rfl ?_
 refine thenK_n ?_
 refine W.cond rfl (fun c1 => ?_) (fun c1 => ?_)
 ·skip
  refine W.skip ?_
  refine thenK_n ?_
  refine W.cond rfl (fun c2 => ?_) (fun c2 => ?_)
  ·skip
   refine W.seq ?_
   refine W.region ?_
   refine S.pure tOk zOk rfl rfl rfl ?_
   refine S.pure tOk zOk rfl rfl rfl ?_
   refine S.pure tOk zOk rfl rfl rfl ?_
   refine thenK_n ?_
   refine W.ret ?_
   refine blockK_r ?_
   refine thenK_r ?_
   exact ⟨_, rfl, rfl, LeV.of_force rfl (by simp_all [usTu, usOld, usNew])⟩
  ·skip
   refine W.seq ?_
   refine W.seq ?_
   refine W.region ?_
   refine S.pure tOk zOk rfl rfl rfl ?_
   refine S.pure tOk zOk rfl rfl rfl ?_
   refine thenK_n ?_
   refine W.cond rfl (fun c3 => ?_) (fun c3 => ?_)
   ·skip
    refine W.skip ?_
    refine thenK_n ?_
    refine W.cond rfl (fun c4 => ?_) (fun c4 => ?_)
    ·skip
     refine W.seq ?_
     refine W.region ?_
     refine S.pure tOk zOk rfl rfl rfl ?_
     refine S.pure tOk zOk rfl rfl rfl ?_
     refine S.pure tOk zOk rfl rfl rfl ?_
     refine thenK_n ?_
     refine W.ret ?_
     refine blockK_r ?_
     refine thenK_r ?_
     exact ⟨_, rfl, rfl, LeV.of_force rfl (by simp_all [usTu, usOld, usNew])⟩
    ·skip
     refine W.seq ?_
     refine W.seq ?_
     refine W.region ?_
     refine S.pure tOk zOk rfl rfl rfl ?_
     refine S.pure tOk zOk rfl rfl rfl ?_
     refine thenK_n ?_
     refine W.cond rfl (fun c5 => ?_) (fun c5 => ?_)
     ·skip
      refine W.skip ?_
      refine thenK_n ?_
      refine W.cond rfl (fun c6 => ?_) (fun c6 => ?_)
      ·skip
       refine W.seq ?_
       refine W.region ?_
       refine S.pure tOk zOk rfl rfl rfl ?_
       refine S.pure tOk zOk rfl rfl rfl ?_
       refine S.pure tOk zOk rfl rfl rfl ?_
       refine thenK_n ?_
       refine W.ret ?_
       refine blockK_r ?_
       refine thenK_r ?_
       exact ⟨_, rfl, rfl, LeV.of_force rfl (by simp_all [usTu, usOld, usNew])⟩
      ·skip
       refine W.skip ?_
       refine blockK_n ?_
       refine thenK_n ?_
       refine W.seq ?_
       refine W.region ?_
       refine S.pure tOk zOk rfl rfl rfl ?_
       refine S.pure tOk zOk rfl rfl rfl ?_
       refine S.pure tOk zOk rfl rfl rfl ?_
       refine thenK_n ?_
       refine W.ret ?_
       exact ⟨_, rfl, rfl, LeV.of_force rfl (by simp_all [usTu, usOld, usNew])⟩
     ·skip
      refine W.region ?_
      refine S.pure tOk zOk rfl rfl rfl ?_
      refine S.pure tOk zOk rfl rfl rfl ?_
      refine thenK_n ?_
      refine W.cond rfl (fun c7 => ?_) (fun c7 => ?_)
      ·skip
       refine W.seq ?_
       refine W.region ?_
       refine S.pure tOk zOk rfl rfl rfl ?_
       refine S.pure tOk zOk rfl rfl rfl ?_
       refine S.pure tOk zOk rfl rfl rfl ?_
       refine thenK_n ?_
       refine W.ret ?_
       refine blockK_r ?_
       refine thenK_r ?_
       exact ⟨_, rfl, rfl, LeV.of_force rfl (by simp_all [usTu, usOld, usNew])⟩
      ·skip
       refine W.skip ?_
       refine blockK_n ?_
       refine thenK_n ?_
       refine W.seq ?_
       refine W.region ?_
       refine S.pure tOk zOk rfl rfl rfl ?_
       refine S.pure tOk zOk rfl rfl rfl ?_
       refine S.pure tOk zOk rfl rfl rfl ?_
       refine thenK_n ?_
       refine W.ret ?_
       exact ⟨_, rfl, rfl, LeV.of_force rfl (by simp_all [usTu, usOld, usNew])⟩
   ·skip
    refine W.region ?_
    refine S.pure tOk zOk rfl rfl rfl ?_
    refine S.pure tOk zOk rfl rfl rfl ?_
    refine thenK_n ?_
    refine W.cond rfl (fun c8 => ?_) (fun c8 => ?_)
    ·skip
     refine W.seq ?_
     refine W.region ?_
     refine S.pure tOk zOk rfl rfl rfl ?_
     refine S.pure tOk zOk rfl rfl rfl ?_
     refine S.pure tOk zOk rfl rfl rfl ?_
     refine thenK_n ?_
     refine W.ret ?_
     refine blockK_r ?_
     refine thenK_r ?_
     exact ⟨_, rfl, rfl, LeV.of_force rfl (by simp_all [usTu, usOld, usNew])⟩
    ·skip
     refine W.seq ?_
     refine W.seq ?_
     refine W.region ?_
     refine S.pure tOk zOk rfl rfl rfl ?_
     refine S.pure tOk zOk rfl rfl rfl ?_
     refine thenK_n ?_
     refine W.cond rfl (fun c9 => ?_) (fun c9 => ?_)
     ·skip
      refine W.skip ?_
      refine thenK_n ?_
      refine W.cond rfl (fun c10 => ?_) (fun c10 => ?_)
      ·skip
       refine W.seq ?_
       refine W.region ?_
       refine S.pure tOk zOk rfl rfl rfl ?_
       refine S.pure tOk zOk rfl rfl rfl ?_
       refine S.pure tOk zOk rfl rfl rfl ?_
       refine thenK_n ?_
       refine W.ret ?_
       refine blockK_r ?_
       refine thenK_r ?_
       exact ⟨_, rfl, rfl, LeV.of_force rfl (by simp_all [usTu, usOld, usNew])⟩
      ·skip
       refine W.skip ?_
       refine blockK_n ?_
       refine thenK_n ?_
       refine W.seq ?_
       refine W.region ?_
       refine S.pure tOk zOk rfl rfl rfl ?_
       refine S.pure tOk zOk rfl rfl rfl ?_
       refine S.pure tOk zOk rfl rfl rfl ?_
       refine thenK_n ?_
       refine W.ret ?_
       exact ⟨_, rfl, rfl, LeV.of_force rfl (by simp_all [usTu, usOld, usNew])⟩
     ·skip
      refine W.region ?_
      refine S.pure tOk zOk rfl rfl rfl ?_
      refine S.pure tOk zOk rfl rfl rfl ?_
      refine thenK_n ?_
      refine W.cond rfl (fun c11 => ?_) (fun c11 => ?_)
      ·skip
       refine W.seq ?_
       refine W.region ?_
       refine S.pure tOk zOk rfl rfl rfl ?_
       refine S.pure tOk zOk rfl rfl rfl ?_
       refine S.pure tOk zOk rfl rfl rfl ?_
       refine thenK_n ?_
       refine W.ret ?_
       refine blockK_r ?_
       refine thenK_r ?_
       exact ⟨_, rfl, rfl, LeV.of_force rfl (by simp_all [usTu, usOld, usNew])⟩
      ·skip
       refine W.skip ?_
       refine blockK_n ?_
       refine thenK_n ?_
       refine W.seq ?_
       refine W.region ?_
       refine S.pure tOk zOk rfl rfl rfl ?_
       refine S.pure tOk zOk rfl rfl rfl ?_
       refine S.pure tOk zOk rfl rfl rfl ?_
       refine thenK_n ?_
       refine W.ret ?_
       exact ⟨_, rfl, rfl, LeV.of_force rfl (by simp_all [usTu, usOld, usNew])⟩
 ·skip
  refine W.seq ?_
  refine W.region ?_
  refine S.pure tOk zOk rfl rfl rfl ?_
  refine S.pure tOk zOk rfl rfl rfl ?_
  refine thenK_n ?_
  refine W.cond rfl (fun c12 => ?_) (fun c12 => ?_)
  ·skip
   refine W.skip ?_
   refine thenK_n ?_
   refine W.cond rfl (fun c13 => ?_) (fun c13 => ?_)
   ·skip
    refine W.seq ?_
    refine W.region ?_
    refine S.pure tOk zOk rfl rfl rfl ?_
    refine S.pure tOk zOk rfl rfl rfl ?_
    refine S.pure tOk zOk rfl rfl rfl ?_
    refine thenK_n ?_
    refine W.ret ?_
    refine blockK_r ?_
    refine thenK_r ?_
    exact ⟨_, rfl, rfl, LeV.of_force rfl (by simp_all [usTu, usOld, usNew])⟩
   ·skip
    refine W.seq ?_
    refine W.seq ?_
    refine W.region ?_
    refine S.pure tOk zOk rfl rfl rfl ?_
    refine S.pure tOk zOk rfl rfl rfl ?_
    refine thenK_n ?_
    refine W.cond rfl (fun c14 => ?_) (fun c14 => ?_)
    ·skip
     refine W.skip ?_
     refine thenK_n ?_
     refine W.cond rfl (fun c15 => ?_) (fun c15 => ?_)
     ·skip
      refine W.seq ?_
      refine W.region ?_
      refine S.pure tOk zOk rfl rfl rfl ?_
      refine S.pure tOk zOk rfl rfl rfl ?_
      refine S.pure tOk zOk rfl rfl rfl ?_
      refine thenK_n ?_
      refine W.ret ?_
      refine blockK_r ?_
      refine thenK_r ?_
      exact ⟨_, rfl, rfl, LeV.of_force rfl (by simp_all [usTu, usOld, usNew])⟩
     ·skip
      refine W.seq ?_
      refine W.seq ?_
      refine W.region ?_
      refine S.pure tOk zOk rfl rfl rfl ?_
      refine S.pure tOk zOk rfl rfl rfl ?_
      refine thenK_n ?_
      refine W.cond rfl (fun c16 => ?_) (fun c16 => ?_)
      ·skip
       refine W.skip ?_
       refine thenK_n ?_
       refine W.cond rfl (fun c17 => ?_) (fun c17 => ?_)
       ·skip
        refine W.seq ?_
        refine W.region ?_
        refine S.pure tOk zOk rfl rfl rfl ?_
        refine S.pure tOk zOk rfl rfl rfl ?_
        refine S.pure tOk zOk rfl rfl rfl ?_
        refine thenK_n ?_
        refine W.ret ?_
        refine blockK_r ?_
        refine thenK_r ?_
        exact ⟨_, rfl, rfl, LeV.of_force rfl (by simp_all [usTu, usOld, usNew])⟩
       ·skip
        refine W.skip ?_
        refine blockK_n ?_
        refine thenK_n ?_
        refine W.seq ?_
        refine W.region ?_
        refine S.pure tOk zOk rfl rfl rfl ?_
        refine S.pure tOk zOk rfl rfl rfl ?_
        refine S.pure tOk zOk rfl rfl rfl ?_
        refine thenK_n ?_
        refine W.ret ?_
        exact ⟨_, rfl, rfl, LeV.of_force rfl (by simp_all [usTu, usOld, usNew])⟩
      ·skip
       refine W.region ?_
       refine S.pure tOk zOk rfl rfl rfl ?_
       refine S.pure tOk zOk rfl rfl rfl ?_
       refine thenK_n ?_
       refine W.cond rfl (fun c18 => ?_) (fun c18 => ?_)
       ·skip
        refine W.seq ?_
        refine W.region ?_
        refine S.pure tOk zOk rfl rfl rfl ?_
        refine S.pure tOk zOk rfl rfl rfl ?_
        refine S.pure tOk zOk rfl rfl rfl ?_
        refine thenK_n ?_
        refine W.ret ?_
        refine blockK_r ?_
        refine thenK_r ?_
        exact ⟨_, rfl, rfl, LeV.of_force rfl (by simp_all [usTu, usOld, usNew])⟩
       ·skip
        refine W.skip ?_
        refine blockK_n ?_
        refine thenK_n ?_
        refine W.seq ?_
        refine W.region ?_
        refine S.pure tOk zOk rfl rfl rfl ?_
        refine S.pure tOk zOk rfl rfl rfl ?_
        refine S.pure tOk zOk rfl rfl rfl ?_
        refine thenK_n ?_
        refine W.ret ?_
        exact ⟨_, rfl, rfl, LeV.of_force rfl (by simp_all [usTu, usOld, usNew])⟩
    ·skip
     refine W.region ?_
     refine S.pure tOk zOk rfl rfl rfl ?_
     refine S.pure tOk zOk rfl rfl rfl ?_
     refine thenK_n ?_
     refine W.cond rfl (fun c19 => ?_) (fun c19 => ?_)
     ·skip
      refine W.seq ?_
      refine W.region ?_
      refine S.pure tOk zOk rfl rfl rfl ?_
      refine S.pure tOk zOk rfl rfl rfl ?_
      refine S.pure tOk zOk rfl rfl rfl ?_
      refine thenK_n ?_
      refine W.ret ?_
      refine blockK_r ?_
      refine thenK_r ?_
      exact ⟨_, rfl, rfl, LeV.of_force rfl (by simp_all [usTu, usOld, usNew])⟩
     ·skip
      refine W.seq ?_
      refine W.seq ?_
      refine W.region ?_
      refine S.pure tOk zOk rfl rfl rfl ?_
      refine S.pure tOk zOk rfl rfl rfl ?_
      refine thenK_n ?_
      refine W.cond rfl (fun c20 => ?_) (fun c20 => ?_)
      ·skip
       refine W.skip ?_
       refine thenK_n ?_
       refine W.cond rfl (fun c21 => ?_) (fun c21 => ?_)
       ·skip
        refine W.seq ?_
        refine W.region ?_
        refine S.pure tOk zOk rfl rfl rfl ?_
        refine S.pure tOk zOk rfl rfl rfl ?_
        refine S.pure tOk zOk rfl rfl rfl ?_
        refine thenK_n ?_
        refine W.ret ?_
        refine blockK_r ?_
        refine thenK_r ?_
        exact ⟨_, rfl, rfl, LeV.of_force rfl (by simp_all [usTu, usOld, usNew])⟩
       ·skip
        refine W.skip ?_
        refine blockK_n ?_
        refine thenK_n ?_
        refine W.seq ?_
        refine W.region ?_
        refine S.pure tOk zOk rfl rfl rfl ?_
        refine S.pure tOk zOk rfl rfl rfl ?_
        refine S.pure tOk zOk rfl rfl rfl ?_
        refine thenK_n ?_
        refine W.ret ?_
        exact ⟨_, rfl, rfl, LeV.of_force rfl (by simp_all [usTu, usOld, usNew])⟩
      ·skip
       refine W.region ?_
       refine S.pure tOk zOk rfl rfl rfl ?_
       refine S.pure tOk zOk rfl rfl rfl ?_
       refine thenK_n ?_
       refine W.cond rfl (fun c22 => ?_) (fun c22 => ?_)
       ·skip
        refine W.seq ?_
        refine W.region ?_
        refine S.pure tOk zOk rfl rfl rfl ?_
        refine S.pure tOk zOk rfl rfl rfl ?_
        refine S.pure tOk zOk rfl rfl rfl ?_
        refine thenK_n ?_
        refine W.ret ?_
        refine blockK_r ?_
        refine thenK_r ?_
        exact ⟨_, rfl, rfl, LeV.of_force rfl (by simp_all [usTu, usOld, usNew])⟩
       ·skip
        refine W.skip ?_
        refine blockK_n ?_
        refine thenK_n ?_
        refine W.seq ?_
        refine W.region ?_
        refine S.pure tOk zOk rfl rfl rfl ?_
        refine S.pure tOk zOk rfl rfl rfl ?_
        refine S.pure tOk zOk rfl rfl rfl ?_
        refine thenK_n ?_
        refine W.ret ?_
        exact ⟨_, rfl, rfl, LeV.of_force rfl (by simp_all [usTu, usOld, usNew])⟩
  ·skip
   refine W.region ?_
   refine S.pure tOk zOk rfl rfl rfl ?_
   refine S.pure tOk zOk rfl rfl rfl ?_
   refine thenK_n ?_
   refine W.cond rfl (fun c23 => ?_) (fun c23 => ?_)
   ·skip
    refine W.seq ?_
    refine W.region ?_
    refine S.pure tOk zOk rfl rfl rfl ?_
    refine S.pure tOk zOk rfl rfl rfl ?_
    refine S.pure tOk zOk rfl rfl rfl ?_
    refine thenK_n ?_
    refine W.ret ?_
    refine blockK_r ?_
    refine thenK_r ?_
    exact ⟨_, rfl, rfl, LeV.of_force rfl (by simp_all [usTu, usOld, usNew])⟩
   ·skip
    refine W.seq ?_
    refine W.seq ?_
    refine W.region ?_
    refine S.pure tOk zOk rfl rfl rfl ?_
    refine S.pure tOk zOk rfl rfl rfl ?_
    refine thenK_n ?_
    refine W.cond rfl (fun c24 => ?_) (fun c24 => ?_)
    ·skip
     refine W.skip ?_
     refine thenK_n ?_
     refine W.cond rfl (fun c25 => ?_) (fun c25 => ?_)
     ·skip
      refine W.seq ?_
      refine W.region ?_
      refine S.pure tOk zOk rfl rfl rfl ?_
      refine S.pure tOk zOk rfl rfl rfl ?_
      refine S.pure tOk zOk rfl rfl rfl ?_
      refine thenK_n ?_
      refine W.ret ?_
      refine blockK_r ?_
      refine thenK_r ?_
      exact ⟨_, rfl, rfl, LeV.of_force rfl (by simp_all [usTu, usOld, usNew])⟩
     ·skip
      refine W.seq ?_
      refine W.seq ?_
      refine W.region ?_
      refine S.pure tOk zOk rfl rfl rfl ?_
      refine S.pure tOk zOk rfl rfl rfl ?_
      refine thenK_n ?_
      refine W.cond rfl (fun c26 => ?_) (fun c26 => ?_)
      ·skip
       refine W.skip ?_
       refine thenK_n ?_
       refine W.cond rfl (fun c27 => ?_) (fun c27 => ?_)
       ·skip
        refine W.seq ?_
        refine W.region ?_
        refine S.pure tOk zOk rfl rfl rfl ?_
        refine S.pure tOk zOk rfl rfl rfl ?_
        refine S.pure tOk zOk rfl rfl rfl ?_
        refine thenK_n ?_
        refine W.ret ?_
        refine blockK_r ?_
        refine thenK_r ?_
        exact ⟨_, rfl, rfl, LeV.of_force rfl (by simp_all [usTu, usOld, usNew])⟩
       ·skip
        refine W.skip ?_
        refine blockK_n ?_
        refine thenK_n ?_
        refine W.seq ?_
        refine W.region ?_
        refine S.pure tOk zOk rfl rfl rfl ?_
        refine S.pure tOk zOk rfl rfl rfl ?_
        refine S.pure tOk zOk rfl rfl rfl ?_
        refine thenK_n ?_
        refine W.ret ?_
        exact ⟨_, rfl, rfl, LeV.of_force rfl (by simp_all [usTu, usOld, usNew])⟩
      ·skip
       refine W.region ?_
       refine S.pure tOk zOk rfl rfl rfl ?_
       refine S.pure tOk zOk rfl rfl rfl ?_
       refine thenK_n ?_
       refine W.cond rfl (fun c28 => ?_) (fun c28 => ?_)
       ·skip
        refine W.seq ?_
        refine W.region ?_
        refine S.pure tOk zOk rfl rfl rfl ?_
        refine S.pure tOk zOk rfl rfl rfl ?_
        refine S.pure tOk zOk rfl rfl rfl ?_
        refine thenK_n ?_
        refine W.ret ?_
        refine blockK_r ?_
        refine thenK_r ?_
        exact ⟨_, rfl, rfl, LeV.of_force rfl (by simp_all [usTu, usOld, usNew])⟩
       ·skip
        refine W.skip ?_
        refine blockK_n ?_
        refine thenK_n ?_
        refine W.seq ?_
        refine W.region ?_
        refine S.pure tOk zOk rfl rfl rfl ?_
        refine S.pure tOk zOk rfl rfl rfl ?_
        refine S.pure tOk zOk rfl rfl rfl ?_
        refine thenK_n ?_
        refine W.ret ?_
        exact ⟨_, rfl, rfl, LeV.of_force rfl (by simp_all [usTu, usOld, usNew])⟩
    ·skip
     refine W.region ?_
     refine S.pure tOk zOk rfl rfl rfl ?_
     refine S.pure tOk zOk rfl rfl rfl ?_
     refine thenK_n ?_
     refine W.cond rfl (fun c29 => ?_) (fun c29 => ?_)
     ·skip
      refine W.seq ?_
      refine W.region ?_
      refine S.pure tOk zOk rfl rfl rfl ?_
      refine S.pure tOk zOk rfl rfl rfl ?_
      refine S.pure tOk zOk rfl rfl rfl ?_
      refine thenK_n ?_
      refine W.ret ?_
      refine blockK_r ?_
      refine thenK_r ?_
      exact ⟨_, rfl, rfl, LeV.of_force rfl (by simp_all [usTu, usOld, usNew])⟩
     ·skip
      refine W.seq ?_
      refine W.seq ?_
      refine W.region ?_
      refine S.pure tOk zOk rfl rfl rfl ?_
      refine S.pure tOk zOk rfl rfl rfl ?_
      refine thenK_n ?_
      refine W.cond rfl (fun c30 => ?_) (fun c30 => ?_)
      ·skip
       refine W.skip ?_
       refine thenK_n ?_
       refine W.cond rfl (fun c31 => ?_) (fun c31 => ?_)
       ·skip
        refine W.seq ?_
        refine W.region ?_
        refine S.pure tOk zOk rfl rfl rfl ?_
        refine S.pure tOk zOk rfl rfl rfl ?_
        refine S.pure tOk zOk rfl rfl rfl ?_
        refine thenK_n ?_
        refine W.ret ?_
        refine blockK_r ?_
        refine thenK_r ?_
        exact ⟨_, rfl, rfl, LeV.of_force rfl (by simp_all [usTu, usOld, usNew])⟩
       ·skip
        refine W.skip ?_
        refine blockK_n ?_
        refine thenK_n ?_
        refine W.seq ?_
        refine W.region ?_
        refine S.pure tOk zOk rfl rfl rfl ?_
        refine S.pure tOk zOk rfl rfl rfl ?_
        refine S.pure tOk zOk rfl rfl rfl ?_
        refine thenK_n ?_
        refine W.ret ?_
        exact ⟨_, rfl, rfl, LeV.of_force rfl (by simp_all [usTu, usOld, usNew])⟩
      ·skip
       refine W.region ?_
       refine S.pure tOk zOk rfl rfl rfl ?_
       refine S.pure tOk zOk rfl rfl rfl ?_
       refine thenK_n ?_
       refine W.cond rfl (fun c32 => ?_) (fun c32 => ?_)
       ·skip
        refine W.seq ?_
        refine W.region ?_
        refine S.pure tOk zOk rfl rfl rfl ?_
        refine S.pure tOk zOk rfl rfl rfl ?_
        refine S.pure tOk zOk rfl rfl rfl ?_
        refine thenK_n ?_
        refine W.ret ?_
        refine blockK_r ?_
        refine thenK_r ?_
        exact ⟨_, rfl, rfl, LeV.of_force rfl (by simp_all [usTu, usOld, usNew])⟩
       ·skip
        refine W.skip ?_
        refine blockK_n ?_
        refine thenK_n ?_
        refine W.seq ?_
        refine W.region ?_
        refine S.pure tOk zOk rfl rfl rfl ?_
        refine S.pure tOk zOk rfl rfl rfl ?_
        refine S.pure tOk zOk rfl rfl rfl ?_
        refine thenK_n ?_
        refine W.ret ?_
        exact ⟨_, rfl, rfl, LeV.of_force rfl (by simp_all [usTu, usOld, usNew])⟩
theorem pc_mbelow (a b : List UInt8) (hb : b.length ≤ 1000000000) :
  PureCall Tryz.prog J 115 [.one (.d (.str a)), .one (.d (.str b))] (.one (.d (.bool (belowB a b)))) := by
 refine PureCall.of_body tOk (fn := Tryz.f115) Tryz.func115 (by kernel_rfl) rfl (Nat.le_of_ble_eq_true rfl) (fun E => ?_)
 refine W.seq ?_
 refine W.region ?_
 refine S.pure tOk zOk rfl rfl rfl ?_
 refine thenK_n ?_
 refine W.seq ?_
 refine W.region ?_
 refine S.pure tOk zOk rfl rfl rfl ?_
 refine S.pure tOk zOk rfl rfl rfl ?_
 refine S.pure tOk zOk rfl (cat_ok (by simp [-List.getD_eq_getElem?_getD]; omega)) rfl ?_
 refine S.call rfl rfl rfl rfl rfl (pc_HasPrefix a (b ++ [47])) ?_
 refine S.pure tOk zOk rfl rfl rfl ?_
 refine thenK_n ?_
 refine W.ret ?_
 exact ⟨_, rfl, rfl, LeV.refl _⟩
theorem pc_CheckRule (r : Rul) (hr : RulB r) :
  PureCall Tryz.prog J 104 [.agg [.d (.int .i64 r.kd), .d (.str r.k), .d (.str r.tu), .d (.str r.old), .d (.str r.nu)]] (.one (.d (.int .i64 (ruleC r)))) := by
 obtain ⟨hr1, hr2, hr3, hr4⟩ := hr
 refine PureCall.of_body tOk (fn := Tryz.f104) Tryz.func104 (by kernel_rfl) rfl (Nat.le_of_ble_eq_true rfl) (fun E => ?_)
 refine W.seq ?_
 refine W.region ?_
 refine S.box rfl rfl rfl rfl ?_
 refine S.pure tOk zOk rfl rfl rfl ?_
 refine thenK_n ?_
 refine W.seq ?_
 refine W.seq ?_
 refine W.region ?_
 refine S.pure tOk zOk rfl rfl rfl ?_
 refine S.pure tOk zOk rfl rfl rfl ?_
 refine S.pure tOk zOk rfl rfl rfl ?_
 refine S.pure tOk zOk rfl rfl rfl ?_
 refine S.pureG tOk zOk rfl rfl tg (fun _ => rfl) rfl ?_
 refine S.pureG tOk zOk rfl rfl tg (fun _ => rfl) rfl ?_
 refine S.pureG tOk zOk rfl rfl tg (fun _ => rfl) rfl ?_
 refine S.pickOr tOk zOk rfl rfl tg ?_
 refine thenK_n ?_
 refine W.cond rfl (fun c1 => ?_) (fun c1 => ?_)
 ·skip
  refine W.seq ?_
  refine W.region ?_
  refine S.pure tOk zOk rfl rfl rfl ?_
  refine thenK_n ?_
  refine W.ret ?_
  refine thenK_r ?_
  exact ⟨_, rfl, rfl, LeV.of_force rfl (congrArg (fun x : Int => V.one (C.d (D.int .i64 x))) ((if_pos c1) : ruleC r = _)).symm⟩
 ·skip
  refine W.skip ?_
  refine thenK_n ?_
  refine W.seq ?_
  refine W.region ?_
  refine S.pure tOk zOk rfl rfl rfl ?_
  refine S.pure tOk zOk rfl rfl rfl ?_
  refine S.call rfl rfl rfl rfl rfl (pc_uses _) ?_
  refine S.pure tOk zOk rfl rfl rfl ?_
  refine S.pure tOk zOk rfl rfl rfl ?_
  refine S.pure tOk zOk rfl rfl rfl ?_
  refine S.pure tOk zOk rfl rfl rfl ?_
  refine S.pure tOk zOk rfl rfl rfl ?_
  refine S.pure tOk zOk rfl rfl rfl ?_
  refine S.pure tOk zOk rfl rfl rfl ?_
  refine thenK_n ?_
  refine W.seq ?_
  refine W.block ?_
  refine W.seq ?_
  refine W.region ?_
  refine S.pure tOk zOk rfl rfl rfl ?_
  refine S.pure tOk zOk rfl rfl rfl ?_
  refine S.call rfl rfl rfl rfl rfl (pc_ver_IsPath r.k (by omega)) ?_
  refine S.pure tOk zOk rfl rfl rfl ?_
  refine S.pure tOk zOk rfl rfl rfl ?_
  refine S.pureG tOk zOk rfl rfl tg (fun _ => rfl) rfl ?_
  refine S.pureG tOk zOk rfl rfl tg (fun _ => rfl) rfl ?_
  refine S.pureG tOk zOk rfl rfl tg (fun _ => rfl) rfl ?_
  refine S.pureG tOk zOk rfl rfl tg (fun _ => rfl) rfl ?_
  refine S.callG rfl rfl rfl rfl tg rfl rfl (fun _ => pc_ver_IsPath r.tu (by omega)) ?_
  refine S.pureG tOk zOk rfl rfl tg (fun _ => rfl) rfl ?_
  refine S.pickAndG tOk zOk rfl rfl rfl tg tg ?_
  refine S.pickOr tOk zOk rfl rfl tg ?_
  refine S.pure tOk zOk rfl rfl rfl ?_
  refine thenK_n ?_
  refine W.cond rfl (fun c2 => ?_) (fun c2 => ?_)
  ·skip
   refine W.seq ?_
   refine W.region ?_
   refine S.pure tOk zOk rfl rfl rfl ?_
   refine thenK_n ?_
   refine W.ret ?_
   refine blockK_r ?_
   refine thenK_r ?_
   exact ⟨_, rfl, rfl, LeV.of_force rfl (congrArg (fun x : Int => V.one (C.d (D.int .i64 x))) (((if_neg (Bool.eq_false_iff.1 c1)).trans (if_pos c2)) : ruleC r = _)).symm⟩
  ·skip
   refine W.seq ?_
   refine W.region ?_
   refine S.pure tOk zOk rfl rfl rfl ?_
   refine S.pure tOk zOk rfl rfl rfl ?_
   refine S.pure tOk zOk rfl rfl rfl ?_
   refine S.pureG tOk zOk rfl rfl tg (fun _ => rfl) rfl ?_
   refine S.pureG tOk zOk rfl rfl tg (fun _ => rfl) rfl ?_
   refine S.pureG tOk zOk rfl rfl tg (fun _ => rfl) rfl ?_
   refine S.pickAnd tOk zOk rfl rfl tg ?_
   refine S.pure tOk zOk rfl rfl rfl ?_
   refine S.pureG tOk zOk rfl rfl tg (fun _ => rfl) rfl ?_
   refine S.pureG tOk zOk rfl rfl tg (fun _ => rfl) rfl ?_
   refine S.pureG tOk zOk rfl rfl tg (fun _ => rfl) rfl ?_
   refine S.pureG tOk zOk rfl rfl tg (fun _ => rfl) rfl ?_
   refine S.pureG tOk zOk rfl rfl tg (fun _ => rfl) rfl ?_
   refine S.pureG tOk zOk rfl rfl tg (fun _ => rfl) rfl ?_
   refine S.pickAndG tOk zOk rfl rfl rfl tg tg ?_
   refine S.pickOr tOk zOk rfl rfl tg ?_
   refine S.pure tOk zOk rfl rfl rfl ?_
   refine S.pureG tOk zOk rfl rfl tg (fun _ => rfl) rfl ?_
   refine S.pureG tOk zOk rfl rfl tg (fun _ => rfl) rfl ?_
   refine S.pureG tOk zOk rfl rfl tg (fun _ => rfl) rfl ?_
   refine S.pureG tOk zOk rfl rfl tg (fun _ => rfl) rfl ?_
   refine S.pureG tOk zOk rfl rfl tg (fun _ => rfl) rfl ?_
   refine S.pureG tOk zOk rfl rfl tg (fun _ => rfl) rfl ?_
   refine S.pickAndG tOk zOk rfl rfl rfl tg tg ?_
   refine S.pickOr tOk zOk rfl rfl tg ?_
   refine S.pure tOk zOk rfl rfl rfl ?_
   refine S.pureG tOk zOk rfl rfl tg (fun _ => rfl) rfl ?_
   refine S.pureG tOk zOk rfl rfl tg (fun _ => rfl) rfl ?_
   refine S.callG rfl rfl rfl rfl tg rfl rfl (fun _ => pc_ver_IsValue r.old (by omega)) ?_
   refine S.pureG tOk zOk rfl rfl tg (fun _ => rfl) rfl ?_
   refine S.pickOr tOk zOk rfl rfl tg ?_
   refine S.pure tOk zOk rfl rfl rfl ?_
   refine S.pureG tOk zOk rfl rfl tg (fun _ => rfl) rfl ?_
   refine S.pureG tOk zOk rfl rfl tg (fun _ => rfl) rfl ?_
   refine S.callG rfl rfl rfl rfl tg rfl rfl (fun _ => pc_ver_IsValue r.nu (by omega)) ?_
   refine S.pureG tOk zOk rfl rfl tg (fun _ => rfl) rfl ?_
   refine S.pickOr tOk zOk rfl rfl tg ?_
   refine S.pure tOk zOk rfl rfl rfl ?_
   refine thenK_n ?_
   refine W.cond rfl (fun c3 => ?_) (fun c3 => ?_)
   ·skip
    refine W.seq ?_
    refine W.region ?_
    refine S.pure tOk zOk rfl rfl rfl ?_
    refine thenK_n ?_
    refine W.ret ?_
    refine blockK_r ?_
    refine thenK_r ?_
    exact ⟨_, rfl, rfl, LeV.of_force rfl (congrArg (fun x : Int => V.one (C.d (D.int .i64 x))) (((if_neg (Bool.eq_false_iff.1 c1)).trans ((if_neg (Bool.eq_false_iff.1 c2)).trans (if_pos c3))) : ruleC r = _)).symm⟩
   ·skip
    refine W.seq ?_
    refine W.region ?_
    refine S.pure tOk zOk rfl rfl rfl ?_
    refine S.pure tOk zOk rfl rfl rfl ?_
    refine S.pureG tOk zOk rfl rfl tg (fun _ => rfl) rfl ?_
    refine S.pureG tOk zOk rfl rfl tg (fun _ => rfl) rfl ?_
    refine S.pureG tOk zOk rfl rfl tg (fun _ => rfl) rfl ?_
    refine S.pureG tOk zOk rfl rfl tg (fun _ => rfl) rfl ?_
    refine S.pureG tOk zOk rfl rfl tg (fun _ => rfl) rfl ?_
    refine S.pickAnd tOk zOk rfl rfl tg ?_
    refine S.pure tOk zOk rfl rfl rfl ?_
    refine thenK_n ?_
    refine W.cond rfl (fun c4 => ?_) (fun c4 => ?_)
    ·skip
     refine W.seq ?_
     refine W.region ?_
     refine S.pure tOk zOk rfl rfl rfl ?_
     refine thenK_n ?_
     refine W.ret ?_
     refine blockK_r ?_
     refine thenK_r ?_
     exact ⟨_, rfl, rfl, LeV.of_force rfl (congrArg (fun x : Int => V.one (C.d (D.int .i64 x))) (((if_neg (Bool.eq_false_iff.1 c1)).trans ((if_neg (Bool.eq_false_iff.1 c2)).trans ((if_neg (Bool.eq_false_iff.1 c3)).trans (if_pos c4)))) : ruleC r = _)).symm⟩
    ·skip
     refine W.seq ?_
     refine W.region ?_
     refine S.pure tOk zOk rfl rfl rfl ?_
     refine S.pure tOk zOk rfl rfl rfl ?_
     refine S.pure tOk zOk rfl rfl rfl ?_
     refine S.pure tOk zOk rfl rfl rfl ?_
     refine S.pureG tOk zOk rfl rfl tg (fun _ => rfl) rfl ?_
     refine S.pureG tOk zOk rfl rfl tg (fun _ => rfl) rfl ?_
     refine S.pureG tOk zOk rfl rfl tg (fun _ => rfl) rfl ?_
     refine S.pureG tOk zOk rfl rfl tg (fun _ => rfl) rfl ?_
     refine S.callG rfl rfl rfl rfl tg rfl rfl (fun _ => pc_mbelow r.k r.tu (by omega)) ?_
     refine S.pureG tOk zOk rfl rfl tg (fun _ => rfl) rfl ?_
     refine S.pureG tOk zOk rfl rfl tg (fun _ => rfl) rfl ?_
     refine S.pureG tOk zOk rfl rfl tg (fun _ => rfl) rfl ?_
     refine S.pureG tOk zOk rfl rfl tg (fun _ => rfl) rfl ?_
     refine S.pureG tOk zOk rfl rfl tg (fun _ => rfl) rfl ?_
     refine S.callG rfl rfl rfl rfl tg rfl rfl (fun _ => pc_mbelow r.tu r.k (by omega)) ?_
     refine S.pickOrG tOk zOk rfl rfl rfl tg tg ?_
     refine S.pickAnd tOk zOk rfl rfl tg ?_
     refine S.pure tOk zOk rfl rfl rfl ?_
     refine thenK_n ?_
     refine W.cond rfl (fun c5 => ?_) (fun c5 => ?_)
     ·skip
      refine W.seq ?_
      refine W.region ?_
      refine S.pure tOk zOk rfl rfl rfl ?_
      refine thenK_n ?_
      refine W.ret ?_
      refine blockK_r ?_
      refine thenK_r ?_
      exact ⟨_, rfl, rfl, LeV.of_force rfl (congrArg (fun x : Int => V.one (C.d (D.int .i64 x))) (((if_neg (Bool.eq_false_iff.1 c1)).trans ((if_neg (Bool.eq_false_iff.1 c2)).trans ((if_neg (Bool.eq_false_iff.1 c3)).trans ((if_neg (Bool.eq_false_iff.1 c4)).trans (if_pos c5))))) : ruleC r = _)).symm⟩
     ·skip
      refine W.seq ?_
      refine W.region ?_
      refine S.pure tOk zOk rfl rfl rfl ?_
      refine S.pure tOk zOk rfl rfl rfl ?_
      refine S.pureG tOk zOk rfl rfl tg (fun _ => rfl) rfl ?_
      refine S.pureG tOk zOk rfl rfl tg (fun _ => rfl) rfl ?_
      refine S.pureG tOk zOk rfl rfl tg (fun _ => rfl) rfl ?_
      refine S.pureG tOk zOk rfl rfl tg (fun _ => rfl) rfl ?_
      refine S.pureG tOk zOk rfl rfl tg (fun _ => rfl) rfl ?_
      refine S.pickAnd tOk zOk rfl rfl tg ?_
      refine S.pure tOk zOk rfl rfl rfl ?_
      refine thenK_n ?_
      refine W.cond rfl (fun c6 => ?_) (fun c6 => ?_)
      ·skip
       refine W.seq ?_
       refine W.region ?_
       refine S.pure tOk zOk rfl rfl rfl ?_
       refine thenK_n ?_
       refine W.ret ?_
       refine blockK_r ?_
       refine thenK_r ?_
       exact ⟨_, rfl, rfl, LeV.of_force rfl (congrArg (fun x : Int => V.one (C.d (D.int .i64 x))) (((if_neg (Bool.eq_false_iff.1 c1)).trans ((if_neg (Bool.eq_false_iff.1 c2)).trans ((if_neg (Bool.eq_false_iff.1 c3)).trans ((if_neg (Bool.eq_false_iff.1 c4)).trans ((if_neg (Bool.eq_false_iff.1 c5)).trans (if_pos c6)))))) : ruleC r = _)).symm⟩
      ·skip
       refine W.skip ?_
       refine blockK_n ?_
       refine thenK_n ?_
       refine W.seq ?_
       refine W.region ?_
       refine S.pure tOk zOk rfl rfl rfl ?_
       refine thenK_n ?_
       refine W.ret ?_
       exact ⟨_, rfl, rfl, LeV.of_force rfl (congrArg (fun x : Int => V.one (C.d (D.int .i64 x))) (((if_neg (Bool.eq_false_iff.1 c1)).trans ((if_neg (Bool.eq_false_iff.1 c2)).trans ((if_neg (Bool.eq_false_iff.1 c3)).trans ((if_neg (Bool.eq_false_iff.1 c4)).trans ((if_neg (Bool.eq_false_iff.1 c5)).trans (if_neg (Bool.eq_false_iff.1 c6))))))) : ruleC r = _)).symm⟩
end Go.Proofs.YtcchfmilleffjaaGreatDoor
namespace Go.Proofs.YtcchfmilleffjaaGreatDoor
open Go
open Go.RowKit
attribute [local irreducible] rangeB nameB valueB visit visits checkP listE firstNe
def ruleWs : List (List UInt8) := [[], [114, 101, 110, 97, 109, 101], [112, 114, 101, 102, 105, 120], [99, 111, 112, 121], [115, 101, 116], [100, 101, 102, 97, 117, 108, 116], [100, 114, 111, 112], [109, 97, 112], [115, 119, 97, 112]]
theorem pc_migrate_settingsFault (l : List Stg) (hn : l.length ≤ 2000000) (hs : ∀ s ∈ l, s.k.length < 4294967000 ∧ s.v.length < 4294967000) :
  PureCall Tryz.prog J 81 [.one (.d (.vec 2 (l.map stgD)))] (.one (.d (.int .i64 (listE pathB l)))) := by
 refine PureCall.of_body tOk (fn := Tryz.f81) Tryz.func81 (by kernel_rfl) rfl (Nat.le_of_ble_eq_true rfl) (fun E => ?_)
 refine W.seq ?_
 refine W.region ?_
 refine S.pure tOk zOk rfl rfl rfl ?_
 refine thenK_n ?_
 refine W.seq ?_
 refine W.region ?_
 refine S.pure tOk zOk rfl rfl rfl ?_
 refine S.pure tOk zOk rfl rfl rfl ?_
 refine S.call rfl rfl rfl rfl rfl (pc_Holds0 l (by omega) hs) ?_
 refine S.pure tOk zOk rfl rfl rfl ?_
 refine S.pure tOk zOk rfl rfl rfl ?_
 refine S.pure tOk zOk rfl rfl rfl ?_
 refine S.pure tOk zOk rfl rfl rfl ?_
 refine S.pure tOk zOk rfl rfl rfl ?_
 refine thenK_n ?_
 refine W.seq ?_
 refine W.region ?_
 refine S.pure tOk zOk rfl rfl rfl ?_
 refine S.pure tOk zOk rfl rfl rfl ?_
 refine thenK_n ?_
 refine W.ret ?_
 exact ⟨_, rfl, rfl, LeV.refl _⟩
theorem pc_tableOf (l : List Stg) (hn : l.length ≤ 4294967000) :
  HCall Tryz.prog J 64 ([.one (.d (.vec 2 (l.map stgD)))]) ([]) ([]) ([]) (isH (.one (.map 0)) ([]) ([]) ([tabD (tabOf l)])) := by
 refine HCall.ofD tOk ⟨0, 0, 1⟩ (fn := Tryz.f64) Tryz.func64 (by kernel_rfl) rfl (Nat.le_of_ble_eq_true rfl) (fun E => ?_)
 refine W.seq ?_
 refine W.region ?_
 refine S.pure tOk zOk rfl rfl rfl ?_
 refine thenK_n ?_
 refine W.seq ?_
 refine W.region ?_
 refine S.makeMap rfl ?_
 refine S.pure tOk zOk rfl rfl rfl ?_
 refine thenK_n ?_
 refine W.seq ?_
 refine W.seq ?_
 refine W.region ?_
 refine S.pure tOk zOk rfl rfl rfl ?_
 refine S.pure tOk zOk rfl rfl rfl ?_
 refine S.pure tOk zOk rfl rfl rfl ?_
 refine thenK_n ?_
 refine W.block ?_
 refine W.loop (fun k st => ∃ i : Nat, i ≤ l.length ∧ k = l.length - i ∧ ∃ t b2 r2 m2, st = ⟨t, [] ++ b2, [] ++ r2, [tabD (tabTo l i)] ++ m2⟩ ∧ holdsL t [(3, .one (.map 0)), (7, .one (.d (.vec 2 (l.map stgD)))), (8, .one (.d (.int .i64 ((l.map stgD).length : Int)))), (9, .one (.d (.int .i64 (i : Int))))]) (l.length) ⟨0, Nat.zero_le _, rfl, _, _, _, _, rfl, rfl, rfl, rfl, rfl, trivial⟩ ?_
 rintro k0 _ ⟨i, f0_0, rfl, t0, bb0, rr0, mm0, rfl, hh0⟩
 refine W.keepR _ _ _ _ _ _ _ hh0 rfl ?_
 refine W.seq ?_
 refine W.region ?_
 refine S.pure tOk zOk rfl rfl rfl ?_
 refine thenK_n ?_
 refine W.seq ?_
 refine W.cond rfl (fun c1 => ?_) (fun c1 => ?_)
 ·skip
  have hi := row_lt c1
  refine W.skip ?_
  refine thenK_n ?_
  refine W.seq ?_
  refine W.block ?_
  refine W.seq ?_
  refine W.region ?_
  refine S.pureE tOk zOk rfl (row_ok hi) (row_at Stg.z hi) rfl ?_
  refine S.pure tOk zOk rfl rfl rfl ?_
  refine S.alloc tOk rfl rfl rfl rfl ?_
  refine S.store tOk rfl rfl rfl rfl rfl rfl rfl rfl ?_
  refine thenK_n ?_
  refine W.region ?_
  refine S.pure tOk zOk rfl rfl rfl ?_
  refine S.pure tOk zOk rfl rfl rfl ?_
  refine S.pure tOk zOk rfl rfl rfl ?_
  refine S.pure tOk zOk rfl rfl rfl ?_
  refine S.pure tOk zOk rfl rfl rfl ?_
  refine S.mapUpdate tOk keyS (fD := fun v : List UInt8 => DV.one (.str v)) (l.getD i Stg.z).v (tabTo l i) rfl rfl rfl rfl rfl rfl rfl rfl (show _ = [tabD (tabTo l (i + 1))] from rfl) ?_
  refine blockK_n ?_
  refine thenK_n ?_
  refine W.region ?_
  refine S.pure tOk zOk rfl rfl rfl ?_
  refine S.pure tOk zOk rfl rfl rfl ?_
  refine loop_n (l.length - (i + 1)) (by omega) ⟨i + 1, hi, rfl, _, _, _, _, rfl, rfl, rfl, rfl, inc_i64 (by omega), trivial⟩
 ·skip
  have hi := row_ge c1
  obtain rfl : i = l.length := by omega
  refine W.exit ?_
  refine thenK_e ?_
  refine thenK_e ?_
  refine blockK_x ?_
  refine thenK_n ?_
  refine W.seq ?_
  refine W.region ?_
  refine S.pure tOk zOk rfl rfl rfl ?_
  refine S.pure tOk zOk rfl rfl rfl ?_
  refine thenK_n ?_
  refine W.ret ?_
  exact ⟨_, rfl, rfl, LeG.refl _, rfl, rfl, rfl⟩
theorem pc_migrate_ruleWords  :
  PureCall Tryz.prog J 99 [] (.one (.d (.vec 1 (ruleWs.map fun x => [.str x])))) := by
 refine PureCall.of_body tOk (fn := Tryz.f99) Tryz.func99 (by kernel_rfl) rfl (Nat.le_of_ble_eq_true rfl) (fun E => ?_)
 refine W.seq ?_
 refine W.region ?_
 refine S.pure tOk zOk rfl rfl rfl ?_
 refine thenK_n ?_
 refine W.seq ?_
 refine W.region ?_
 refine S.slice tOk rfl rfl ?_
 refine S.pure tOk zOk rfl rfl rfl ?_
 refine thenK_n ?_
 refine W.ret ?_
 exact ⟨_, rfl, rfl, LeV.refl _⟩
theorem pc_IndexS (l : List (List UInt8)) (x : List UInt8) (hl : l.length ≤ 1000000000) :
  PureCall Tryz.prog J 98 [.one (.d (.vec 1 (l.map fun x => [.str x]))), .one (.d (.str x))] (.one (.d (.int .i64 (idxOf (fun y => x == y) l)))) := by
 refine PureCall.of_body tOk (fn := Tryz.f98) Tryz.func98 (by kernel_rfl) rfl (Nat.le_of_ble_eq_true rfl) (fun E => ?_)
 refine W.seq ?_
 refine W.region ?_
 refine S.pure tOk zOk rfl rfl rfl ?_
 refine thenK_n ?_
 refine W.seq ?_
 refine W.seq ?_
 refine W.region ?_
 refine S.pure tOk zOk rfl rfl rfl ?_
 refine S.pure tOk zOk rfl rfl rfl ?_
 refine S.pure tOk zOk rfl rfl rfl ?_
 refine thenK_n ?_
 refine W.block ?_
 refine W.loop (fun k st => ∃ i : Nat, i ≤ l.length ∧ (l.take i).any (fun y => x == y) = false ∧ k = l.length - i ∧ ∃ t b2 r2 m2, st = ⟨t, [] ++ b2, [] ++ r2, [] ++ m2⟩ ∧ holdsL t [(0, .one (.d (.vec 1 (l.map fun x => [.str x])))), (1, .one (.d (.str x))), (7, .one (.d (.int .i64 ((l.map fun x => ([.str x] : List D)).length : Int)))), (8, .one (.d (.int .i64 (i : Int))))]) (l.length) ⟨0, Nat.zero_le _, by simp, rfl, _, _, _, _, rfl, rfl, rfl, rfl, rfl, trivial⟩ ?_
 rintro k0 _ ⟨i, f0_0, f0_1, rfl, t0, bb0, rr0, mm0, rfl, hh0⟩
 refine W.keepR _ _ _ _ _ _ _ hh0 rfl ?_
 refine W.seq ?_
 refine W.region ?_
 refine S.pure tOk zOk rfl rfl rfl ?_
 refine thenK_n ?_
 refine W.seq ?_
 refine W.cond rfl (fun c1 => ?_) (fun c1 => ?_)
 ·skip
  have hi := row_lt c1
  refine W.skip ?_
  refine thenK_n ?_
  refine W.seq ?_
  refine W.block ?_
  refine W.seq ?_
  refine W.region ?_
  refine S.pure tOk zOk rfl rfl rfl ?_
  refine S.pure tOk zOk rfl rfl rfl ?_
  refine thenK_n ?_
  refine W.seq ?_
  refine W.region ?_
  refine S.pure tOk zOk rfl rfl rfl ?_
  refine S.pure tOk zOk rfl rfl rfl ?_
  refine S.pure tOk zOk rfl rfl rfl ?_
  refine S.pureE tOk zOk rfl (row_ok hi) (row_at [] hi) rfl ?_
  refine S.pure tOk zOk rfl rfl rfl ?_
  refine S.pure tOk zOk rfl rfl rfl ?_
  refine thenK_n ?_
  refine W.cond rfl (fun c2 => ?_) (fun c2 => ?_)
  ·skip
   refine W.seq ?_
   refine W.region ?_
   refine S.pure tOk zOk rfl rfl rfl ?_
   refine S.pure tOk zOk rfl rfl rfl ?_
   refine thenK_n ?_
   refine W.ret ?_
   refine blockK_r ?_
   refine thenK_r ?_
   refine thenK_r ?_
   refine blockK_r ?_
   refine thenK_r ?_
   exact ⟨_, rfl, rfl, LeV.of_eq (congrArg (fun x => V.one (C.d (D.int .i64 x))) (idxOf_at (d := []) hi f0_1 c2).symm)⟩
  ·skip
   refine W.skip ?_
   refine blockK_n ?_
   refine thenK_n ?_
   refine W.region ?_
   refine S.pure tOk zOk rfl rfl rfl ?_
   refine S.pure tOk zOk rfl rfl rfl ?_
   refine loop_n (l.length - (i + 1)) (by omega) ⟨i + 1, hi, any_take (d := []) hi f0_1 c2, rfl, _, _, _, _, rfl, rfl, rfl, rfl, inc_i64 (by omega), trivial⟩
 ·skip
  have hi := row_ge c1
  refine W.exit ?_
  refine thenK_e ?_
  refine thenK_e ?_
  refine blockK_x ?_
  refine thenK_n ?_
  refine W.seq ?_
  refine W.region ?_
  refine S.pure tOk zOk rfl rfl rfl ?_
  refine thenK_n ?_
  refine W.ret ?_
  exact ⟨_, rfl, rfl, LeV.of_eq (congrArg (fun x => V.one (C.d (D.int .i64 x))) (idxOf_none (any_end hi f0_1)).symm)⟩
end Go.Proofs.YtcchfmilleffjaaGreatDoor
namespace Go.Proofs.YtcchfmilleffjaaGreatDoor
open Go Go.RowKit
open Go.ChangeMaps (setBlock)
section
variable {J : Inv} {k0 : Lens} {E : Env J k0} {P : Program} {T : TypeId → Option TI} {n : Nat} {t : Nat → V} {b : List (List C)} {r : List (Option RowO)} {m : List (List (DV × DV))} {ops : Array Oper} {l : List Oper}
  {K : St → Prop} {i : Nat} {ty : TypeId} {pos : String} {after : Array Edge}
structure Wk {J : Inv} {k0 : Lens} (E : Env J k0) (n : Nat) (s s2 : St) : Prop where
  rel : ∀ g a w, Rel E n g s a w → Rel E n g s2 a w
  live : ∀ x, s2.live x → s.live x
theorem Wk.keep {l : List (Nat × V)} {b1 b2 : List (List C)} {r1 r2 : List (Option RowO)} {m1 m2 : List (List (DV × DV))} {s : St} (he : s = ⟨t, b1 ++ b2, r1 ++ r2, m1 ++ m2⟩) (hl : holdsL t l)
    (hlow : ((loL b1.length r1.length m1.length l && loB b1.length r1.length m1.length b1) && (Nat.ble k0.L b1.length && (Nat.ble k0.R r1.length && Nat.ble k0.M m1.length))) = true) : Wk E n s ⟨ofL l, b1, r1, m1⟩ := by
  subst he
  refine ⟨fun g a w rel => Rel.keep l b1 b2 r1 r2 m1 m2 hl hlow rel, fun x hx => ?_⟩
  cases x with
  | b q => exact Nat.lt_of_lt_of_le hx (by simp)
  | r q => obtain ⟨o, ho, hal⟩ := hx; exact ⟨o, by rw [List.getElem?_append_left (List.getElem?_eq_some_iff.1 ho).1]; exact ho, hal⟩
  | m q => exact Nat.lt_of_lt_of_le hx (by simp)
theorem Rel.aside {s : St} {g : Gh} {a : Act} {w : World} (r : Rel E n g s a w) {k : Nat} (o : Obj) (h0 : E.w0.heap.size ≤ k) (h1 : ¬ g.im k) (h2 : ∀ x, s.live x → g.at_ x ≠ k) : Rel E n g s a (setBlock w k o) := by
  have hsz : (setBlock w k o).heap.size = w.heap.size := by simp [setBlock]
  have hold : ∀ q, q ≠ k → (setBlock w k o).heap[q]? = w.heap[q]? := fun q hq => by simp only [setBlock]; rw [Array.getElem?_setIfInBounds, if_neg (Ne.symm hq)]
  have e : Ext g s.sh w g s.sh (setBlock w k o) := .of (fun _ h => h) (fun q hq => hold q (fun he => h1 (he ▸ hq))) rfl rfl rfl
  exact ⟨⟨r.below.os, r.below.tape, r.below.output, by rw [hsz]; exact r.below.size, fun q hq hn => (hold q (by omega)).trans (r.below.block q hq hn)⟩, r.ext.trans e, fun q hq => by rw [hsz]; exact r.imlt q hq, r.imold, r.own,
    r.heap.mono e (by rw [hsz]; exact Nat.le_refl _) r.heap.new rfl rfl rfl (fun x hx => hold _ (h2 x hx)), r.size, r.defers, fun i hi => (r.tmps i hi).mono e⟩
theorem wpOps_pre {Q : Exit → Act → World → Prop} : ∀ (l rest : List Oper) (k : Nat) (s : St), ops.toList.drop k = l ++ rest → WL E P n ops l K s →
    ∀ g a w, Rel E n g s a w → (∀ s' g' a' w', K s' → Rel E n g' s' a' w' → wpOps P ops Q (List.range' (k + l.length) rest.length) a' w') → wpOps P ops Q (List.range' k (l.length + rest.length)) a w
  | [], rest, k, s, hl, h, g, a, w, r, hq => by simpa using hq s g a w h r
  | o :: l, rest, k, s, hl, h, g, a, w, r, hq => by
    have ho : ops[k]? = some o := by
      have := congrArg (fun x => x[0]?) hl
      simpa using this
    have ht : ops.toList.drop (k + 1) = l ++ rest := by
      have := congrArg (List.drop 1) hl
      simpa [List.drop_drop, Nat.add_comm] using this
    have h1 := h g a w r (wpOps P ops Q (List.range' (k + 1) (l.length + rest.length))) Q (fun s' g' a' w' hk r' => wpOps_pre l rest (k + 1) s' ht hk g' a' w' r' (fun s' g' a' w' hk r' => by
      have := hq s' g' a' w' hk r'
      rwa [show k + (o :: l).length = k + 1 + l.length by simp; omega] at this))
    have e : (o :: l).length + rest.length = (l.length + rest.length) + 1 := by simp; omega
    rw [e, List.range'_succ]
    unfold wpOps
    simp only [ho]
    split
    · rename_i hw; rw [if_pos hw] at h1; exact .inl h1
    · rename_i hw; rw [if_neg hw] at h1; exact h1
theorem WL.mono' {ops : Array Oper} {K K' : St → Prop} : ∀ {l : List Oper} {s : St}, WL E P n ops l K s → (∀ s, K s → K' s) → WL E P n ops l K' s
  | [], s, h, hk => hk s h
  | o :: l, s, h, hk => fun g a w rel next Q hn => h g a w rel next Q (fun s' g' a' w' h1 h2 => hn s' g' a' w' (WL.mono' h1 hk) h2)
variable {α β : Type}
def stMap (c : Nat) (enc : α → D) (fD : β → DV) (l : List (Nat × α × β)) : List (DV × DV) := l.map fun x => (DV.st x.1 c (enc x.2.1), fD x.2.2)
theorem stMap_get {c : Nat} {enc : α → D} {fD : β → DV} {l : List (Nat × α × β)} {i : Nat} {x : DV × DV} (h : (stMap c enc fD l)[i]? = some x) : ∃ y, l[i]? = some y ∧ (DV.st y.1 c (enc y.2.1), fD y.2.2) = x := by
  unfold stMap at h
  rw [List.getElem?_map] at h
  cases hy : l[i]? with
  | none => rw [hy] at h; cases h
  | some y => rw [hy] at h; exact ⟨y, rfl, by simpa using h⟩
theorem stMap_at {c : Nat} {enc : α → D} {fD : β → DV} {l : List (Nat × α × β)} {i : Nat} {y : Nat × α × β} (h : l[i]? = some y) : (stMap c enc fD l)[i]? = some (DV.st y.1 c (enc y.2.1), fD y.2.2) := by
  unfold stMap; rw [List.getElem?_map, h]; rfl
theorem stMap_map {enc : α → D} {fD : β → DV} {l : List (Nat × α × β)} {i : Nat} {x : DV × DV} (h : (mapOf enc fD (l.map (·.2)))[i]? = some x) : ∃ y, l[i]? = some y ∧ (DV.one (enc y.2.1), fD y.2.2) = x := by
  unfold mapOf at h
  rw [List.getElem?_map, List.getElem?_map] at h
  cases hy : l[i]? with
  | none => rw [hy] at h; cases h
  | some y => rw [hy] at h; exact ⟨y, rfl, by simpa using h⟩
theorem Rel.retell {s : St} {g : Gh} {a : Act} {w : World} (r : Rel E n g s a w) {mi : Nat} {es es' : List (DV × DV)} (hm : s.m[mi]? = some es)
    (h : ∀ arr clock, MapFitE arr clock es → (∀ (i : Nat) (x : DV × DV) (e : MapEntry), es[i]? = some x → arr[i]? = some e → RV g s.sh w x.1.v e.key ∧ RV g s.sh w x.2.v e.val) →
      w.heap[g.at_ (.m mi)]? = some (.map arr clock) → MapFitE arr clock es' ∧ ∀ (i : Nat) (x : DV × DV) (e : MapEntry), es'[i]? = some x → arr[i]? = some e → RV g s.sh w x.1.v e.key ∧ RV g s.sh w x.2.v e.val) :
    Rel E n g ⟨s.t, s.b, s.r, s.m.set mi es'⟩ a w := by
  have hmi : mi < s.m.length := (List.getElem?_eq_some_iff.1 hm).1
  have hsh : (⟨s.t, s.b, s.r, s.m.set mi es'⟩ : St).sh = s.sh := by simp [St.sh]
  have hlv : (⟨s.t, s.b, s.r, s.m.set mi es'⟩ : St).live = s.live := by
    funext x
    cases x with
    | b l => rfl
    | r l => rfl
    | m l => show (l < (s.m.set mi es').length) = _; rw [List.length_set]; rfl
  refine ⟨r.below, by rw [hsh]; exact r.ext, r.imlt, r.imold, fun x hx => r.own x (hlv ▸ hx), ⟨fun x hx => r.heap.lt x (hlv ▸ hx), fun x hx => r.heap.new x (hlv ▸ hx), fun x y hx hy => r.heap.inj x y (hlv ▸ hx) (hlv ▸ hy), fun l cs hl => ?_, fun l o ho => ?_, fun l es0 hes => ?_⟩, r.size, r.defers, fun i hi => by rw [hsh]; exact r.tmps i hi⟩
  · rw [hsh]; exact r.heap.box l cs hl
  · exact r.heap.row l o ho
  · have hes : (s.m.set mi es')[l]? = some es0 := hes
    rw [hsh]
    by_cases e : mi = l
    · subst e
      obtain rfl : es' = es0 := by simpa [List.getElem?_set, hmi] using hes
      obtain ⟨arr, clock, h1, h2, h3⟩ := r.heap.map mi es hm
      obtain ⟨h4, h5⟩ := h arr clock h2 h3 h1
      exact ⟨arr, clock, h1, h4, h5⟩
    · exact r.heap.map l es0 (by simpa [List.getElem?_set, e] using hes)
theorem Rel.unSt {s : St} {g : Gh} {a : Act} {w : World} (r : Rel E n g s a w) {mi c : Nat} {enc : α → D} {fD : β → DV} {T : List (Nat × α × β)} (hm : s.m[mi]? = some (stMap c enc fD T)) :
    Rel E n g ⟨s.t, s.b, s.r, s.m.set mi (mapOf enc fD (T.map (·.2)))⟩ a w := by
  refine r.retell hm fun arr clock h1 h2 _ => ⟨⟨?_, fun i x e hx he => ?_⟩, fun i x e hx he => ?_⟩
  · have := h1.1; simpa [stMap, mapOf] using this
  · obtain ⟨y, _, rfl⟩ := stMap_map hx; trivial
  · obtain ⟨y, hy, rfl⟩ := stMap_map hx
    obtain ⟨c1, c2⟩ := h2 i _ e (stMap_at hy) he
    exact ⟨c1, c2⟩
theorem W.unSt {c0 : Code} {KK : Ex → St → Prop} {mi c : Nat} {enc : α → D} {fD : β → DV} {T : List (Nat × α × β)} {l0 : List (α × β)} (hm : m[mi]? = some (stMap c enc fD T)) (hl : T.map (·.2) = l0) {m' : List (List (DV × DV))} (hm' : m.set mi (mapOf enc fD l0) = m')
    (h : W E P n c0 KK ⟨t, b, r, m'⟩) : W E P n c0 KK ⟨t, b, r, m⟩ := by
  subst hl; subst hm'
  exact h.weaken fun g a w rel => ⟨g, rel.unSt hm⟩
structure EntAt {J : Inv} {k0 : Lens} (E : Env J k0) (q : V) (mi born c : Nat) : Prop where
  ex : ∃ (r0 since : Nat) (seen : Array Nat), q = .one (.d (.raw (.pointer (some ⟨r0, 0, none⟩)))) ∧ E.w0.heap[r0]? = some (.mapIter (some (E.g0.at_ (.m mi))) since (seen.push born) c) ∧ ¬ E.lent r0
  lt : mi < E.sh0.M
theorem opd_raw {s : St} {g : Gh} {a : Act} {w : World} (r : Rel E n g s a w) {i : Nat} {v : Value} (hi : Nat.blt i n = true) (hv : s.t i = .one (.d (.raw v))) : RV g s.sh w (.one (.d (.raw v))) (a.eval (.tmp i)) := by
  have := r.tmps i (by simpa using hi)
  rw [hv] at this
  exact this
theorem raw_eq {g : Gh} {h : Sh} {w : World} {v x : Value} (hx : RV g h w (.one (.d (.raw v))) x) : x = v := by
  cases hx with | one _ _ hx => cases hx with | d _ _ hx => cases hx; rfl
theorem S.entry {x : Operand} {q : V} {mi born c j : Nat} {es : List (DV × DV)} {kd : D} {vd : DV} (hE : EntAt E q mi born c) (hx : opd n ⟨t, b, r, m⟩ x = (true, q)) (hm : m[mi]? = some es) (hj : es[j]? = some (.st born c kd, vd))
    (k : WL E P n ops l K ⟨upd t i (.tup [.one (.d kd), vd.v]), b, r, m⟩) : WL E P n ops (⟨some i, .entry x, ty, pos, after, none⟩ :: l) K ⟨t, b, r, m⟩ := by
  intro g a w rel next Q hn
  have hw : Region.wanted (⟨some i, .entry x, ty, pos, after, none⟩ : Oper) (yielded ops a.tmps) = true := by simp [Region.wanted]
  rw [if_pos hw]
  obtain ⟨⟨r0, since, seen, rfl, h1, h2⟩, h3⟩ := hE
  have hv := raw_eq (opd_ok rel hx rfl)
  have hr0 : r0 < E.w0.heap.size := (Array.getElem?_eq_some_iff.1 h1).1
  have hr : w.heap[r0]? = some (.mapIter (some (g.at_ (.m mi))) since (seen.push born) c) := by
    rw [rel.below.block r0 hr0 h2, h1, rel.ext.atM mi h3]
  obtain ⟨arr, clock, p1, p2, p3⟩ := rel.heap.map mi es hm
  have hjl : j < arr.size := by rw [p2.1.len]; exact (List.getElem?_eq_some_iff.1 hj).1
  have he : arr[j]? = some arr[j] := Array.getElem?_eq_getElem hjl
  obtain ⟨hb, hc⟩ : arr[j].born = born ∧ clock = c := p2.2 j _ _ hj he
  subst hc
  obtain ⟨q1, q2⟩ := p3 j _ _ hj he
  have hnd : (arr.toList.map (·.born)).Nodup := by
    rw [List.nodup_iff_pairwise_ne]
    refine List.pairwise_map.2 (List.pairwise_iff_getElem.2 fun i' j' hi hj' hij he' => ?_)
    have := p2.1.dist i' j' _ _ (by rw [← Array.getElem?_toList, List.getElem?_eq_getElem hi]) (by rw [← Array.getElem?_toList, List.getElem?_eq_getElem hj']) he'
    omega
  have hrun := run_entry_at (P := P) w r0 (g.at_ (.m mi)) since seen arr clock arr[j] (by rw [hb]; exact hr) p1 (Array.getElem_mem_toList hjl) hnd
  have hex : (execOp a.eval (⟨some i, .entry x, ty, pos, after, none⟩ : Oper)).run P w = .ok (.value (.tuple #[arr[j].key, arr[j].val])) w := by
    simp only [execOp, hv, Sem.run_bind, hrun, Result.andThen_ok, Sem.run_pure]
  unfold Oper.wp
  rw [hex]
  refine hn _ g _ _ k (rel.put_same (some i) ?_)
  exact RV.tup2 (h := (⟨t, b, r, m⟩ : St).sh) q1 q2
end
theorem mem_idx {α : Type} {l : List α} {x : α} (h : x ∈ l) : ∃ i : Nat, l[i]? = some x := by
  obtain ⟨i, hi, he⟩ := List.getElem_of_mem h
  exact ⟨i, by rw [List.getElem?_eq_getElem hi, he]⟩
section
variable {J : Inv} {k0 : Lens} {E : Env J k0} {P : Program} {T : TypeId → Option TI} {n : Nat}
variable {α β : Type}
structure GI {J : Inv} {k0 : Lens} (E : Env J k0) (n : Nat) (enc : α → D) (fD : β → DV) (l0 : List (α × β)) (mi : Nat) (I : Value → Nat → List (Nat × α × β) → List (α × β) → List (α × β) → St → Prop)
    (v : Value) (c : Nat) (T dn kp rem : List (Nat × α × β)) (r0 : Nat) (seen : Array Nat) (s : St) (g : Gh) (a : Act) (w : World) : Prop where
  inv : I v c T (dn.map (·.2)) (kp.map (·.2)) s
  rel : Rel E n g s a w
  v : v = .pointer (some ⟨r0, 0, none⟩)
  it : w.heap[r0]? = some (.mapIter (some (g.at_ (.m mi))) c seen c)
  ge : E.w0.heap.size ≤ r0
  im : ¬ g.im r0
  live : ∀ x, s.live x → g.at_ x ≠ r0
  seen : seen.toList = dn.map (·.1)
  perm : T.Perm (kp ++ rem)
  kept : ∀ z ∈ kp, z ∈ dn
  fresh : ∀ z ∈ rem, z.1 ∉ dn.map (·.1)
  all : l0.Perm ((dn ++ rem).map (·.2))
  sub : (T.map (·.2)).Sublist l0
set_option maxHeartbeats 1000000 in
theorem W.mapRound {enc : α → D} {fD : β → DV} {l0 : List (α × β)} {mi : Nat} {I : Value → Nat → List (Nat × α × β) → List (α × β) → List (α × β) → St → Prop}
    (hI : ∀ q c T dn kp s, I q c T dn kp s → s.m[mi]? = some (stMap c enc fD T))
    {i5 i6 i7 id1 b0 : Nat} (h5 : Nat.blt i5 n = true) (hq : ∀ v c T dn kp s, I v c T dn kp s → s.t i5 = .one (.d (.raw v))) (h7 : Nat.blt i6 n = true ∧ Nat.blt i7 n = true ∧ Nat.beq i6 i7 = false) {y1 y2 : TypeId} {p1 p2 : String} {e1 e2 : Array Edge} {body : Code} {K : Ex → St → Prop}
    (hround : ∀ (q : Value) (c : Nat) (T : List (Nat × α × β)) (dn kp : List (α × β)) (s : St) (j born : Nat) (y : α × β) (rest : List (α × β)) (E1 : Env J ⟨s.b.length, s.r.length, s.m.length⟩), I q c T dn kp s → T[j]? = some (born, y) → EntAt E1 (.one (.d (.raw q))) mi born c → l0.Perm (dn ++ y :: rest) → (T.map (·.2)).Sublist l0 →
      W E1 P n body (thenK (fun s' => ∃ s2, (I q c T (dn ++ [y]) (kp ++ [y]) s2 ∨ I q c (T.eraseIdx j) (dn ++ [y]) kp s2) ∧ Wk E1 n s' s2) K) ⟨upd (upd s.t i6 .junk) i7 .junk, s.b, s.r, s.m⟩)
    (hend : ∀ (q : Value) (c : Nat) (T : List (Nat × α × β)) (dn kp : List (α × β)) (s : St), I q c T dn kp s → l0.Perm dn → (T.map (·.2)).Perm kp → (T.map (·.2)).Sublist l0 → ∃ s2, Wk E n ⟨upd (upd s.t i6 .junk) i7 .junk, s.b, s.r, s.m.set mi (mapOf enc fD (T.map (·.2)))⟩ s2 ∧ K (.exit b0) s2)
    {q : Value} {c : Nat} {T dn kp rem : List (Nat × α × β)} {r0 : Nat} {seen : Array Nat} {s : St} {g : Gh} {a : Act} {w : World} (G : GI E n enc fD l0 mi I q c T dn kp rem r0 seen s g a w) :
    (Code.seq (.region id1 #[⟨some i6, .next (.tmp i5) false, y1, p1, e1, none⟩, ⟨some i7, .extract (.tmp i6) 0, y2, p2, e2, none⟩] false) (.seq (.cond (.tmp i7) .skip (.exit b0)) body)).wp P
      (Exit.then (fun a' w' => ∃ q c T dn kp rem' r0 seen s g, rem'.length < rem.length ∧ GI E n enc fD l0 mi I q c T dn kp rem' r0 seen s g a' w') (fun e a' w' => ∃ x s' g', e = Ex.exit' x ∧ K x s' ∧ Rel E n g' s' a' w')) a w := by
  obtain ⟨hinv, rel, rfl, hit, hge, him, hlive, hseen, hperm, hkept, hfresh, hall, hsub⟩ := G
  have hm := hI _ _ _ _ _ _ hinv
  obtain ⟨arr, clock, a1, a2, a3⟩ := rel.heap.map mi _ hm
  have hlen : arr.size = T.length := by rw [a2.1.len]; simp [stMap]
  have hst : ∀ (i : Nat) (z : Nat × α × β) (e : MapEntry), T[i]? = some z → arr[i]? = some e → e.born = z.1 ∧ clock = c := fun i z e hz he => a2.2 i _ e (stMap_at hz) he
  have hTnd : ∀ (i j : Nat) (y z : Nat × α × β), T[i]? = some y → T[j]? = some z → y.1 = z.1 → i = j := fun i j y z hy hz hb => by
    have hi : i < arr.size := by rw [hlen]; exact (List.getElem?_eq_some_iff.1 hy).1
    have hj : j < arr.size := by rw [hlen]; exact (List.getElem?_eq_some_iff.1 hz).1
    have b1 := hst i y _ hy (Array.getElem?_eq_getElem hi)
    have b2 := hst j z _ hz (Array.getElem?_eq_getElem hj)
    exact a2.1.dist i j _ _ (Array.getElem?_eq_getElem hi) (Array.getElem?_eq_getElem hj) (by rw [b1.1, b2.1, hb])
  have hidx : ∀ e ∈ arr.toList, ∃ (i : Nat) (z : Nat × α × β), arr[i]? = some e ∧ T[i]? = some z ∧ e.born = z.1 ∧ clock = c := fun e he => by
    obtain ⟨i, hi⟩ := mem_idx he
    rw [Array.getElem?_toList] at hi
    have hil : i < T.length := by rw [← hlen]; exact (Array.getElem?_eq_some_iff.1 hi).1
    exact ⟨i, _, hi, List.getElem?_eq_getElem hil, hst i _ e (List.getElem?_eq_getElem hil) hi⟩
  have hold : ∀ x ∈ arr.toList, x.born < c := fun x hx => by
    obtain ⟨i, z, h1, h2, h3, h4⟩ := hidx x hx
    have := a2.1.born i x h1
    omega
  have hcont : ∀ k, seen.contains k = true ↔ k ∈ dn.map (·.1) := fun k => by
    rw [Array.contains_iff_mem, ← hseen, Array.mem_toList_iff]
  have hn6 : i6 < n := by have := h7.1; simpa using this
  have hn7 : i7 < n := by have := h7.2.1; simpa using this
  have h67 : i6 ≠ i7 := by rintro rfl; have := h7.2.2; simp at this
  have hev : a.eval (.tmp i5) = .pointer (some ⟨r0, 0, none⟩) := raw_eq (opd_raw rel h5 (hq _ _ _ _ _ _ hinv))
  obtain ⟨QQ, hQQ⟩ : ∃ QQ : Exit → Act → World → Prop, QQ = Exit.then (fun a' w' => ∃ q c T dn kp rem' r0 seen s g, rem'.length < rem.length ∧ GI E n enc fD l0 mi I q c T dn kp rem' r0 seen s g a' w') (fun e a' w' => ∃ x s' g', e = Ex.exit' x ∧ K x s' ∧ Rel E n g' s' a' w') := ⟨_, rfl⟩
  rw [← hQQ]
  -- behind 'next'
  have step : ∀ (w2 : World) (vt : Array Value) (bb : Bool), (Instr.next (.pointer (some ⟨r0, 0, none⟩)) false y1).run P w = .ok (.tuple vt) w2 → vt[0]? = some (.bool bb) → Rel E n g s a w2 →
      (∀ a2, Rel E n g ⟨upd (upd s.t i6 .junk) i7 .junk, s.b, s.r, s.m⟩ a2 w2 → if bb then body.wp P QQ a2 w2 else QQ (.exit b0) a2 w2) →
      (Code.seq (.region id1 #[⟨some i6, .next (.tmp i5) false, y1, p1, e1, none⟩, ⟨some i7, .extract (.tmp i6) 0, y2, p2, e2, none⟩] false) (.seq (.cond (.tmp i7) .skip (.exit b0)) body)).wp P QQ a w := by
    intro w2 vt bb hrun hv0 rel2 hk
    have r1 := rel2.put_same (some i6) (u := .junk) (v := .tuple vt) (.junk _)
    have r2 := r1.put_same (some i7) (u := .junk) (v := .bool bb) (.junk _)
    refine wp_seq (wp_region ?_)
    show wpOps P _ _ [0, 1] a w
    unfold wpOps
    simp only [List.getElem?_toArray, List.getElem?_cons_zero]
    rw [if_pos (by simp [Region.wanted])]
    refine .inl ?_
    unfold Oper.wp
    have hx1 : (execOp a.eval (⟨some i6, .next (.tmp i5) false, y1, p1, e1, none⟩ : Oper)).run P w = .ok (.value (.tuple vt)) w2 := by
      simp only [execOp, hev, Sem.run_bind, hrun, Result.andThen_ok, Sem.run_pure]
    rw [hx1, Oper.upon_value]
    unfold wpOps
    simp only [List.getElem?_toArray, List.getElem?_cons_zero, List.getElem?_cons_succ]
    rw [if_pos (by simp [Region.wanted])]
    refine .inl ?_
    unfold Oper.wp
    have he6 : (a.put (some i6) (.tuple vt)).eval (.tmp i6) = .tuple vt := by
      show (a.put (some i6) (.tuple vt)).tmps.getD i6 undef = _
      rw [tmps_put rel2.size (some i6) _ i6 hn6, if_pos rfl]
    have hx2 : (execOp (a.put (some i6) (.tuple vt)).eval (⟨some i7, .extract (.tmp i6) 0, y2, p2, e2, none⟩ : Oper)).run P w2 = .ok (.value (.bool bb)) w2 := by
      simp only [execOp, he6, Instr.extract, hv0, Sem.run_bind, Result.andThen_ok, Sem.run_pure]
    rw [hx2, Oper.upon_value]
    unfold wpOps
    have he7 : ((a.put (some i6) (.tuple vt)).put (some i7) (.bool bb)).eval (.tmp i7) = .bool bb := by
      show ((a.put (some i6) (.tuple vt)).put (some i7) (.bool bb)).tmps.getD i7 undef = _
      rw [tmps_put r1.size (some i7) _ i7 hn7, if_pos rfl]
    have hk2 := hk _ r2
    refine wp_seq (wp_cond he7 ?_)
    cases bb with
    | true => exact wp_skip hk2
    | false => exact wp_exit hk2
  rcases run_next_at (P := P) w y1 r0 (g.at_ (.m mi)) c c seen arr clock hit a1 hold (Nat.le_refl _) with ⟨hz, hrun⟩ | ⟨e, hel, w1, hw1, hrun⟩
  · -- nothing is left
    refine step w _ false hrun rfl rel (fun a2 rel2 => ?_)
    simp only [Bool.false_eq_true, if_false]
    have hrem : rem = [] := by
      cases hr : rem with
      | nil => rfl
      | cons z rem' =>
        exfalso
        have hzr : z ∈ rem := by rw [hr]; exact List.mem_cons_self
        have hzT : z ∈ T := hperm.mem_iff.2 (List.mem_append_right _ hzr)
        obtain ⟨i, hi⟩ := mem_idx hzT
        have hil : i < arr.size := by rw [hlen]; exact (List.getElem?_eq_some_iff.1 hi).1
        have hb := hst i z _ hi (Array.getElem?_eq_getElem hil)
        have hmem : arr[i] ∈ leftOf arr seen := by
          unfold leftOf
          rw [Array.mem_filter]
          refine ⟨Array.getElem_mem hil, ?_⟩
          have hne := hfresh z hzr
          cases hc : seen.contains arr[i].born with
          | false => rfl
          | true => rw [hb.1] at hc; exact absurd ((hcont _).1 hc) hne
        have := Array.size_pos_of_mem hmem
        omega
    subst hrem
    rw [List.append_nil] at hperm hall
    obtain ⟨s2, hw2, hK⟩ := hend _ c T _ _ s hinv hall (hperm.map _) hsub
    have rel2 := hw2.rel _ _ _ (rel2.unSt hm)
    rw [hQQ]
    exact ⟨.exit b0, s2, g, rfl, hK, rel2⟩
  · have he0 : e ∈ arr.toList ∧ seen.contains e.born = false := by
      unfold leftOf at hel
      rw [Array.mem_toList_iff, Array.mem_filter] at hel
      refine ⟨Array.mem_toList_iff.2 hel.1, ?_⟩
      have := hel.2
      simpa using this
    obtain ⟨j, z, hj1, hj2, hj3, hj4⟩ := hidx e he0.1
    have hzT : z ∈ T := List.mem_of_getElem? hj2
    have hzn : z.1 ∉ dn.map (·.1) := fun h => by
      have := (hcont z.1).2 h
      rw [hj3] at he0
      rw [he0.2] at this; cases this
    have hzr : z ∈ rem := by
      rcases List.mem_append.1 (hperm.mem_iff.1 hzT) with h | h
      · exact absurd (List.mem_map.2 ⟨z, hkept z h, rfl⟩) hzn
      · exact h
    obtain ⟨r1, r2, hr⟩ := List.append_of_mem hzr
    have hremp : rem.Perm (z :: (r1 ++ r2)) := by rw [hr]; exact List.perm_middle
    have rel1 : Rel E n g s a w1 := by rcases hw1 with rfl | rfl
                                       · exact rel
                                       · exact rel.drew _
    have hw1h : w1.heap = w.heap := by rcases hw1 with rfl | rfl <;> rfl
    have hr0l : r0 < w.heap.size := (Array.getElem?_eq_some_iff.1 hit).1
    have rel2 := rel1.aside (.mapIter (some (g.at_ (.m mi))) c (seen.push e.born) clock) hge him hlive
    obtain ⟨w2, hw2⟩ : ∃ w2, w2 = setBlock w1 r0 (.mapIter (some (g.at_ (.m mi))) c (seen.push e.born) clock) := ⟨_, rfl⟩
    rw [← hw2] at hrun rel2
    refine step w2 _ true hrun rfl rel2 (fun aa rel3 => ?_)
    simp only [if_true]
    have hit2 : w2.heap[r0]? = some (.mapIter (some (g.at_ (.m mi))) c (seen.push e.born) clock) := by
      rw [hw2]; simp only [setBlock]; rw [Array.getElem?_setIfInBounds, if_pos rfl, hw1h, if_pos hr0l]
    have hsz2 : w2.heap.size = w.heap.size := by rw [hw2]; simp [setBlock, hw1h]
    subst hj4
    -- the round's own Env
    obtain ⟨E1, hE1⟩ : ∃ E1 : Env J ⟨s.b.length, s.r.length, s.m.length⟩, E1 = ⟨w2, g, s.sh, fun k => ∃ x, s.live x ∧ g.at_ x = k, rfl, by simp [St.sh], rfl, rel2.inv, fun k ⟨x, hx, hk⟩ => by
      rw [← hk]
      rcases rel.own x hx with h | h
      · exact E.hN _ h
      · exact Nat.le_trans (J.lt _ E.hI) h⟩ := ⟨_, rfl⟩
    have hEw : E1.w0 = w2 := by rw [hE1]
    have hEg : E1.g0 = g := by rw [hE1]
    have hEs : E1.sh0 = s.sh := by rw [hE1]
    have hEl : ∀ k, E1.lent k ↔ ∃ x, s.live x ∧ g.at_ x = k := fun k => by rw [hE1]
    have hmi : mi < s.m.length := (List.getElem?_eq_some_iff.1 hm).1
    have hEnt : EntAt E1 (.one (.d (.raw (.pointer (some ⟨r0, 0, none⟩))))) mi z.1 clock := by
      refine ⟨⟨r0, clock, seen, rfl, by rw [hEw, hEg, ← hj3]; exact hit2, fun h => ?_⟩, by rw [hEs]; exact hmi⟩
      obtain ⟨x, hx, hk⟩ := (hEl r0).1 h
      exact hlive x hx hk
    obtain ⟨s3, hs3⟩ : ∃ s3 : St, s3 = ⟨upd (upd s.t i6 .junk) i7 .junk, s.b, s.r, s.m⟩ := ⟨_, rfl⟩
    have hsh3 : s3.sh = s.sh := by rw [hs3]; rfl
    have hlv3 : ∀ x, s3.live x ↔ s.live x := fun x => by rw [hs3]; cases x <;> exact Iff.rfl
    rw [← hs3] at rel3
    have rel4 : Rel E1 n g s3 aa w2 := by
      refine ⟨by rw [hEw]; exact BelowX.refl _ _, by rw [hEg, hEs, hEw, hsh3]; exact Ext.refl _ _ _, rel3.imlt, fun k hk => .inl (by rw [hEg]; exact hk), fun x hx => .inl ((hEl _).2 ⟨x, (hlv3 x).1 hx, rfl⟩), rel3.heap, rel3.size, rel3.defers, rel3.tmps⟩
    have hperm' : l0.Perm (dn.map (·.2) ++ z.2 :: (r1 ++ r2).map (·.2)) := by
      refine hall.trans ?_
      rw [List.map_append]
      refine List.Perm.append_left _ ?_
      have := hremp.map (fun x : Nat × α × β => x.2)
      simpa using this
    have hbody := hround _ clock T _ _ s j z.1 z.2 _ E1 hinv hj2 hEnt hperm' hsub
    rw [← hs3] at hbody
    -- back to the loop's Env
    have back : ∀ g' s' a' w', Rel E1 n g' s' a' w' → Rel E n g' s' a' w' := fun g' s' a' w' rel5 => by
      have hb := rel5.below; have hx := rel5.ext
      rw [hEw] at hb hx
      rw [hEg, hEs] at hx
      refine ⟨rel2.below.trans hb (fun k hk hlt => ?_), rel2.ext.trans hx, rel5.imlt, fun k hk => ?_, fun x hx => ?_, rel5.heap, rel5.size, rel5.defers, rel5.tmps⟩
      · obtain ⟨x, hx, hk⟩ := (hEl k).1 hk
        rcases rel2.own x hx with h | h
        · rw [← hk]; exact h
        · omega
      · rcases rel5.imold k hk with h | h | h
        · rw [hEg] at h; exact rel2.imold k h
        · obtain ⟨x, hx, hk⟩ := (hEl k).1 h
          rw [← hk]; exact .inr (rel2.own x hx)
        · rw [hEw] at h; exact .inr (.inr (Nat.le_trans rel2.below.size h))
      · rcases rel5.own x hx with h | h
        · obtain ⟨y, hy, hk⟩ := (hEl _).1 h
          rw [← hk]; exact rel2.own y hy
        · rw [hEw] at h; exact .inr (Nat.le_trans rel2.below.size h)
    refine wp_mono (hbody g aa w2 rel4) ?_
    rintro ex a' w' ⟨x, s', g', rfl, hk, rel5⟩
    have hnl : ¬ E1.lent r0 := fun h => by
      obtain ⟨x, hx, hk⟩ := (hEl r0).1 h
      exact hlive x hx hk
    have hr02 : r0 < w2.heap.size := by rw [hsz2]; exact hr0l
    rw [hQQ]
    cases x with
    | exit id => exact ⟨.exit id, s', g', rfl, hk, back _ _ _ _ rel5⟩
    | ret => exact ⟨.ret, s', g', rfl, hk, back _ _ _ _ rel5⟩
    | normal =>
      obtain ⟨s2, hk, hw⟩ := hk
      have rel5 := hw.rel _ _ _ rel5
      clear hw
      generalize s2 = s' at hk rel5
      have rel6 := back _ _ _ _ rel5
      have him' : ¬ g'.im r0 := fun h => by
        rcases rel5.imold r0 h with h | h | h
        · rw [hEg] at h; exact him h
        · exact hnl h
        · rw [hEw] at h; omega
      have hlive' : ∀ x, s'.live x → g'.at_ x ≠ r0 := fun x hx he => by
        rcases rel5.own x hx with h | h
        · rw [he] at h; exact hnl h
        · rw [he, hEw] at h; omega
      have hit' : w'.heap[r0]? = some (.mapIter (some (g'.at_ (.m mi))) clock (seen.push z.1) clock) := by
        have h1 := rel5.below.block r0 (by rw [hEw]; exact hr02) hnl
        have h2 := rel5.ext.atM mi (by rw [hEs]; exact hmi)
        rw [hEg] at h2
        rw [h1, hEw, hit2, h2, hj3]
      have hseen' : (seen.push z.1).toList = (dn ++ [z]).map (·.1) := by rw [Array.toList_push, hseen, List.map_append]; rfl
      have hTb : (T.map (·.1)).Nodup := by
        rw [List.nodup_iff_pairwise_ne]
        refine List.pairwise_map.2 (List.pairwise_iff_getElem.2 fun i' j' hi hj' hij he' => ?_)
        have := hTnd i' j' _ _ (List.getElem?_eq_getElem hi) (List.getElem?_eq_getElem hj') he'
        omega
      have hfresh' : ∀ y ∈ r1 ++ r2, y.1 ∉ (dn ++ [z]).map (·.1) := fun y hy h => by
        have hyr : y ∈ rem := by rw [hr]; simp only [List.mem_append, List.mem_cons] at hy ⊢; rcases hy with h | h <;> simp [h]
        rw [List.map_append, List.mem_append] at h
        rcases h with h | h
        · exact hfresh y hyr h
        · have hyz : y.1 = z.1 := by simpa using h
          have hp : (T.map (·.1)).Perm ((kp ++ (z :: (r1 ++ r2))).map (·.1)) := (hperm.trans (hremp.append_left kp)).map _
          have hnd := hp.nodup_iff.1 hTb
          rw [List.map_append, List.map_cons] at hnd
          have h3 := (List.nodup_append.1 hnd).2.1
          rw [List.nodup_cons] at h3
          exact h3.1 (List.mem_map.2 ⟨y, hy, hyz⟩)
      have hall' : l0.Perm ((dn ++ [z] ++ (r1 ++ r2)).map (·.2)) := by
        refine hperm'.trans (List.Perm.of_eq ?_)
        simp
      have hlt : (r1 ++ r2).length < rem.length := by rw [hr]; simp
      rcases hk with hk | hk
      · refine ⟨_, clock, T, dn ++ [z], kp ++ [z], r1 ++ r2, r0, seen.push z.1, s', g', hlt, ⟨by simpa using hk, rel6, rfl, hit', hge, him', hlive', hseen', ?_, fun y hy => ?_, hfresh', hall', hsub⟩⟩
        · rw [List.append_assoc]
          exact hperm.trans (hremp.append_left kp)
        · rcases List.mem_append.1 hy with h | h
          · exact List.mem_append_left _ (hkept y h)
          · exact List.mem_append_right _ h
      · refine ⟨_, clock, T.eraseIdx j, dn ++ [z], kp, r1 ++ r2, r0, seen.push z.1, s', g', hlt, ⟨by simpa using hk, rel6, rfl, hit', hge, him', hlive', hseen', ?_, fun y hy => List.mem_append_left _ (hkept y hy), hfresh', hall', ?_⟩⟩
        · have hjl : j < T.length := (List.getElem?_eq_some_iff.1 hj2).1
          have hz : T[j] = z := by have := hj2; rw [List.getElem?_eq_getElem hjl] at this; simpa using this
          have h1 : T.Perm (z :: T.eraseIdx j) := by
            have h3 : T = T.take j ++ z :: T.drop (j + 1) := by
              rw [← hz, List.getElem_cons_drop, List.take_append_drop]
            rw [List.eraseIdx_eq_take_drop_succ]
            exact (List.Perm.of_eq h3).trans List.perm_middle
          have h2 : T.Perm (z :: (kp ++ (r1 ++ r2))) := (hperm.trans (hremp.append_left kp)).trans List.perm_middle
          exact (h1.symm.trans h2).cons_inv
        · exact ((List.eraseIdx_sublist T j).map _).trans hsub
set_option maxHeartbeats 1000000 in
theorem W.forMapG (hT : TabOk P T) {enc : α → D} {fD : β → DV} {l0 : List (α × β)} {mi : Nat} (I : Value → Nat → List (Nat × α × β) → List (α × β) → List (α × β) → St → Prop)
    {ops : Array Oper} (pre : List Oper) {tm kt et : TypeId} {ti : TI} {x : Operand} {i5 i6 i7 id0 id1 b0 : Nat} {y0 y1 y2 : TypeId} {p0 p1 p2 : String} {e0 e1 e2 : Array Edge} {body : Code} {K : Ex → St → Prop} {s : St}
    (hops : ops = (pre ++ [(⟨some i5, .range tm x, y0, p0, e0, none⟩ : Oper)]).toArray) (hti : T tm = some ti) (hd : ti.desc = .map kt et)
    (hI : ∀ q c T dn kp s, I q c T dn kp s → s.m[mi]? = some (stMap c enc fD T)) (h5 : Nat.blt i5 n = true) (hq : ∀ v c T dn kp s, I v c T dn kp s → s.t i5 = .one (.d (.raw v))) (h7 : Nat.blt i6 n = true ∧ Nat.blt i7 n = true ∧ Nat.beq i6 i7 = false)
    (h0 : WL E P n ops pre (fun s1 => opd n s1 x = (true, .one (.map mi)) ∧ s1.m[mi]? = some (mapOf enc fD l0) ∧ ∀ q c T, T.map (·.2) = l0 → ∃ s2, I q c T [] [] s2 ∧ Wk E n ⟨upd s1.t i5 (.one (.d (.raw q))), s1.b, s1.r, s1.m.set mi (stMap c enc fD T)⟩ s2) s)
    (hround : ∀ (q : Value) (c : Nat) (T : List (Nat × α × β)) (dn kp : List (α × β)) (s : St) (j born : Nat) (y : α × β) (rest : List (α × β)) (E1 : Env J ⟨s.b.length, s.r.length, s.m.length⟩), I q c T dn kp s → T[j]? = some (born, y) → EntAt E1 (.one (.d (.raw q))) mi born c → l0.Perm (dn ++ y :: rest) → (T.map (·.2)).Sublist l0 →
      W E1 P n body (thenK (fun s' => ∃ s2, (I q c T (dn ++ [y]) (kp ++ [y]) s2 ∨ I q c (T.eraseIdx j) (dn ++ [y]) kp s2) ∧ Wk E1 n s' s2) (blockK b0 K)) ⟨upd (upd s.t i6 .junk) i7 .junk, s.b, s.r, s.m⟩)
    (hend : ∀ (q : Value) (c : Nat) (T : List (Nat × α × β)) (dn kp : List (α × β)) (s : St), I q c T dn kp s → l0.Perm dn → (T.map (·.2)).Perm kp → (T.map (·.2)).Sublist l0 → ∃ s2, Wk E n ⟨upd (upd s.t i6 .junk) i7 .junk, s.b, s.r, s.m.set mi (mapOf enc fD (T.map (·.2)))⟩ s2 ∧ K .normal s2) :
    W E P n (.seq (.region id0 ops false) (.block b0 (.loop (.seq (.region id1 #[⟨some i6, .next (.tmp i5) false, y1, p1, e1, none⟩, ⟨some i7, .extract (.tmp i6) 0, y2, p2, e2, none⟩] false) (.seq (.cond (.tmp i7) .skip (.exit b0)) body))))) K s := by
  intro g a w rel
  refine wp_seq (wp_region ?_)
  have hsz : ops.size = pre.length + [(⟨some i5, .range tm x, y0, p0, e0, none⟩ : Oper)].length := by rw [hops]; simp
  rw [hsz, List.range_eq_range']
  refine wpOps_pre pre _ 0 s (by rw [hops]; simp) h0 g a w rel (fun s1 g1 a1 w1 ⟨hx, hm, hi⟩ rel1 => ?_)
  have hop : ops[0 + pre.length]? = some ⟨some i5, .range tm x, y0, p0, e0, none⟩ := by rw [hops]; simp
  simp only [List.length_cons, List.length_nil, Nat.zero_add, List.range'_one]
  unfold wpOps
  rw [Nat.zero_add] at hop
  simp only [hop]
  rw [if_pos (by simp [Region.wanted])]
  refine .inl ?_
  have hp := opd_ok rel1 hx rfl
  generalize hxx : a1.eval x = xv at hp
  cases hp with | one _ _ hp => cases hp with | map _ hmi =>
  have ht := (hT tm ti hti).1
  rw [hd] at ht
  obtain ⟨arr, clock, q1, q2, q3⟩ := rel1.heap.map mi _ hm
  have hrun := run_range_map w1 tm kt et (g1.at_ (.m mi)) arr clock ht q1
  unfold Oper.wp
  have hex : (execOp a1.eval (⟨some i5, .range tm x, y0, p0, e0, none⟩ : Oper)).run P w1 = .ok (.value (.pointer (some ⟨w1.heap.size, 0, none⟩))) (w1.alloc (.mapIter (some (g1.at_ (.m mi))) clock #[] clock)) := by
    simp only [execOp, hxx, Sem.run_bind, hrun, Result.andThen_ok, Sem.run_pure]
  rw [hex, Oper.upon_value]
  unfold wpOps
  obtain ⟨w2, hw2⟩ : ∃ w2, w2 = w1.alloc (.mapIter (some (g1.at_ (.m mi))) clock #[] clock) := ⟨_, rfl⟩
  have hsz2 : w2.heap.size = w1.heap.size + 1 := by rw [hw2]; simp
  have hB : Below w1.heap.size w1 w2 := by rw [hw2]; exact (Below.refl _ _).alloc (Nat.le_refl _) _
  rw [← hw2]
  have rel2 := rel1.later g1.im hB (fun _ h => h) (fun b hb => by rw [hsz2]; have := rel1.imlt b hb; omega) (fun _ h => .inl h)
  have rel3 := rel2.put_same (some i5) (u := .one (.d (.raw (.pointer (some ⟨w1.heap.size, 0, none⟩))))) (v := .pointer (some ⟨w1.heap.size, 0, none⟩)) (.one _ _ (.d _ _ (.raw _ rfl)))
  obtain ⟨T0, hT0⟩ : ∃ T0 : List (Nat × α × β), T0 = (arr.toList.map (·.born)).zip l0 := ⟨_, rfl⟩
  have hl : arr.size = l0.length := by rw [q2.1.len]; simp [mapOf]
  have hT2 : T0.map (·.2) = l0 := by
    rw [hT0]
    exact List.map_snd_zip (by simp [hl])
  have hTi : ∀ (i : Nat) (z : Nat × α × β), T0[i]? = some z → ∃ e, arr[i]? = some e ∧ e.born = z.1 ∧ l0[i]? = some z.2 := fun i z hz => by
    rw [hT0, List.getElem?_zip_eq_some] at hz
    obtain ⟨h1, h2⟩ := hz
    rw [List.getElem?_map, Array.getElem?_toList] at h1
    cases he : arr[i]? with
    | none => rw [he] at h1; cases h1
    | some e => rw [he] at h1; exact ⟨e, rfl, by simpa using h1, h2⟩
  have rel4 := rel3.retell (mi := mi) (es' := stMap clock enc fD T0) hm (fun arr' clock' h1 h2 h3 => by
    have e1 : w2.heap[g1.at_ (.m mi)]? = some (.map arr' clock') := h3
    rw [hB.block _ (rel1.heap.lt (.m mi) (List.getElem?_eq_some_iff.1 hm).1), q1] at e1
    obtain ⟨rfl, rfl⟩ : arr = arr' ∧ clock = clock' := by simpa using e1
    refine ⟨⟨?_, fun i y e hy he => ?_⟩, fun i y e hy he => ?_⟩
    · have h4 := h1.1
      rwa [show (stMap clock enc fD T0).length = (mapOf enc fD l0).length by simp [stMap, mapOf, ← hT2]]
    · obtain ⟨z, hz, rfl⟩ := stMap_get hy
      obtain ⟨e', he', hb, _⟩ := hTi i z hz
      rw [he] at he'
      obtain rfl : e = e' := by simpa using he'
      exact ⟨hb, rfl⟩
    · obtain ⟨z, hz, rfl⟩ := stMap_get hy
      obtain ⟨_, _, _, hl0⟩ := hTi i z hz
      have h6 : (mapOf enc fD l0)[i]? = some (DV.one (enc z.2.1), fD z.2.2) := by unfold mapOf; rw [List.getElem?_map, hl0]; rfl
      obtain ⟨c1, c2⟩ := h2 i _ e h6 he
      exact ⟨c1, c2⟩)
  have hit : w2.heap[w1.heap.size]? = some (.mapIter (some (g1.at_ (.m mi))) clock #[] clock) := by
    rw [hw2]; show (w1.heap.push _)[w1.heap.size]? = _; simp
  obtain ⟨a2, ha2⟩ : ∃ a2, a2 = a1.put (some i5) (.pointer (some ⟨w1.heap.size, 0, none⟩)) := ⟨_, rfl⟩
  rw [← ha2] at rel4
  show (Code.block b0 _).wp P _ (a1.put (some i5) (.pointer (some ⟨w1.heap.size, 0, none⟩))) w2
  rw [← ha2]
  -- the loop
  obtain ⟨s2, hi2, hw2'⟩ := hi (.pointer (some ⟨w1.heap.size, 0, none⟩)) clock T0 hT2
  have rel5 := hw2'.rel _ _ _ rel4
  have hloop : (Code.loop (.seq (.region id1 #[⟨some i6, .next (.tmp i5) false, y1, p1, e1, none⟩, ⟨some i7, .extract (.tmp i6) 0, y2, p2, e2, none⟩] false) (.seq (.cond (.tmp i7) .skip (.exit b0)) body))).wp P
      (fun e a' w' => ∃ x s' g', e = Ex.exit' x ∧ blockK b0 K x s' ∧ Rel E n g' s' a' w') a2 w2 := by
    refine wp_loop_ghost (fun k a w => ∃ q c T dn kp rem r0 seen s g, rem.length = k ∧ GI E n enc fD l0 mi I q c T dn kp rem r0 seen s g a w) T0.length ⟨_, clock, T0, [], [], T0, w1.heap.size, #[], s2, g1, rfl, ⟨hi2, rel5, rfl, hit, rel1.below.size, fun h => absurd (rel1.imlt _ h) (Nat.lt_irrefl _), fun x hx he => ?_, rfl, by simp, by simp, by simp, by simp [hT2], by rw [hT2]; exact List.Sublist.refl _⟩⟩ ?_
    · have hx := hw2'.live x hx
      have : s1.live x := by
        cases x with
        | b l => exact hx
        | r l => exact hx
        | m l => have := show l < (s1.m.set mi _).length from hx; rw [List.length_set] at this; exact this
      have := rel1.heap.lt x this
      have he : g1.at_ x = w1.heap.size := he
      omega
    · rintro k a w ⟨q, c, T, dn, kp, rem, r0, seen, s, g, rfl, G⟩
      have := W.mapRound (K := blockK b0 K) hI h5 hq h7 hround (fun q c T dn kp s h1 h2 h3 h4 => by
        obtain ⟨s2, h5, h6⟩ := hend q c T dn kp s h1 h2 h3 h4
        exact ⟨s2, h5, by simpa [blockK] using h6⟩) (b0 := b0) (id1 := id1) (y1 := y1) (y2 := y2) (p1 := p1) (p2 := p2) (e1 := e1) (e2 := e2) G
      refine wp_mono this ?_
      intro e a' w' h
      cases e with
      | normal => obtain ⟨q, c, T, dn, kp, rem', r0, seen, s, g, hlt, G⟩ := h; exact ⟨rem'.length, hlt, q, c, T, dn, kp, rem', r0, seen, s, g, rfl, G⟩
      | _ => exact h
  refine wp_block (wp_mono hloop ?_)
  rintro _ a' w' ⟨e, s', g', rfl, hk, r'⟩
  cases e with
  | normal => exact ⟨.normal, s', g', rfl, hk, r'⟩
  | exit j =>
    show if j = b0 then _ else _
    by_cases hj : j = b0
    · rw [if_pos hj]
      subst hj
      have : K .normal s' := by simpa [blockK] using hk
      exact ⟨.normal, s', g', rfl, this, r'⟩
    · rw [if_neg hj]
      have hb : Nat.beq j b0 = false := by simpa [← Bool.not_eq_true] using hj
      have : K (.exit j) s' := by simpa [blockK, hb] using hk
      exact ⟨.exit j, s', g', rfl, this, r'⟩
  | ret => exact ⟨.ret, s', g', rfl, hk, r'⟩
def StM (enc : α → D) (fD : β → DV) (l0 : List (α × β)) (M : List (DV × DV)) (j born c : Nat) (y : α × β) : Prop := ∃ T : List (Nat × α × β), M = stMap c enc fD T ∧ T[j]? = some (born, y) ∧ (T.map (·.2)).Sublist l0
theorem StM.at {enc : α → D} {fD : β → DV} {l0 : List (α × β)} {M : List (DV × DV)} {j born c : Nat} {y : α × β} (h : StM enc fD l0 M j born c y) : M[j]? = some (.st born c (enc y.1), fD y.2) := by
  obtain ⟨T, rfl, h1, _⟩ := h
  exact stMap_at h1
theorem W.forMap (hT : TabOk P T) {enc : α → D} {fD : β → DV} {l0 : List (α × β)} {mi : Nat} (I : Value → List (DV × DV) → List (α × β) → St → Prop)
    {ops pre : List Oper} (k : Nat) {tm kt et : TypeId} {ti : TI} {x : Operand} {i5 i6 i7 id0 id1 b0 : Nat} {y0 y1 y2 : TypeId} {p0 p1 p2 : String} {e0 e1 e2 : Array Edge} {body : Code} {K : Ex → St → Prop} {s : St}
    (hops : cutF k ops = some (pre, [(⟨some i5, .range tm x, y0, p0, e0, none⟩ : Oper)])) (hti : T tm = some ti) (hd : ti.desc = .map kt et)
    (hI : ∀ q M dn s, I q M dn s → s.m[mi]? = some M ∧ s.t i5 = .one (.d (.raw q))) (h7 : Nat.blt i5 n = true ∧ Nat.blt i6 n = true ∧ Nat.blt i7 n = true ∧ Nat.beq i6 i7 = false)
    (h0 : WL E P n ops.toArray pre (fun s1 => opd n s1 x = (true, .one (.map mi)) ∧ s1.m[mi]? = some (mapOf enc fD l0) ∧ ∀ q M, ∃ s2, I q M [] s2 ∧ Wk E n ⟨upd s1.t i5 (.one (.d (.raw q))), s1.b, s1.r, s1.m.set mi M⟩ s2) s)
    (hround : ∀ (q : Value) (M : List (DV × DV)) (dn : List (α × β)) (s : St) (j c born : Nat) (y : α × β) (rest : List (α × β)) (E1 : Env J ⟨s.b.length, s.r.length, s.m.length⟩), I q M dn s → EntAt E1 (.one (.d (.raw q))) mi born c → StM enc fD l0 M j born c y → l0.Perm (dn ++ y :: rest) →
      (∀ (b : List (List C)) (r : List (Option RowO)) (m m' : List (List (DV × DV))) (t : Nat → V) (c0 : Code) (KK : Ex → St → Prop), m[mi]? = some M → m.set mi (mapOf enc fD l0) = m' → W E1 P n c0 KK ⟨t, b, r, m'⟩ → W E1 P n c0 KK ⟨t, b, r, m⟩) →
      W E1 P n body (thenK (fun s' => ∃ s2, I q M (dn ++ [y]) s2 ∧ Wk E1 n s' s2) (blockK b0 K)) ⟨upd (upd s.t i6 .junk) i7 .junk, s.b, s.r, s.m⟩)
    (hend : ∀ (q : Value) (M : List (DV × DV)) (dn : List (α × β)) (s : St), I q M dn s → l0.Perm dn → ∃ s2, Wk E n ⟨upd (upd s.t i6 .junk) i7 .junk, s.b, s.r, s.m.set mi (mapOf enc fD l0)⟩ s2 ∧ K .normal s2) :
    W E P n (.seq (.region id0 ops.toArray false) (.block b0 (.loop (.seq (.region id1 #[⟨some i6, .next (.tmp i5) false, y1, p1, e1, none⟩, ⟨some i7, .extract (.tmp i6) 0, y2, p2, e2, none⟩] false) (.seq (.cond (.tmp i7) .skip (.exit b0)) body))))) K s := by
  refine W.forMapG (l0 := l0) hT (fun q c T dn kp s => I q (stMap c enc fD T) dn s ∧ T.map (·.2) = l0 ∧ kp = dn) pre (by rw [cutF_eq hops]) hti hd (fun q c T dn kp s h => (hI _ _ _ _ h.1).1) h7.1 (fun q c T dn kp s h => (hI _ _ _ _ h.1).2) h7.2 ?_ ?_ ?_
  · exact WL.mono' h0 fun s1 ⟨h1, h2, h3⟩ => ⟨h1, h2, fun q c T hT => by
      obtain ⟨s2, h4, h5⟩ := h3 q (stMap c enc fD T)
      exact ⟨s2, ⟨h4, hT, rfl⟩, h5⟩⟩
  · intro q c T dn kp s j born y rest E1 ⟨h1, h2, h3⟩ hj hE hp hs
    subst h3
    refine W.mono (hround q _ kp s j c born y rest E1 h1 hE ⟨T, rfl, hj, hs⟩ hp (fun b r m m' t c0 KK hm hm' hW => W.unSt hm h2 hm' hW)) ?_
    rintro (_ | _ | _) s' hk
    · obtain ⟨s2, h4, h5⟩ := hk
      exact ⟨s2, .inl ⟨h4, h2, rfl⟩, h5⟩
    · exact hk
    · exact hk
  · intro q c T dn kp s ⟨h1, h2, h3⟩ hp _ _
    rw [h2]
    exact hend q _ dn s h1 hp
theorem W.forMapDel (hT : TabOk P T) {enc : α → D} {fD : β → DV} {l0 : List (α × β)} {mi : Nat} (I : Value → List (DV × DV) → List (α × β) → List (α × β) → St → Prop)
    {ops pre : List Oper} (k : Nat) {tm kt et : TypeId} {ti : TI} {x : Operand} {i5 i6 i7 id0 id1 b0 : Nat} {y0 y1 y2 : TypeId} {p0 p1 p2 : String} {e0 e1 e2 : Array Edge} {body : Code} {K : Ex → St → Prop} {s : St}
    (hops : cutF k ops = some (pre, [(⟨some i5, .range tm x, y0, p0, e0, none⟩ : Oper)])) (hti : T tm = some ti) (hd : ti.desc = .map kt et)
    (hI : ∀ q M dn kp s, I q M dn kp s → s.m[mi]? = some M ∧ s.t i5 = .one (.d (.raw q))) (h7 : Nat.blt i5 n = true ∧ Nat.blt i6 n = true ∧ Nat.blt i7 n = true ∧ Nat.beq i6 i7 = false)
    (h0 : WL E P n ops.toArray pre (fun s1 => opd n s1 x = (true, .one (.map mi)) ∧ s1.m[mi]? = some (mapOf enc fD l0) ∧ ∀ q M, ∃ s2, I q M [] [] s2 ∧ Wk E n ⟨upd s1.t i5 (.one (.d (.raw q))), s1.b, s1.r, s1.m.set mi M⟩ s2) s)
    (hround : ∀ (q : Value) (M : List (DV × DV)) (dn kp : List (α × β)) (s : St) (j c born : Nat) (y : α × β) (rest : List (α × β)) (E1 : Env J ⟨s.b.length, s.r.length, s.m.length⟩), I q M dn kp s → EntAt E1 (.one (.d (.raw q))) mi born c → StM enc fD l0 M j born c y → l0.Perm (dn ++ y :: rest) →
      W E1 P n body (thenK (fun s' => ∃ s2, (I q M (dn ++ [y]) (kp ++ [y]) s2 ∨ I q (M.eraseIdx j) (dn ++ [y]) kp s2) ∧ Wk E1 n s' s2) (blockK b0 K)) ⟨upd (upd s.t i6 .junk) i7 .junk, s.b, s.r, s.m⟩)
    (hend : ∀ (q : Value) (M : List (DV × DV)) (dn kp tab : List (α × β)) (s : St), I q M dn kp s → l0.Perm dn → tab.Perm kp → tab.Sublist l0 → ∃ s2, Wk E n ⟨upd (upd s.t i6 .junk) i7 .junk, s.b, s.r, s.m.set mi (mapOf enc fD tab)⟩ s2 ∧ K .normal s2) :
    W E P n (.seq (.region id0 ops.toArray false) (.block b0 (.loop (.seq (.region id1 #[⟨some i6, .next (.tmp i5) false, y1, p1, e1, none⟩, ⟨some i7, .extract (.tmp i6) 0, y2, p2, e2, none⟩] false) (.seq (.cond (.tmp i7) .skip (.exit b0)) body))))) K s := by
  refine W.forMapG (l0 := l0) hT (fun q c T dn kp s => I q (stMap c enc fD T) dn kp s) pre (by rw [cutF_eq hops]) hti hd (fun q c T dn kp s h => (hI _ _ _ _ _ h).1) h7.1 (fun q c T dn kp s h => (hI _ _ _ _ _ h).2) h7.2 ?_ ?_ ?_
  · exact WL.mono' h0 fun s1 ⟨h1, h2, h3⟩ => ⟨h1, h2, fun q c T hT => h3 q (stMap c enc fD T)⟩
  · intro q c T dn kp s j born y rest E1 h1 hj hE hp hs
    refine W.mono (hround q _ dn kp s j c born y rest E1 h1 hE ⟨T, rfl, hj, hs⟩ hp) ?_
    rintro (_ | _ | _) s' hk
    · obtain ⟨s2, h4 | h4, h5⟩ := hk
      · exact ⟨s2, .inl h4, h5⟩
      · refine ⟨s2, .inr ?_, h5⟩
        rwa [show (stMap c enc fD T).eraseIdx j = stMap c enc fD (T.eraseIdx j) from (Go.ChangeMaps.map_eraseIdx _ _ _).symm] at h4
    · exact hk
    · exact hk
  · intro q c T dn kp s h1 hp hk hs
    exact hend q _ dn kp _ s h1 hp hk hs
end
end Go.Proofs.YtcchfmilleffjaaGreatDoor
namespace Go.Proofs.YtcchfmilleffjaaGreatDoor
open Go Go.RowKit
def isX {X : Type} (φ : X → Prop) (rv : X → V) (b : X → List (List C)) (r : X → List (Option RowO)) (m : X → List (List (DV × DV))) : HPost := fun rv' b' r' m' => ∃ x, φ x ∧ isH (rv x) (b x) (r x) (m x) rv' b' r' m'
section
variable {J : Inv} {P : Program} {f : FuncId} {args : List V} {b : List (List C)} {r : List (Option RowO)} {m : List (List (DV × DV))} {B : List (List C)} {R : List (Option RowO)} {M : List (List (DV × DV))} {X : Type} {φ : X → Prop}
theorem HCall.frameX {rv Rv : X → V} {b' B' : X → List (List C)} {r' R' : X → List (Option RowO)} {m' M' : X → List (List (DV × DV))} (pc : HCall P J f args b r m (isX φ rv b' r' m')) (ρb ρr ρm : List Nat) {Args : List V}
    (hA : renVs (renOf ρb ρr ρm B.length R.length M.length) args = Args)
    (hb : pickL B ρb = some (renB (renOf ρb ρr ρm B.length R.length M.length) b)) (hr : pickL R ρr = some r) (hm : pickL M ρm = some m)
    (hok : ((nodupB ρb && (nodupB ρr && nodupB ρm)) && ((allLt ρb B.length && (allLt ρr R.length && allLt ρm M.length)) && (loVs b.length r.length m.length args && loB b.length r.length m.length b))) = true)
    (h1 : ∀ x, renV (renOf ρb ρr ρm B.length R.length M.length) (rv x) = Rv x) (h2 : ∀ x, putL B ρb (renB (renOf ρb ρr ρm B.length R.length M.length) (b' x)) = B' x) (h3 : ∀ x, putL R ρr (r' x) = R' x) (h4 : ∀ x, putL M ρm (m' x) = M' x) :
    HCall P J f Args B R M (isX φ Rv B' R' M') :=
  (pc.frame ρb ρr ρm hA hb hr hm hok).mono fun rv B' R' M' ⟨rv0, b0, r0, m0, ⟨x, hx, e1, e2, e3, e4⟩, e5, e6, e7, e8⟩ => by
    subst e1; subst e2; subst e3; subst e4
    exact ⟨x, hx, e5.trans (h1 x), e6.trans (h2 x), e7.trans (h3 x), e8.trans (h4 x)⟩
def HEndsX (k0 : Lens) (k1 : X → Lens) (T : TypeId → Option TI) (fn : Func) (φ : X → Prop) (rv : X → V) (b' : X → List (List C)) (r' : X → List (Option RowO)) (m' : X → List (List (DV × DV))) : Ex → St → Prop :=
  fun e s => ∃ x, φ x ∧ HEndsD k0 (k1 x) T fn (rv x) (b' x) (r' x) (m' x) e s
theorem HCall.ofX {T : TypeId → Option TI} (hT : TabOk P T) (k1 : X → Lens) {fn : Func} {c : Code} {rv : X → V} {b' : X → List (List C)} {r' : X → List (Option RowO)} {m' : X → List (List (DV × DV))} (hf : P.funcs[f]? = some fn)
    (hname : (fn.name == "runtime.NumGoroutine") = false) (hb : fn.body = some c) (hn : args.length ≤ fn.ntmps)
    (h : ∀ E : Env J ⟨b.length, r.length, m.length⟩, W E P fn.ntmps c (HEndsX ⟨b.length, r.length, m.length⟩ k1 T fn φ rv b' r' m') ⟨argsV args, b, r, m⟩) : HCall P J f args b r m (isX φ rv b' r' m') := by
  refine HCall.le (HCall.of_body hT hf hname hb hn (fun E => (h E).mono ?_))
  have key : ∀ s, (∃ x, φ x ∧ ∃ vs, resAll T fn.ntmps s fn.results.toList = some vs ∧ (loV (k1 x).L (k1 x).R (k1 x).M (resV vs) && (Nat.ble (k1 x).L s.b.length && (Nat.ble (k1 x).R s.r.length && (Nat.ble (k1 x).M s.m.length &&
      (loB (k1 x).L (k1 x).R (k1 x).M (s.b.take (k1 x).L) && (Nat.ble b.length (k1 x).L && (Nat.ble r.length (k1 x).R && Nat.ble m.length (k1 x).M))))))) = true ∧ LeG (resV vs) (rv x) ∧ s.b.take (k1 x).L = b' x ∧ s.r.take (k1 x).R = r' x ∧ s.m.take (k1 x).M = m' x) →
      ∃ vs, resAll T fn.ntmps s fn.results.toList = some vs ∧ ((∃ rv', LeG (resV vs) rv' ∧ isX φ rv b' r' m' rv' s.b s.r s.m) ∨ ∃ k1 : Lens, (loV k1.L k1.R k1.M (resV vs) && (Nat.ble k1.L s.b.length && (Nat.ble k1.R s.r.length && (Nat.ble k1.M s.m.length &&
      (loB k1.L k1.R k1.M (s.b.take k1.L) && (Nat.ble b.length k1.L && (Nat.ble r.length k1.R && Nat.ble m.length k1.M))))))) = true ∧ ∃ rv', LeG (resV vs) rv' ∧ isX φ rv b' r' m' rv' (s.b.take k1.L) (s.r.take k1.R) (s.m.take k1.M)) :=
    fun s ⟨x, hx, vs, h1, h2, h3, h4, h5, h6⟩ => ⟨vs, h1, .inr ⟨k1 x, h2, rv x, h3, x, hx, rfl, h4, h5, h6⟩⟩
  intro e s hs
  cases e with
  | normal => obtain ⟨x, hx, hs⟩ := hs; exact key s ⟨x, hx, hs⟩
  | exit id => obtain ⟨x, hx, hs⟩ := hs; exact hs.elim
  | ret => obtain ⟨x, hx, hs⟩ := hs; exact key s ⟨x, hx, hs⟩
end
section
variable {J : Inv} {k0 : Lens} {E : Env J k0} {P : Program} {T : TypeId → Option TI} {n : Nat} {t : Nat → V} {b : List (List C)} {r : List (Option RowO)} {m : List (List (DV × DV))} {ops : Array Oper} {l : List Oper}
  {K : St → Prop} {i : Nat} {ty : TypeId} {pos : String} {after : Array Edge}
theorem S.hcallX {X : Type} {φ : X → Prop} {dst : Option Nat} {fo : Operand} {args : Array Operand} {ats : Array TypeId} {u : V} {f : FuncId} {caps : List C} {us ws : List V} {rv : X → V} {b' : X → List (List C)} {r' : X → List (Option RowO)} {m' : X → List (List (DV × DV))}
    (hu : opd n ⟨t, b, r, m⟩ fo = (true, u)) (hc : calleeV u = some (f, caps))
    (ha : allOpdL n ⟨t, b, r, m⟩ args.toList = (true, us)) (hw : forceVs (appL us (caps.map V.one)) = some ws) (pc : HCall P J f ws b r m (isX φ rv b' r' m'))
    (k : ∀ x, φ x → WL E P n ops l K ⟨updO t dst (rv x), b' x, r' x, m' x⟩) : WL E P n ops (⟨dst, .call ⟨.value fo, args, ats⟩, ty, pos, after, none⟩ :: l) K ⟨t, b, r, m⟩ :=
  S.hcall hu hc ha hw pc (fun _ _ _ _ ⟨x, hx, h1, h2, h3, h4⟩ => by rw [h1, h2, h3, h4]; exact k x hx)
theorem S.sure {dst : Option Nat} {op : Op} {j : Nat} {want : Bool} (hg : guardV n ops t j want = some true) (k : WL E P n ops (⟨dst, op, ty, pos, after, none⟩ :: l) K ⟨t, b, r, m⟩) : WL E P n ops (⟨dst, op, ty, pos, after, some (j, want)⟩ :: l) K ⟨t, b, r, m⟩ := by
  intro g a w rel next Q hn
  have h1 := guardB_ok (o := ⟨dst, op, ty, pos, after, some (j, want)⟩) rel rfl (guardV_B (b := b) (r := r) (m := m) hg)
  rw [h1, if_pos rfl]
  have h2 := k g a w rel next Q hn
  rw [if_pos (by simp [Region.wanted])] at h2
  exact h2
variable {α β : Type} {kind : TypeDesc} {enc : α → D} {val : α → Value} {same : α → α → Bool}
theorem S.mapDeleteSt (hT : TabOk P T) (ke : KeyOk kind enc val same) (hsame : ∀ a b, same a b = true ↔ a = b) {tm kt et tk : TypeId} {ti ki : TI} {x y : Operand} {mi : Nat} {M : List (DV × DV)} {j born c : Nat} {e0 : α × β} {fD : β → DV} {l0 : List (α × β)}
    (hst : StM enc fD l0 M j born c e0) (hnd : (l0.map (·.1)).Nodup) (hti : T tm = some ti) (hd : ti.desc = .map kt et) (hki : T kt = some ki) (hkd : ki.desc = kind)
    (hx : opd n ⟨t, b, r, m⟩ x = (true, .one (.map mi))) (hy : opd n ⟨t, b, r, m⟩ y = (true, .one (.d (enc e0.1)))) (hm : m[mi]? = some M)
    {m' : List (List (DV × DV))} (hm' : m.set mi (M.eraseIdx j) = m') (k : WL E P n ops l K ⟨t, b, r, m'⟩) : WL E P n ops (⟨none, .call ⟨.builtin .delete, #[x, y], #[tm, tk]⟩, ty, pos, after, none⟩ :: l) K ⟨t, b, r, m⟩ := by
  subst hm'
  obtain ⟨T0, rfl, hj, hsub⟩ := hst
  intro g a w rel next Q hn
  have hw : Region.wanted (⟨none, .call ⟨.builtin .delete, #[x, y], #[tm, tk]⟩, ty, pos, after, none⟩ : Oper) (yielded ops a.tmps) = true := by simp [Region.wanted]
  rw [if_pos hw]
  have hp := opd_ok rel hx rfl
  have hq := opd_ok rel hy rfl
  generalize hxx : a.eval x = xv at hp
  generalize hyy : a.eval y = yv at hq
  cases hp with | one _ _ hp => cases hp with | map _ hmi =>
  have hyv : yv = val e0.1 := ke.eq (a := e0.1) hq
  subst hyv
  have h1 := (hT tm ti hti).1
  have h2 := (hT kt ki hki).1
  rw [hd] at h1; rw [hkd] at h2
  have rel' := rel.unSt hm
  have hmi' : mi < m.length := (List.getElem?_eq_some_iff.1 hm).1
  obtain ⟨arr, clock, q1, q2, q3, q4⟩ := map_find (s := ⟨t, b, r, m.set mi (mapOf enc fD (T0.map (·.2)))⟩) ke rel' (show (m.set mi (mapOf enc fD (T0.map (·.2))))[mi]? = some (mapOf enc fD (T0.map (·.2))) by simp [List.getElem?_set, hmi']) e0.1
  obtain ⟨arr2, clock2, o1, o2, o3⟩ := rel.heap.map mi _ hm
  obtain ⟨rfl, rfl⟩ : arr = arr2 ∧ clock = clock2 := by rw [q1] at o1; simpa using o1
  have hndT : ((T0.map (·.2)).map (·.1)).Nodup := (hsub.map _).nodup hnd
  have hjl : (T0.map (·.2))[j]? = some e0 := by rw [List.getElem?_map, hj]; rfl
  obtain ⟨A, hA⟩ : ∃ A, A = g.at_ (.m mi) := ⟨_, rfl⟩
  rw [← hA] at q1
  rcases q4 with ⟨p1, p2, _, p4, _⟩ | ⟨p1, p, x', e, p2, p3, p4, p5, _, p7, _⟩
  · exfalso
    have : hasL same (T0.map (·.2)) e0.1 = true := by
      unfold hasL
      rw [List.any_eq_true]
      exact ⟨e0, List.mem_of_getElem? hjl, (hsame _ _).2 rfl⟩
    rw [p1] at this; cases this
  · obtain rfl : p = j := by
      have h5 := (hsame _ _).1 p5
      have h6 : ((T0.map (·.2)).map (·.1))[p]? = some e0.1 := by rw [List.getElem?_map, p2, h5]; rfl
      have h7 : ((T0.map (·.2)).map (·.1))[j]? = some e0.1 := by rw [List.getElem?_map, hjl]; rfl
      exact (List.getElem?_inj (List.getElem?_eq_some_iff.1 h6).1 hndT).1 (h6.trans h7.symm)
    have hpl : p < arr.size := (Array.getElem?_eq_some_iff.1 p3).1
    have hTl : T0.length = arr.size := by rw [o2.1.len]; simp [stMap]
    have hget : ∀ i, (arr.eraseIdxIfInBounds p)[i]? = if i < p then arr[i]? else arr[i + 1]? := fun i => by
      unfold Array.eraseIdxIfInBounds
      rw [dif_pos hpl, Array.getElem?_eraseIdx]
    have hgetT : ∀ i, (stMap c enc fD T0 |>.eraseIdx p)[i]? = if i < p then (stMap c enc fD T0)[i]? else (stMap c enc fD T0)[i + 1]? := fun i => by
      rw [List.getElem?_eraseIdx]
    have hfit : MapFitE (arr.eraseIdxIfInBounds p) clock ((stMap c enc fD T0).eraseIdx p) := by
      refine ⟨⟨?_, fun i f h => ?_, fun i j f f2 h h' hbb => ?_⟩, fun i z f hz hf => ?_⟩
      · unfold Array.eraseIdxIfInBounds
        rw [dif_pos hpl, Array.size_eraseIdx, List.length_eraseIdx, if_pos (by simp [stMap]; omega)]
        simp [stMap, hTl]
      · rw [hget] at h
        split at h
        · exact o2.1.born _ f h
        · exact o2.1.born _ f h
      · rw [hget] at h h'
        split at h <;> split at h' <;> (have := o2.1.dist _ _ f f2 h h' hbb; omega)
      · rw [hgetT] at hz; rw [hget] at hf
        split at hz
        · rename_i hi; rw [if_pos hi] at hf; exact o2.2 i z f hz hf
        · rename_i hi; rw [if_neg hi] at hf; exact o2.2 (i + 1) z f hz hf
    have hrun0 : (Builtin.delete_ #[tm, tk] ty #[.map (some A), val e0.1]).run P w = .ok (.tuple #[]) { w with heap := w.heap.setIfInBounds A (.map (arr.eraseIdxIfInBounds p) clock) } := by
      simp [Builtin.delete_, MapKept.run_setObj_map _ q1, run_underlying h1, MapKept.run_getObj_map q1, ke.chk P w _ kt e0.1 h2, run_findKey_now h2 p4]
    have hrun : (execOp a.eval (⟨none, .call ⟨.builtin .delete, #[x, y], #[tm, tk]⟩, ty, pos, after, none⟩ : Oper)).run P w = .ok (.value (.tuple #[])) { w with heap := w.heap.setIfInBounds A (.map (arr.eraseIdxIfInBounds p) clock) } := by
      simp only [execOp, resolve, invoke, builtin, Sem.run_bind, Sem.run_pure, Result.andThen_ok, List.map_toArray, List.map_cons, List.map_nil, hxx, hyy, ← hA, hrun0]
    unfold Oper.wp
    rw [hrun]
    have := rel.setMap (es' := (stMap c enc fD T0).eraseIdx p) hm hfit (fun i z f hz hf => by
      rw [hgetT] at hz; rw [hget] at hf
      split at hz
      · rename_i hi; rw [if_pos hi] at hf; exact o3 i z f hz hf
      · rename_i hi; rw [if_neg hi] at hf; exact o3 (i + 1) z f hz hf)
    rw [← hA] at this
    exact hn _ g _ _ k (this.put_same none (u := .junk) (.junk _))
end
end Go.Proofs.YtcchfmilleffjaaGreatDoor
namespace Go.Proofs.YtcchfmilleffjaaGreatDoor
open Go Go.RowKit
section
variable {J : Inv} {k0 : Lens} {E : Env J k0} {P : Program} {T : TypeId → Option TI} {n : Nat} {t : Nat → V} {b : List (List C)} {r : List (Option RowO)} {m : List (List (DV × DV))} {ops : Array Oper} {l : List Oper}
  {K : St → Prop} {i : Nat} {ty : TypeId} {pos : String} {after : Array Edge}
theorem S.hcallXG {X : Type} {φ : X → Prop} {fo : Operand} {args : Array Operand} {ats : Array TypeId} {u : V} {f : FuncId} {caps : List C} {us ws : List V} {rv : X → V} {b' : X → List (List C)} {r' : X → List (Option RowO)} {m' : X → List (List (DV × DV))} {j : Nat} {want c : Bool}
    (hg : guardV n ops t j want = some c) (hu : opd n ⟨bare t, b, r, m⟩ fo = (true, u)) (hc : calleeV u = some (f, caps)) (ha : allOpdL n ⟨bare t, b, r, m⟩ args.toList = (true, us)) (ht : allT c (tagsO t (fo :: args.toList)))
    (hw : forceVs (appL us (caps.map V.one)) = some ws) (pc : c = true → HCall P J f ws b r m (isX φ rv b' r' m')) (x0 : X) (hb : b' x0 = b) (hr : r' x0 = r) (hm : m' x0 = m)
    (k : ∀ x, (c = true → φ x) → (c = false → x = x0) → WL E P n ops l K ⟨upd t i (.when c (rv x)), b' x, r' x, m' x⟩) : WL E P n ops (⟨some i, .call ⟨.value fo, args, ats⟩, ty, pos, after, some (j, want)⟩ :: l) K ⟨t, b, r, m⟩ := by
  obtain rfl := forceVs_eq hw
  rw [appL_eq] at pc
  intro g a w rel next Qx hn
  rw [guardB_ok rel rfl (guardV_B hg)]
  cases c with
  | true =>
    rw [if_pos rfl]
    have h1 := allT_mem ht rfl
    have hu' : opd n ⟨t, b, r, m⟩ fo = (true, u) := (opds_bare h1 (List.mem_cons_self ..)).trans hu
    have ha' : allOpdL n ⟨t, b, r, m⟩ args.toList = (true, us) := (allOpdL_congr _ (fun p hp => opds_bare h1 (List.mem_cons_of_mem _ hp))).trans ha
    refine hcall_wp rel rfl hu' hc ha' (pc rfl) (fun v g' w' rv' b1 r1 m1 rel' hv ⟨x, hx, e1, e2, e3, e4⟩ => ?_)
    subst e1; subst e2; subst e3; subst e4
    exact hn _ g' _ _ (k x (fun _ => hx) (fun h => by cases h)) (rel'.put_same (some i) (.whenT _ _ hv))
  | false =>
    rw [if_neg (by simp)]
    have hk := k x0 (fun h => by cases h) (fun _ => rfl)
    rw [hb, hr, hm] at hk
    exact hn _ g _ _ hk (rel.put_same (some i) (.whenF _))
theorem OpZ.rstore (hT : TabOk P T) {te : TypeId} {ti : TI} {x y : Operand} {ri ver kk fo : Nat} {v : V} {ds : List C} {dd : List D} {o : RowO} {xs' : List (List D)} {r' : List (Option RowO)} (hi : T te = some ti)
    (hx : opd n ⟨t, b, r, m⟩ x = (true, .one (.rptr ri ver kk fo))) (hy : opd n ⟨t, b, r, m⟩ y = (true, v)) (hv : cellsOfV v = some ds) (hd : allDs ds = some dd) (ho : rowAt ⟨t, b, r, m⟩ ri ver = some o)
    (hs : (Nat.beq ds.length ti.size && Nat.ble (fo + dd.length) o.sz) = true) (hxs : o.xs.set kk (putD (o.xs.getD kk []) fo dd) = xs') (hr : forceL (r.set ri (some ⟨o.al, o.ver, o.sz, o.ty, xs'⟩)) = some r')
    (k : K ⟨t, b, r', m⟩) : OpZ E P n ops (⟨none, .store te x y, ty, pos, after, none⟩ : Oper) K ⟨t, b, r, m⟩ := by
  have hm : (⟨none, .store te x y, ty, pos, after, none⟩ : Oper).op.operands.toList = [x, y] := by simp [Op.operands]
  refine ⟨fun v1 b1 r1 m1 => b1 = b ∧ r1 = r' ∧ m1 = m, fun t' ht => ?_, fun v1 b1 r1 m1 ⟨e1, e2, e3⟩ => by subst e1; subst e2; subst e3; exact k⟩
  have h1 := looks_opd (r := r) (m := m) (b := b) (b1 := b) (n := n) (x := x) (o := ⟨none, .store te x y, ty, pos, after, none⟩) (by rw [hm]; simp) ht
  have h2 := looks_opd (r := r) (m := m) (b := b) (b1 := b) (n := n) (x := y) (o := ⟨none, .store te x y, ty, pos, after, none⟩) (by rw [hm]; simp) ht
  exact S.rstore (t := t') (l := []) (K := fun s1 => ∃ v b2 r2 m2, s1 = ⟨updO t' none v, b2, r2, m2⟩ ∧ (b2 = b ∧ r2 = r' ∧ m2 = m)) hT hi (h1.trans hx) (h2.trans hy) hv hd ho hs hxs hr ⟨.junk, b, r', m, rfl, rfl, rfl, rfl⟩
end
end Go.Proofs.YtcchfmilleffjaaGreatDoor
namespace Go.Proofs.YtcchfmilleffjaaGreatDoor
open Go Go.RowKit
section
variable {J : Inv} {k0 : Lens} {E : Env J k0} {P : Program} {T : TypeId → Option TI} {n : Nat} {t : Nat → V} {b : List (List C)} {r : List (Option RowO)} {m : List (List (DV × DV))} {ops : Array Oper} {l : List Oper}
  {K : St → Prop} {i : Nat} {ty : TypeId} {pos : String} {after : Array Edge}
theorem OpZ.convRow (hT : TabOk P T) {ta tb e : TypeId} {ia ib ie : TI} {x : Operand} {ri ver kk : Nat} {al : Bool} {te : TypeId} (bs : List UInt8) (hta : T ta = some ia) (hda : ia.desc = .slice e) (hte : T e = some ie) (hde : ie.desc = .int .u8) (htb : T tb = some ib) (hdb : ib.desc = .string)
    (hx : opd n ⟨t, b, r, m⟩ x = (true, .one (.row ri ver 0 kk))) (ho : r[ri]? = some (some ⟨al, ver, 1, te, byteRow bs⟩)) (hk : kk = bs.length)
    (k : K ⟨upd t i (.one (.d (.str bs))), b, r, m⟩) : OpZ E P n ops (⟨some i, .convert ta tb x, ty, pos, after, none⟩ : Oper) K ⟨t, b, r, m⟩ := by
  have hm : (⟨some i, .convert ta tb x, ty, pos, after, none⟩ : Oper).op.operands.toList = [x] := by simp [Op.operands]
  refine ⟨fun v1 b1 r1 m1 => v1 = .one (.d (.str bs)) ∧ b1 = b ∧ r1 = r ∧ m1 = m, fun t' ht => ?_, fun v1 b1 r1 m1 ⟨e0, e1, e2, e3⟩ => by subst e0; subst e1; subst e2; subst e3; exact k⟩
  have h1 := looks_opd (r := r) (m := m) (b := b) (b1 := b) (n := n) (x := x) (o := ⟨some i, .convert ta tb x, ty, pos, after, none⟩) (by rw [hm]; simp) ht
  exact S.convRow (sz := 1) (t := t') (l := []) (K := fun s1 => ∃ v b2 r2 m2, s1 = ⟨updO t' (some i) v, b2, r2, m2⟩ ∧ (v = .one (.d (.str bs)) ∧ b2 = b ∧ r2 = r ∧ m2 = m)) hT bs hta hda hte hde htb hdb (h1.trans hx) ho hk ⟨_, b, r, m, rfl, rfl, rfl, rfl, rfl⟩
end
end Go.Proofs.YtcchfmilleffjaaGreatDoor
namespace Go.Proofs.YtcchfmilleffjaaGreatDoor
open Go
theorem beqS_iff (a b : L8) : beqS a b = true ↔ a = b := by unfold beqS; simp
theorem tail_is (a top : L8) : (tailOf a top).isSome = (a == top || belowB a top) := by
  unfold tailOf belowB
  by_cases h : (a == top) = true
  · rw [if_pos h, h]; rfl
  · rw [if_neg h, Bool.eq_false_iff.2 h, Bool.false_or]
    by_cases h2 : Lib.hasPrefix a (top ++ [47]) = true
    · rw [if_pos h2, h2]; rfl
    · rw [if_neg h2, Bool.eq_false_iff.2 h2]; rfl
theorem tail_t {a top : L8} (h : (a == top || belowB a top) = true) : ∃ s, tailOf a top = some s := by
  rw [← tail_is] at h; exact Option.isSome_iff_exists.1 h
theorem tail_f {a top : L8} (h : (a == top || belowB a top) = false) : tailOf a top = none := by
  rw [← tail_is] at h
  cases ht : tailOf a top with
  | none => rfl
  | some s => rw [ht] at h; cases h
theorem tail_nt {a top : L8} (h : (!(a == top) && !belowB a top) = true) : tailOf a top = none := tail_f (by cases h1 : (a == top) <;> cases h2 : belowB a top <;> simp_all)
theorem tail_nf {a top : L8} (h : (!(a == top) && !belowB a top) = false) : ∃ s, tailOf a top = some s := tail_t (by cases h1 : (a == top) <;> cases h2 : belowB a top <;> simp_all)
theorem tail_len {a top s : L8} (h : tailOf a top = some s) : top.length ≤ a.length ∧ a.drop top.length = s ∧ a.length = top.length + s.length := by
  have := (tail_some.1 h).1
  subst this
  simp
def okM (key tu : L8) (x : L8 × L8) : Bool := match tailOf x.1 key with | some s => pathB (tu ++ s) | none => true
theorem okM_t {key tu s : L8} {x : L8 × L8} (h : tailOf x.1 key = some s) : okM key tu x = pathB (tu ++ s) := by unfold okM; rw [h]
theorem okM_f {key tu : L8} {x : L8 × L8} (h : tailOf x.1 key = none) : okM key tu x = true := by unfold okM; rw [h]
theorem bad_ok (t : Tab) (key tu : L8) : badP t key tu = !t.all (okM key tu) := by
  rw [List.not_all_eq_any_not, Bool.eq_iff_iff]
  unfold badP
  rw [List.any_eq_true, List.any_eq_true]
  constructor
  · rintro ⟨x, hx, h⟩
    obtain ⟨y, hy, s, hs, he⟩ := mov_keys.1 (List.mem_map.2 ⟨x, hx, rfl⟩)
    exact ⟨y, hy, by rw [okM_t hs, ← he]; exact h⟩
  · rintro ⟨y, hy, h⟩
    cases ht : tailOf y.1 key with
    | none => rw [okM_f ht] at h; cases h
    | some s =>
      rw [okM_t ht] at h
      obtain ⟨x, hx, he⟩ := List.mem_map.1 (mov_keys.2 ⟨y, hy, s, ht, rfl⟩ : tu ++ s ∈ (movT t key tu).map (·.1))
      exact ⟨x, hx, by rw [he]; exact h⟩
theorem all_perm {α : Type} {l l' : List α} (p : α → Bool) (h : l.Perm l') : l.all p = l'.all p := by
  rw [Bool.eq_iff_iff, List.all_eq_true, List.all_eq_true]
  exact ⟨fun q x h1 => q x (h.mem_iff.2 h1), fun q x h1 => q x (h.mem_iff.1 h1)⟩
theorem bad_hit {t dn rest : Tab} {y : L8 × L8} {key tu s : L8} (hp : t.Perm (dn ++ y :: rest)) (h : tailOf y.1 key = some s) (hb : (!pathB (tu ++ s)) = true) : badP t key tu = true := by
  rw [bad_ok, Bool.not_eq_true', ← Bool.not_eq_true, List.all_eq_true]
  intro hall
  have := hall y (hp.mem_iff.2 (by simp))
  rw [okM_t h] at this
  rw [this] at hb; cases hb
theorem bad_none {t dn : Tab} {key tu : L8} (hp : t.Perm dn) (h : dn.all (okM key tu) = true) : badP t key tu = false := by
  rw [bad_ok, all_perm _ hp, h]; rfl
theorem all_snoc {α : Type} {p : α → Bool} {l : List α} {x : α} (h : l.all p = true) (hx : p x = true) : (l ++ [x]).all p = true := by
  rw [List.all_append, h]; simp [hx]
theorem any_snoc {α : Type} {p : α → Bool} {l : List α} {x : α} (h : l.any p = false) (hx : p x = false) : (l ++ [x]).any p = false := by
  rw [List.any_append, h]; simp [hx]
theorem mem_len {t dn rest : Tab} {y : L8 × L8} {N : Nat} (hl : ∀ x ∈ t, x.1.length ≤ N) (hp : t.Perm (dn ++ y :: rest)) : y.1.length ≤ N := hl y (hp.mem_iff.2 (by simp))
theorem sum_pref {t tab1 tab2 mv : Tab} {key tu : L8} (hd : ndT t) (hm : ndT mv) (hmv : lk mv = movF (lk t) key tu) (h1 : EqT tab1 (t.filter fun x => (tailOf x.1 key).isNone)) (h2 : EqT tab2 (copyT mv tab1)) : EqT tab2 (prefT t key tu) :=
  ⟨h2.l, nd_pref hd _ _, by rw [h2.e, lk_copy _ hm, h1.e, off_filter hd, lk_pref hd, hmv]; rfl⟩
theorem orF_nil (g : Fm) : g = orF (lk []) g := rfl
theorem mov_nil (key tu : L8) : lk [] = movF (lk []) key tu := by
  funext n
  unfold movF
  cases tailOf n tu <;> rfl
theorem nd_keys {t : Tab} (h : ndT t) : (t.map (·.1)).Nodup := h
def keysT (t : Tab) : List L8 := sortS (t.map (·.1))
def listTo (t : Tab) (i : Nat) : List Stg := ((keysT t).take i).map fun k => ⟨k, getL beqS [] t k⟩
theorem listTo_0 (t : Tab) : listTo t 0 = [] := rfl
theorem listTo_succ {t : Tab} {i : Nat} (hi : i < (keysT t).length) : (listTo t i).map stgD ++ [[.str ((keysT t).getD i []), .str (getL beqS [] t ((keysT t).getD i []))]] = (listTo t (i + 1)).map stgD := by
  unfold listTo
  rw [take_getD (d := []) hi]
  simp [stgD]
theorem listTo_end (t : Tab) : listTo t (keysT t).length = listT t := by unfold listTo listT; rw [List.take_length]; rfl
theorem listTo_len (t : Tab) {i : Nat} (hi : i ≤ (keysT t).length) : (listTo t i).length = i := by unfold listTo; simp [hi]
theorem keysT_len (t : Tab) : (keysT t).length = t.length := by unfold keysT sortS; rw [List.length_mergeSort, List.length_map]
theorem step_4 {t tab : Tab} {r : Rul} (h : EqT tab (doT t r)) (hb : (r.kd == 2 && badP t r.k r.tu) = false) (c : decide ((tab.length : Int) > 2000) = true) : stepE t r = 4 := by
  unfold stepE
  rw [if_neg (Bool.eq_false_iff.1 hb), ← h.len, if_pos c]
theorem step_0 {t tab : Tab} {r : Rul} (h : EqT tab (doT t r)) (hb : (r.kd == 2 && badP t r.k r.tu) = false) (c : decide ((tab.length : Int) > 2000) = false) : stepE t r = 0 := by
  unfold stepE
  rw [if_neg (Bool.eq_false_iff.1 hb), ← h.len, if_neg (Bool.eq_false_iff.1 c)]
theorem step_5 {t : Tab} {r : Rul} (hb : (r.kd == 2 && badP t r.k r.tu) = true) : stepE t r = 5 := by unfold stepE; rw [if_pos hb]
end Go.Proofs.YtcchfmilleffjaaGreatDoor
namespace Go.Proofs.YtcchfmilleffjaaGreatDoor
open Go
theorem mem_getD {α : Type} {l : List α} {i : Nat} {d : α} (hi : i < l.length) : l.getD i d ∈ l := by
  rw [List.getD_eq_getElem?_getD, List.getElem?_eq_getElem hi]; exact List.getElem_mem hi
section
variable {α : Type} {l : List α} {f : α → Int} {d : α} {i : Nat}
theorem map_at (hi : i < l.length) : (l.map f).getD i 0 = f (l.getD i d) := by simp [List.getD_eq_getElem?_getD, hi]
theorem fe_next (hi : i < l.length) (h : ((l.map f).take i).all (· == 0) = true) (c : (f (l.getD i d) != 0) = false) : ((l.map f).take (i + 1)).all (· == 0) = true :=
  all_take_succ (d := 0) (by simpa using hi) h (by rw [map_at (d := d) hi]; simpa using c)
theorem fe_hit (hi : i < l.length) (h : ((l.map f).take i).all (· == 0) = true) (c : (f (l.getD i d) != 0) = true) : firstNe (l.map f) = f (l.getD i d) := by
  rw [firstNe_hit (by simpa using hi) h (by rw [map_at (d := d) hi]; simpa using c), map_at (d := d) hi]
theorem fe_end (hi : l.length ≤ i) (h : ((l.map f).take i).all (· == 0) = true) : firstNe (l.map f) = 0 := firstNe_none (by simpa using hi) h
end
theorem runF_eq (ss : List Stg) (rs : List Rul) : runF ss rs = firstB (listE pathB ss) (firstB (if decide ((ss.length : Int) > 2000) then 4 else 0) (firstB (if decide ((rs.length : Int) > 100) then 4 else 0) (rulesE rs))) := by
  unfold runF
  rw [firstNe_cons, firstNe_cons, first2]
theorem runF_1 {ss : List Stg} {rs : List Rul} (h : (listE pathB ss != 0) = true) : runF ss rs = listE pathB ss := by
  rw [runF_eq]; unfold firstB; rw [if_pos h]
theorem runF_2 {ss : List Stg} {rs : List Rul} (h : (listE pathB ss != 0) = false) (c : (decide ((ss.length : Int) > 2000) || decide ((rs.length : Int) > 100)) = true) : runF ss rs = 4 := by
  rw [runF_eq]; unfold firstB; rw [if_neg (Bool.eq_false_iff.1 h)]
  cases h1 : decide ((ss.length : Int) > 2000) with
  | true => rfl
  | false => rw [h1, Bool.false_or] at c; rw [c]; rfl
theorem runF_3 {ss : List Stg} {rs : List Rul} (h : (listE pathB ss != 0) = false) (c : (decide ((ss.length : Int) > 2000) || decide ((rs.length : Int) > 100)) = false) : runF ss rs = rulesE rs := by
  rw [Bool.or_eq_false_iff] at c
  rw [runF_eq]; unfold firstB; rw [if_neg (Bool.eq_false_iff.1 h), c.1, c.2]; rfl
structure RunOk (ss : List Stg) (rs : List Rul) : Prop where
  all : allP (tabOf ss) = true
  len : ss.length ≤ 2000
  many : rs.length ≤ 100
  ok : ∀ r ∈ rs, RulOk r
theorem tabTo_len (l : List Stg) : ∀ i, (tabTo l i).length ≤ i
  | 0 => Nat.le_refl _
  | i + 1 => by
    show (setL beqS (tabTo l i) _ _).length ≤ _
    have h := tabTo_len l i
    have : ∀ (t : Tab) (k v : L8), (setL beqS t k v).length ≤ t.length + 1 := fun t k v => by
      induction t with
      | nil => simp [setL]
      | cons x t ih =>
        unfold setL
        cases beqS k x.1 with
        | true => simp
        | false => simp only [cond_false, List.length_cons]; omega
    exact Nat.le_trans (this _ _ _) (by omega)
theorem tabTo_all {l : List Stg} (h : listE pathB l = 0) : ∀ i, i ≤ l.length → allP (tabTo l i) = true
  | 0, _ => rfl
  | i + 1, hi => by
    have h1 := firstNe_zero h
    have h2 := h1 (stgAt pathB l i) (List.mem_map.2 ⟨i, List.mem_range.2 (by omega), rfl⟩)
    refine set_all (tabTo_all h i (by omega)) ?_
    unfold stgAt at h2
    cases hp : pathB (l.getD i Stg.z).k with
    | true => rfl
    | false => rw [hp] at h2; simp at h2
theorem run_ok {ss : List Stg} {rs : List Rul} (h : (runF ss rs != 0) = false) : RunOk ss rs := by
  have h0 : runF ss rs = 0 := by simpa using h
  have hz := firstNe_zero h0
  have e1 := hz (listE pathB ss) (by simp)
  have e2 := hz (if decide ((ss.length : Int) > 2000) then 4 else 0) (by simp)
  have e3 := hz (if decide ((rs.length : Int) > 100) then 4 else 0) (by simp)
  have e4 := hz (rulesE rs) (by simp)
  refine ⟨tabTo_all e1 _ (Nat.le_refl _), ?_, ?_, fun r hr => rul_ok (firstNe_zero e4 _ (List.mem_map.2 ⟨r, hr, rfl⟩))⟩
  · by_cases c : (ss.length : Int) > 2000
    · rw [if_pos (by simpa using c)] at e2; cases e2
    · omega
  · by_cases c : (rs.length : Int) > 100
    · rw [if_pos (by simpa using c)] at e3; cases e3
    · omega
structure Way (ss : List Stg) (rs : List Rul) (i : Nat) (tab : Tab) : Prop where
  eq : EqT tab (runT ss rs i)
  all : allP tab = true
  len : tab.length ≤ 2000
theorem way_0 {ss : List Stg} {rs : List Rul} (h : RunOk ss rs) : Way ss rs 0 (tabOf ss) := ⟨EqT.refl (tabTo_nd _ _), h.all, Nat.le_trans (tabTo_len ss _) h.len⟩
def stepAt (ss : List Stg) (rs : List Rul) (i : Nat) : Int := stepE (runT ss rs i) (rs.getD i Rul.z)
theorem Way.key {ss : List Stg} {rs : List Rul} {i : Nat} {tab : Tab} (h : Way ss rs i tab) : ∀ x ∈ tab, x.1.length ≤ 2000000 := fun x hx =>
  Nat.le_trans (path_len (all_keys.1 h.all _ (List.mem_map.2 ⟨x, hx, rfl⟩))) (by decide)
theorem Way.at {ss : List Stg} {rs : List Rul} {i : Nat} {tab : Tab} (h : Way ss rs i tab) : stepE tab (rs.getD i Rul.z) = stepAt ss rs i := h.eq.stepE _
theorem way_next {ss : List Stg} {rs : List Rul} {i : Nat} {tab tab1 : Tab} (h : Way ss rs i tab) (hr : RulOk (rs.getD i Rul.z)) (hs : stepE tab (rs.getD i Rul.z) = 0) (h1 : EqT tab1 (doT tab (rs.getD i Rul.z))) : Way ss rs (i + 1) tab1 := by
  obtain ⟨e1, e2⟩ := step_all h.all hr hs
  exact ⟨h1.trans (h.eq.do _), by rw [h1.allP]; exact e1, by rw [h1.len]; exact e2⟩
theorem step_bad {tab : Tab} {r : Rul} (hs : stepE tab r = 0) : (r.kd == 2 && badP tab r.k r.tu) = false := by
  unfold stepE at hs
  split at hs
  · cases hs
  · rename_i h; exact Bool.eq_false_iff.2 h
theorem se_next {ss : List Stg} {rs : List Rul} {i : Nat} (hi : i < rs.length) (h : (((List.range rs.length).map (stepAt ss rs)).take i).all (· == 0) = true) (c : stepAt ss rs i = 0) : (((List.range rs.length).map (stepAt ss rs)).take (i + 1)).all (· == 0) = true :=
  all_take_succ (d := 0) (by simpa using hi) h (by simp [List.getD_eq_getElem?_getD, hi, c])
theorem se_hit {ss : List Stg} {rs : List Rul} {i : Nat} (hi : i < rs.length) (h : (((List.range rs.length).map (stepAt ss rs)).take i).all (· == 0) = true) (c : stepAt ss rs i ≠ 0) : stepsE ss rs = stepAt ss rs i := by
  have hg : ((List.range rs.length).map (stepAt ss rs)).getD i 0 = stepAt ss rs i := by simp [List.getD_eq_getElem?_getD, hi]
  show firstNe ((List.range rs.length).map (stepAt ss rs)) = _
  rw [firstNe_hit (by simpa using hi) h (by rw [hg]; exact c), hg]
theorem se_end {ss : List Stg} {rs : List Rul} {i : Nat} (hi : rs.length ≤ i) (h : (((List.range rs.length).map (stepAt ss rs)).take i).all (· == 0) = true) : stepsE ss rs = 0 := firstNe_none (by simpa using hi) h
theorem runP_1 {ss : List Stg} {rs : List Rul} (h : (runF ss rs != 0) = true) : runP ss rs = ([], runF ss rs) := if_pos h
theorem runP_2 {ss : List Stg} {rs : List Rul} (h : (runF ss rs != 0) = false) (e : Int) (h2 : stepsE ss rs = e) (hne : e ≠ 0) : runP ss rs = ([], e) := by
  unfold runP; rw [if_neg (Bool.eq_false_iff.1 h), if_pos (by rw [h2]; simpa using hne), h2]
theorem runP_3 {ss : List Stg} {rs : List Rul} (h : (runF ss rs != 0) = false) (h2 : stepsE ss rs = 0) : runP ss rs = (listT (runT ss rs rs.length), 0) := by
  unfold runP; rw [if_neg (Bool.eq_false_iff.1 h), if_neg (by rw [h2]; simp)]
end Go.Proofs.YtcchfmilleffjaaGreatDoor
namespace Go.Proofs.YtcchfmilleffjaaGreatDoor
open Go
theorem inv_1 {r : Rul} (h : (ruleC r != 0) = true) : invR r = (Rul.z, ruleC r) := if_pos h
theorem inv_2 {r : Rul} (h : (ruleC r != 0) = false) (c : (r.kd == 1 || r.kd == 2) = true) : invR r = (⟨r.kd, r.tu, r.k, r.old, r.nu⟩, 0) := by unfold invR; rw [if_neg (Bool.eq_false_iff.1 h), if_pos c]
theorem inv_7 {r : Rul} (h : (ruleC r != 0) = false) (c : (r.kd == 1 || r.kd == 2) = false) (c7 : (r.kd == 7) = true) : invR r = (⟨r.kd, r.k, r.tu, r.nu, r.old⟩, 0) := by
  unfold invR; rw [if_neg (Bool.eq_false_iff.1 h), if_neg (Bool.eq_false_iff.1 c), if_pos c7]
theorem inv_8 {r : Rul} (h : (ruleC r != 0) = false) (c : (r.kd == 1 || r.kd == 2) = false) (c7 : (r.kd == 7) = false) (c8 : (r.kd == 8) = true) : invR r = (r, 0) := by
  unfold invR; rw [if_neg (Bool.eq_false_iff.1 h), if_neg (Bool.eq_false_iff.1 c), if_neg (Bool.eq_false_iff.1 c7), if_pos c8]
theorem inv_0 {r : Rul} (h : (ruleC r != 0) = false) (c : (r.kd == 1 || r.kd == 2) = false) (c7 : (r.kd == 7) = false) (c8 : (r.kd == 8) = false) : invR r = (Rul.z, 12) := by
  unfold invR; rw [if_neg (Bool.eq_false_iff.1 h), if_neg (Bool.eq_false_iff.1 c), if_neg (Bool.eq_false_iff.1 c7), if_neg (Bool.eq_false_iff.1 c8)]
theorem two_or {r : Rul} (h : (r.kd == 1) = false) (h2 : (r.kd == 2) = false) : (r.kd == 1 || r.kd == 2) = false := by rw [h, h2]; rfl
theorem two_1 {r : Rul} (h : (r.kd == 1) = true) : (r.kd == 1 || r.kd == 2) = true := by rw [h]; rfl
theorem two_2 {r : Rul} (h : (r.kd == 2) = true) : (r.kd == 1 || r.kd == 2) = true := by rw [h, Bool.or_true]
def revTo (xs : List Rul) (i : Nat) : List Rul := (List.range xs.length).map fun p => if p < i ∨ xs.length ≤ p + i then xs.getD (xs.length - 1 - p) Rul.z else xs.getD p Rul.z
def revMid (xs : List Rul) (i : Nat) : List Rul := (revTo xs i).set i (xs.getD (xs.length - 1 - i) Rul.z)
theorem revTo_len (xs : List Rul) (i : Nat) : (revTo xs i).length = xs.length := by simp [revTo]
theorem revTo_get {xs : List Rul} {i p : Nat} (hp : p < xs.length) : (revTo xs i).getD p Rul.z = if p < i ∨ xs.length ≤ p + i then xs.getD (xs.length - 1 - p) Rul.z else xs.getD p Rul.z := by
  simp [revTo, List.getD_eq_getElem?_getD, hp]
theorem revTo_get? {xs : List Rul} {i p : Nat} (hp : p < xs.length) : (revTo xs i)[p]? = some (if p < i ∨ xs.length ≤ p + i then xs.getD (xs.length - 1 - p) Rul.z else xs.getD p Rul.z) := by
  simp [revTo, hp]
theorem revTo_0 (xs : List Rul) : revTo xs 0 = xs := by
  apply List.ext_getElem? ; intro p
  by_cases hp : p < xs.length
  · rw [revTo_get? hp, if_neg (by omega), List.getElem?_eq_getElem hp, List.getD_eq_getElem?_getD, List.getElem?_eq_getElem hp]; rfl
  · rw [List.getElem?_eq_none (by rw [revTo_len]; omega), List.getElem?_eq_none (by omega)]
theorem revTo_end {xs : List Rul} {i : Nat} (h : xs.length ≤ 2 * i + 1) : revTo xs i = xs.reverse := by
  apply List.ext_getElem? ; intro p
  by_cases hp : p < xs.length
  · rw [revTo_get? hp, List.getElem?_reverse hp]
    have e : xs[xs.length - 1 - p]? = some (xs.getD (xs.length - 1 - p) Rul.z) := by
      rw [List.getD_eq_getElem?_getD, List.getElem?_eq_getElem (by omega : xs.length - 1 - p < xs.length)]; rfl
    rw [e]
    split
    · rfl
    · rename_i hn
      rw [show xs.length - 1 - p = p by omega]
  · rw [List.getElem?_eq_none (by rw [revTo_len]; omega), List.getElem?_eq_none (by simp; omega)]
theorem revTo_succ {xs : List Rul} {i : Nat} (h : 2 * i + 1 < xs.length) : (revMid xs i).set (xs.length - 1 - i) (xs.getD i Rul.z) = revTo xs (i + 1) := by
  apply List.ext_getElem? ; intro p
  by_cases hp : p < xs.length
  · rw [revTo_get? hp, List.getElem?_set]
    unfold revMid
    by_cases h1 : xs.length - 1 - i = p
    · rw [if_pos h1, if_pos (by simp [revTo_len]; omega), if_pos (by omega)]
      rw [show xs.length - 1 - p = i by omega]
    · rw [if_neg h1, List.getElem?_set]
      by_cases h2 : i = p
      · rw [if_pos h2, if_pos (by rw [revTo_len]; omega), if_pos (by omega), h2]
      · rw [if_neg h2, revTo_get? hp]
        by_cases h3 : p < i ∨ xs.length ≤ p + i
        · rw [if_pos h3, if_pos (by omega)]
        · rw [if_neg h3, if_neg (by omega)]
  · rw [List.getElem?_eq_none (by simp [revMid, revTo_len]; omega), List.getElem?_eq_none (by rw [revTo_len]; omega)]
theorem mapR_get {l : List Rul} {p : Nat} (h : p < l.length) : (l.map rulD).getD p [] = rulD (l.getD p Rul.z) := by
  rw [List.getD_eq_getElem?_getD, List.getElem?_map, List.getElem?_eq_getElem h, List.getD_eq_getElem?_getD, List.getElem?_eq_getElem h]; rfl
theorem jx {n i : Nat} (h : i < n) : ((n : Int) - 1 - (i : Int)).toNat = n - 1 - i := by omega
theorem rv_row1 {xs : List Rul} {i : Nat} (h : 2 * i + 1 < xs.length) : ((revTo xs i).map rulD).getD (0 + ((i : Int)).toNat) [] = rulD (xs.getD i Rul.z) := by
  rw [Nat.zero_add, Int.toNat_natCast, mapR_get (by rw [revTo_len]; omega), revTo_get (by omega), if_neg (by omega)]
theorem rv_row2 {xs : List Rul} {i : Nat} (h : 2 * i + 1 < xs.length) : ((revTo xs i).map rulD).getD (0 + ((xs.length : Int) - 1 - (i : Int)).toNat) [] = rulD (xs.getD (xs.length - 1 - i) Rul.z) := by
  rw [Nat.zero_add, jx (by omega), mapR_get (by rw [revTo_len]; omega), revTo_get (by omega), if_neg (by omega)]
theorem putD_rul (d : List D) (hd : d.length = 5) (r : Rul) : putD d 0 (rulD r) = rulD r := by
  match d, hd with
  | [a, b, c, d, e], _ => rfl
theorem rv_set1 {xs : List Rul} {i : Nat} (h : 2 * i + 1 < xs.length) :
    ((revTo xs i).map rulD).set (0 + ((i : Int)).toNat) (putD (((revTo xs i).map rulD).getD (0 + ((i : Int)).toNat) []) 0 (rulD (xs.getD (xs.length - 1 - i) Rul.z))) = (revMid xs i).map rulD := by
  rw [rv_row1 h, putD_rul _ rfl, Nat.zero_add, Int.toNat_natCast]
  unfold revMid
  rw [List.map_set]
theorem rv_set2 {xs : List Rul} {i : Nat} (h : 2 * i + 1 < xs.length) :
    ((revMid xs i).map rulD).set (0 + ((xs.length : Int) - 1 - (i : Int)).toNat) (putD (((revMid xs i).map rulD).getD (0 + ((xs.length : Int) - 1 - (i : Int)).toNat) []) 0 (rulD (xs.getD i Rul.z))) = (revTo xs (i + 1)).map rulD := by
  have hl : (revMid xs i).length = xs.length := by simp [revMid, revTo_len]
  rw [Nat.zero_add, jx (by omega), mapR_get (by rw [hl]; omega), putD_rul _ rfl, ← revTo_succ h, List.map_set]
theorem rv_dec {n i : Nat} (h : i < n) (hn : n ≤ 1000000000) : V.one (.d (.int .i64 (IntKind.i64.wrap ((n : Int) - 1 - (i : Int) - 1)))) = V.one (.d (.int .i64 ((n : Int) - 1 - ((i + 1 : Nat) : Int)))) := by
  rw [wrap_i64 (by omega) (by omega)]
  congr 3
  omega
theorem rv_ok1 {n i : Nat} (h : i < n) : (decide (0 ≤ (i : Int)) && decide ((i : Int) < (n : Int))) = true := by simp; omega
theorem rv_ok2 {n i : Nat} (h : i < n) : (decide (0 ≤ (n : Int) - 1 - (i : Int)) && decide ((n : Int) - 1 - (i : Int) < (n : Int))) = true := by simp; omega
theorem rv_start {n : Nat} (hn : n ≤ 1000000000) : V.one (.d (.int .i64 (IntKind.i64.wrap ((n : Int) - 1)))) = V.one (.d (.int .i64 ((n : Int) - 1 - ((0 : Nat) : Int)))) := by
  rw [wrap_i64 (by omega) (by omega)]
  congr 3
  omega
theorem ia_1 {rs : List Rul} (h : decide ((rs.length : Int) > 100) = true) : invAll rs = ([], 4) := by unfold invAll; rw [if_pos h]
theorem ia_2 {rs : List Rul} (h : decide ((rs.length : Int) > 100) = false) (e : Int) (h2 : invE rs = e) (hne : (e != 0) = true) : invAll rs = ([], e) := by unfold invAll; rw [if_neg (Bool.eq_false_iff.1 h), h2, if_pos hne]
theorem ia_3 {rs : List Rul} (h : decide ((rs.length : Int) > 100) = false) (h2 : invE rs = 0) : invAll rs = ((rs.map fun r => (invR r).1).reverse, 0) := by unfold invAll; rw [if_neg (Bool.eq_false_iff.1 h), h2]; rfl
def invTo (rs : List Rul) (i : Nat) : List Rul := (rs.take i).map fun r => (invR r).1
theorem invTo_succ {rs : List Rul} {i : Nat} (hi : i < rs.length) : (invTo rs i).map rulD ++ [rulD (invR (rs.getD i Rul.z)).1] = (invTo rs (i + 1)).map rulD := by
  unfold invTo; rw [take_getD (d := Rul.z) hi]; simp
theorem invTo_len (rs : List Rul) {i : Nat} (h : i ≤ rs.length) : (invTo rs i).length = i := by simp [invTo, h]
theorem invTo_end (rs : List Rul) : invTo rs rs.length = rs.map fun r => (invR r).1 := by unfold invTo; rw [List.take_length]
end Go.Proofs.YtcchfmilleffjaaGreatDoor
namespace Go.Proofs.YtcchfmilleffjaaGreatDoor
open Go
theorem way_all {ss : List Stg} {rs : List Rul} (hok : RunOk ss rs) (hs : stepsE ss rs = 0) : ∀ i, i ≤ rs.length → Way ss rs i (runT ss rs i)
  | 0, _ => way_0 hok
  | i + 1, hi => by
    have hw := way_all hok hs i (by omega)
    have hz : stepAt ss rs i = 0 := firstNe_zero hs _ (List.mem_map.2 ⟨i, List.mem_range.2 (by omega), rfl⟩)
    exact way_next hw (hok.ok _ (mem_getD (by omega))) hz (EqT.refl (nd_do (run_nd _ _ _) _))
theorem steps_at {ss : List Stg} {rs : List Rul} (hs : stepsE ss rs = 0) {i : Nat} (hi : i < rs.length) : stepAt ss rs i = 0 := firstNe_zero hs _ (List.mem_map.2 ⟨i, List.mem_range.2 hi, rfl⟩)
def allV (t : Tab) : Prop := ∀ x ∈ t, valueB x.2 = true
theorem set_mem {t : Tab} {k v : L8} : ∀ {x : L8 × L8}, x ∈ setL beqS t k v → x ∈ t ∨ x = (k, v) := by
  induction t with
  | nil => intro x h; exact .inr (by simpa [setL] using h)
  | cons y t ih =>
    intro x h
    unfold setL at h
    cases hb : beqS k y.1 with
    | true =>
      rw [hb] at h
      rcases List.mem_cons.1 h with h | h
      · exact .inr h
      · exact .inl (List.mem_cons_of_mem _ h)
    | false =>
      rw [hb] at h
      rcases List.mem_cons.1 h with h | h
      · exact .inl (by rw [h]; exact List.mem_cons_self)
      · rcases ih h with h | h
        · exact .inl (List.mem_cons_of_mem _ h)
        · exact .inr h
theorem setV {t : Tab} (h : allV t) {k v : L8} (hv : valueB v = true) : allV (setL beqS t k v) := fun x hx => by
  rcases set_mem hx with h1 | h1
  · exact h x h1
  · rw [h1]; exact hv
theorem delV {t : Tab} (h : allV t) (k : L8) : allV (delL beqS t k) := fun x hx => h x ((del_sub t k).subset hx)
theorem get_mem {t : Tab} (hd : ndT t) {k : L8} (hk : hasL beqS t k = true) : (k, getL beqS [] t k) ∈ t := by
  rw [has_lk] at hk
  obtain ⟨v, hv⟩ := Option.isSome_iff_exists.1 hk
  rw [get_lk, hv]
  exact (lk_mem hd).1 hv
theorem copyV : ∀ (t : Tab) {u : Tab}, allV t → allV u → allV (copyT t u)
  | [], u, _, h => h
  | x :: t, u, h1, h2 => copyV t (fun y hy => h1 y (List.mem_cons_of_mem _ hy)) (setV h2 (h1 x List.mem_cons_self))
theorem movV {t : Tab} (h : allV t) (key tu : L8) : allV (movT t key tu) := fun x hx => by
  obtain ⟨y, hy, he⟩ := List.mem_filterMap.1 hx
  obtain ⟨s, _, rfl⟩ := Option.map_eq_some_iff.1 he
  exact h y hy
theorem doV {t : Tab} (hd : ndT t) (h : allV t) {r : Rul} (hr : RulOk r) : allV (doT t r) := by
  have hn := hr.vn
  have ho := hr.vo
  have hg : ∀ k, hasL beqS t k = true → valueB (getL beqS [] t k) = true := fun k hk => h _ (get_mem hd hk)
  unfold doT
  split
  · split
    · rename_i hh; exact setV (delV h _) (hg _ hh)
    · exact h
  · split
    · exact copyV _ (movV h _ _) (fun x hx => h x (List.mem_filter.1 hx).1)
    · split
      · split
        · rename_i hh; exact setV h (hg _ hh)
        · exact h
      · repeat' split
        all_goals first | exact h | exact setV h hn | exact setV h ho | exact delV h _
theorem tabTo_val {l : List Stg} (h : listE pathB l = 0) : ∀ i, i ≤ l.length → allV (tabTo l i)
  | 0, _ => fun x hx => by cases hx
  | i + 1, hi => by
    have h1 := firstNe_zero h
    have h2 := h1 (stgAt pathB l i) (List.mem_map.2 ⟨i, List.mem_range.2 (by omega), rfl⟩)
    refine setV (tabTo_val h i (by omega)) ?_
    unfold stgAt at h2
    cases hp : valueB (l.getD i Stg.z).v with
    | true => rfl
    | false => rw [hp] at h2; split at h2 <;> simp at h2
theorem runV {ss : List Stg} {rs : List Rul} (h : listE pathB ss = 0) (hok : RunOk ss rs) : ∀ i, i ≤ rs.length → allV (runT ss rs i)
  | 0, _ => tabTo_val h _ (Nat.le_refl _)
  | i + 1, hi => doV (run_nd _ _ _) (runV h hok i (by omega)) (hok.ok _ (mem_getD (by omega)))
theorem runF_list {ss : List Stg} {rs : List Rul} (h : (runF ss rs != 0) = false) : listE pathB ss = 0 := firstNe_zero (by simpa using h : runF ss rs = 0) _ (by simp)
theorem keys_rise {t : Tab} (hd : ndT t) : (keysT t).Pairwise fun a b => a < b := by
  unfold keysT sortS
  have tr : ∀ a b c : List UInt8, leB a b = true → leB b c = true → leB a c = true := fun a b c h1 h2 => by simp only [leB, decide_eq_true_eq] at *; exact List.le_trans h1 h2
  have tot : ∀ a b : List UInt8, (leB a b || leB b a) = true := fun a b => by simp only [leB, Bool.or_eq_true, decide_eq_true_eq]; exact List.le_total a b
  have h1 := List.pairwise_mergeSort tr tot (t.map (·.1))
  have h2 : ((t.map (·.1)).mergeSort leB).Nodup := (List.mergeSort_perm _ _).nodup_iff.2 hd
  rw [List.nodup_iff_pairwise_ne] at h2
  refine (h1.and h2).imp fun {a b} ⟨ha, hb⟩ => ?_
  simp only [leB, decide_eq_true_eq] at ha
  by_cases hlt : a < b
  · exact hlt
  · exact absurd (List.le_antisymm ha (List.not_lt.1 hlt)) hb
theorem keys_mem {t : Tab} {k : L8} : k ∈ keysT t ↔ k ∈ t.map (·.1) := by unfold keysT sortS; exact (List.mergeSort_perm _ _).mem_iff
theorem listT_get {t : Tab} {i : Nat} (hi : i < (keysT t).length) : (listT t).getD i Stg.z = ⟨(keysT t).getD i [], getL beqS [] t ((keysT t).getD i [])⟩ := by
  show (((keysT t)).map fun k => (⟨k, getL beqS [] t k⟩ : Stg)).getD i Stg.z = _
  simp [List.getD_eq_getElem?_getD, hi]
theorem listT_len (t : Tab) : (listT t).length = t.length := by
  show ((keysT t).map fun k => (⟨k, getL beqS [] t k⟩ : Stg)).length = _
  rw [List.length_map, keysT_len]
theorem list_ok {t : Tab} (hd : ndT t) (hp : allP t = true) (hv : allV t) : listE pathB (listT t) = 0 := by
  have hall : ∀ i, i < (listT t).length → stgAt pathB (listT t) i = 0 := fun i hi => by
    rw [listT_len, ← keysT_len] at hi
    have hk : (keysT t).getD i [] ∈ t.map (·.1) := keys_mem.1 (mem_getD hi)
    have h1 : pathB ((keysT t).getD i []) = true := all_keys.1 hp _ hk
    have h2 : hasL beqS t ((keysT t).getD i []) = true := by
      rw [has_lk]
      cases hq : lk t ((keysT t).getD i []) with
      | some v => rfl
      | none => exact absurd hk (lk_none.1 hq)
    have h3 : valueB (getL beqS [] t ((keysT t).getD i [])) = true := hv _ (get_mem hd h2)
    unfold stgAt
    rw [listT_get hi]
    simp only [h1, h3, Bool.not_true, Bool.false_eq_true, if_false]
    by_cases h0 : i = 0
    · subst h0; simp
    · rw [listT_get (by omega)]
      have hlt : (keysT t).getD (i - 1) [] < (keysT t).getD i [] := by
        have := List.pairwise_iff_getElem.1 (keys_rise hd) (i - 1) i (by omega) hi (by omega)
        simpa [List.getD_eq_getElem?_getD, hi, show i - 1 < (keysT t).length by omega] using this
      have : leS ((keysT t).getD i []) ((keysT t).getD (i - 1) []) = false := by
        unfold leS
        rw [bytesLess_eq]
        have h5 : ¬ (keysT t).getD i [] < (keysT t).getD (i - 1) [] := fun h => List.lt_irrefl _ (List.lt_trans h hlt)
        have h6 : (keysT t).getD i [] ≠ (keysT t).getD (i - 1) [] := fun h => by rw [h] at hlt; exact List.lt_irrefl _ hlt
        rw [decide_eq_false h5, Bool.false_or]
        exact beq_eq_false_iff_ne.2 h6
      simp only [this, Bool.and_false, Bool.false_eq_true, if_false]
  unfold listE
  refine firstNe_none (i := (listT t).length) (by simp) (List.all_eq_true.2 fun x hx => ?_)
  obtain ⟨i, hi, rfl⟩ := List.mem_map.1 (List.mem_of_mem_take hx)
  rw [hall i (List.mem_range.1 hi)]; rfl
theorem value_len {v : L8} (h : valueB v = true) : v.length ≤ 1000 := by
  unfold valueB at h
  rw [Bool.or_eq_true] at h
  rcases h with h | h
  · rw [beq_iff_eq.1 h]; simp
  · unfold eachB at h; simp at h; omega
theorem list_len {t : Tab} (hd : ndT t) (hp : allP t = true) (hv : allV t) : ∀ s ∈ listT t, s.k.length < 4294967000 ∧ s.v.length < 4294967000 := fun s hs => by
  obtain ⟨k, hk, rfl⟩ := List.mem_map.1 hs
  have hk' : k ∈ t.map (·.1) := keys_mem.1 hk
  have h1 := path_len (all_keys.1 hp _ hk')
  have h2 : hasL beqS t k = true := by
    rw [has_lk]
    cases hq : lk t k with
    | some v => rfl
    | none => exact absurd hk' (lk_none.1 hq)
  have h3 := value_len (hv _ (get_mem hd h2))
  exact ⟨by show k.length < _; omega, by show (getL beqS [] t k).length < _; simp only at h3; omega⟩
def cleanTo (ss : List Stg) (rs : List Rul) (i : Nat) : Bool := (List.range i).all fun j => !losesT (runT ss rs j) (rs.getD j Rul.z)
theorem cl_0 (ss : List Stg) (rs : List Rul) : cleanTo ss rs 0 = true := rfl
theorem cl_next {ss : List Stg} {rs : List Rul} {i : Nat} (h : cleanTo ss rs i = true) (hl : losesT (runT ss rs i) (rs.getD i Rul.z) = false) : cleanTo ss rs (i + 1) = true := by
  unfold cleanTo at *
  rw [List.range_succ, List.all_append, h, List.all_cons, hl]; rfl
theorem cl_hit {ss : List Stg} {rs : List Rul} {i : Nat} (hi : i < rs.length) (hl : losesT (runT ss rs i) (rs.getD i Rul.z) = true) : cleanT ss rs = false := by
  unfold cleanT
  rw [← Bool.not_eq_true, List.all_eq_true]
  intro h
  have := h i (List.mem_range.2 hi)
  rw [hl] at this; cases this
theorem cl_end {ss : List Stg} {rs : List Rul} (h : cleanTo ss rs rs.length = true) : cleanT ss rs = true := h
theorem cp_a {ss : List Stg} {rs : List Rul} (h : ((runP ss rs).2 != 0) = true) : cleanP ss rs = (false, (runP ss rs).2) := if_pos h
theorem cp_b {ss : List Stg} {rs : List Rul} (h : ((runP ss rs).2 != 0) = false) (h2 : ((invAll rs).2 != 0) = true) : cleanP ss rs = (false, (invAll rs).2) := by
  unfold cleanP; rw [if_neg (Bool.eq_false_iff.1 h), if_pos h2]
theorem cp_c {ss : List Stg} {rs : List Rul} (h : ((runP ss rs).2 != 0) = false) (h2 : ((invAll rs).2 != 0) = false) : cleanP ss rs = (cleanT ss rs, 0) := by
  unfold cleanP; rw [if_neg (Bool.eq_false_iff.1 h), if_neg (Bool.eq_false_iff.1 h2)]
theorem run_zero {ss : List Stg} {rs : List Rul} (h : ((runP ss rs).2 != 0) = false) : (runF ss rs != 0) = false ∧ stepsE ss rs = 0 := by
  by_cases h1 : (runF ss rs != 0) = true
  · rw [runP_1 h1] at h; rw [h1] at h; cases h
  · have h1 := Bool.eq_false_iff.2 h1
    refine ⟨h1, ?_⟩
    by_cases h2 : stepsE ss rs = 0
    · exact h2
    · rw [runP_2 h1 _ rfl h2] at h; simp at h; exact absurd h h2
theorem runP_ok {ss : List Stg} {rs : List Rul} (h : ((runP ss rs).2 != 0) = false) : (runP ss rs).1 = listT (runT ss rs rs.length) ∧ listE pathB ss = 0 ∧ listE pathB (runP ss rs).1 = 0 := by
  obtain ⟨h1, h2⟩ := run_zero h
  have hok := run_ok h1
  have hw := way_all hok h2 rs.length (Nat.le_refl _)
  have hv := runV (runF_list h1) hok rs.length (Nat.le_refl _)
  rw [runP_3 h1 h2]
  exact ⟨rfl, runF_list h1, list_ok (run_nd _ _ _) hw.all hv⟩
theorem runP_len (ss : List Stg) (rs : List Rul) : (runP ss rs).1.length ≤ 2000 ∧ ∀ s ∈ (runP ss rs).1, s.k.length < 4294967000 ∧ s.v.length < 4294967000 := by
  by_cases h : ((runP ss rs).2 != 0) = false
  · obtain ⟨h1, h2⟩ := run_zero h
    have hok := run_ok h1
    have hw := way_all hok h2 rs.length (Nat.le_refl _)
    have hv := runV (runF_list h1) hok rs.length (Nat.le_refl _)
    rw [(runP_ok h).1]
    exact ⟨by rw [listT_len]; exact hw.len, list_len (run_nd _ _ _) hw.all hv⟩
  · have h : ((runP ss rs).2 != 0) = true := by simpa using h
    have : (runP ss rs).1 = [] := by
      by_cases h1 : (runF ss rs != 0) = true
      · rw [runP_1 h1]
      · have h1 := Bool.eq_false_iff.2 h1
        by_cases h2 : stepsE ss rs = 0
        · rw [runP_3 h1 h2] at h; cases h
        · rw [runP_2 h1 _ rfl h2]
    rw [this]
    exact ⟨by simp, fun s hs => by cases hs⟩
end Go.Proofs.YtcchfmilleffjaaGreatDoor
namespace Go.Proofs.YtcchfmilleffjaaGreatDoor
open Go
def quoteL : List UInt8 → List UInt8 → Nat → Option (List UInt8 × Nat)
  | [], _, _ => none
  | c :: l, o, i =>
    if c == 34 then some (o, i + 1)
    else if c == 92 then
      match l with
      | [] => none
      | d :: m => if d != 34 && d != 92 then none else quoteL m (o ++ [d]) (i + 2)
    else quoteL l (o ++ [c]) (i + 1)
theorem drop_at {s : List UInt8} {i : Nat} (h : i < s.length) : s.drop i = s.getD i 0 :: s.drop (i + 1) := by
  rw [List.getD_eq_getElem?_getD, List.getElem?_eq_getElem h]; exact List.drop_eq_getElem_cons h
theorem drop_end {s : List UInt8} {i : Nat} (h : s.length ≤ i) : s.drop i = [] := List.drop_of_length_le h
theorem qL_end {s o : List UInt8} {i : Nat} {q : Option (List UInt8 × Nat)} (h : s.length ≤ i) (hq : quoteL (s.drop i) o i = q) : q = none := by
  rw [drop_end h] at hq; exact hq.symm
theorem qL_q {s o : List UInt8} {i : Nat} {q : Option (List UInt8 × Nat)} (h : i < s.length) (hc : (s.getD i 0 == 34) = true) (hq : quoteL (s.drop i) o i = q) : q = some (o, i + 1) := by
  rw [drop_at h] at hq; unfold quoteL at hq; rw [if_pos hc] at hq; exact hq.symm
theorem qL_bad {s o : List UInt8} {i : Nat} {q : Option (List UInt8 × Nat)} (h : i < s.length) (hc : (s.getD i 0 == 34) = false) (hb : (s.getD i 0 == 92) = true)
    (hd : ((i + 1 : Nat) : Int) = (s.length : Int) ∨ ((s.getD (i + 1) 0 != 34) && (s.getD (i + 1) 0 != 92)) = true) (hq : quoteL (s.drop i) o i = q) : q = none := by
  rw [drop_at h] at hq; unfold quoteL at hq; rw [if_neg (by rw [hc]; simp), if_pos hb] at hq
  rcases Nat.lt_or_ge (i + 1) s.length with h1 | h1
  · rw [drop_at h1] at hq
    have h2 : (s.getD (i + 1) 0 != 34 && s.getD (i + 1) 0 != 92) = true := hd.resolve_left (by omega)
    simp only [h2, if_true] at hq
    exact hq.symm
  · rw [drop_end h1] at hq; exact hq.symm
theorem qL_esc {s o : List UInt8} {i : Nat} {q : Option (List UInt8 × Nat)} (h : i + 1 < s.length) (hc : (s.getD i 0 == 34) = false) (hb : (s.getD i 0 == 92) = true)
    (hd : ((s.getD (i + 1) 0 != 34) && (s.getD (i + 1) 0 != 92)) = false) (hq : quoteL (s.drop i) o i = q) : quoteL (s.drop (i + 1 + 1)) (o ++ [s.getD (i + 1) 0]) (i + 1 + 1) = q := by
  rw [drop_at (by omega)] at hq; unfold quoteL at hq; rw [if_neg (by rw [hc]; simp), if_pos hb, drop_at h] at hq
  simp only [hd, if_false, Bool.false_eq_true] at hq
  exact hq
theorem qL_c {s o : List UInt8} {i : Nat} {q : Option (List UInt8 × Nat)} (h : i < s.length) (hc : (s.getD i 0 == 34) = false) (hb : (s.getD i 0 == 92) = false)
    (hq : quoteL (s.drop i) o i = q) : quoteL (s.drop (i + 1)) (o ++ [s.getD i 0]) (i + 1) = q := by
  rw [drop_at h] at hq; unfold quoteL at hq; rw [if_neg (by rw [hc]; simp), if_neg (by rw [hb]; simp)] at hq
  exact hq
def qAt (s : List UInt8) (f : Nat) : Option (List UInt8 × Nat) := quoteL (s.drop (f + 1)) [] (f + 1)
def qT (q : Option (List UInt8 × Nat)) : List UInt8 := (q.map Prod.fst).getD []
def qE (q : Option (List UInt8 × Nat)) : Nat := (q.map Prod.snd).getD 0
theorem qL_le : ∀ (n : Nat) (l o : List UInt8) (i : Nat) (x : List UInt8) (e : Nat), l.length ≤ n → quoteL l o i = some (x, e) → i < e ∧ e ≤ i + l.length ∧ x.length ≤ o.length + l.length
  | 0, l, o, i, x, e, h, hq => by
    obtain rfl : l = [] := List.length_eq_zero_iff.1 (by omega)
    cases hq
  | n + 1, [], o, i, x, e, h, hq => by cases hq
  | n + 1, c :: l, o, i, x, e, h, hq => by
    unfold quoteL at hq
    by_cases h1 : (c == 34) = true
    · rw [if_pos h1] at hq
      simp only [Option.some.injEq, Prod.mk.injEq] at hq
      obtain ⟨rfl, rfl⟩ := hq
      simp
    · rw [if_neg h1] at hq
      by_cases h2 : (c == 92) = true
      · rw [if_pos h2] at hq
        match l, hq with
        | [], hq => cases hq
        | d :: m, hq =>
          by_cases h3 : (d != 34 && d != 92) = true
          · simp only [h3, if_true] at hq; cases hq
          · rw [Bool.not_eq_true] at h3
            simp only [h3, if_false, Bool.false_eq_true] at hq
            have := qL_le n m (o ++ [d]) (i + 2) x e (by simp at h; omega) hq
            simp at this ⊢; omega
      · rw [if_neg h2] at hq
        have := qL_le n l (o ++ [c]) (i + 1) x e (by simp at h; omega) hq
        simp at this ⊢; omega
end Go.Proofs.YtcchfmilleffjaaGreatDoor
namespace Go.Proofs.YtcchfmilleffjaaGreatDoor
open Go
theorem u8i {c k : UInt8} {b : Bool} (h : ((c.toNat : Int) == (k.toNat : Int)) = b) : (c == k) = b := by
  rw [← h]
  by_cases h1 : c = k
  · subst h1; simp
  · have h2 : c.toNat ≠ k.toNat := fun h => h1 (UInt8.toNat_inj.1 h)
    have h3 : ((c.toNat : Int) == (k.toNat : Int)) = false := by simp; omega
    rw [h3]; simpa using h1
theorem u8e (c k : UInt8) : ((c.toNat : Int) == (k.toNat : Int)) = (c == k) := (u8i rfl).symm
theorem u8n (c k : UInt8) : ((c.toNat : Int) != (k.toNat : Int)) = (c != k) := by
  show (!((c.toNat : Int) == (k.toNat : Int))) = !(c == k); rw [u8e]
theorem byteRow_add (o : List UInt8) (c : UInt8) : byteRow o ++ [[D.int .u8 (c.toNat : Int)]] = byteRow (o ++ [c]) := by simp [byteRow]
section
variable {s o : List UInt8} {i : Nat}
theorem qm1 (h : i < s.length) : s.length - (i + 1) < s.length - i := by omega
theorem qm2 (h : i < s.length) : s.length - (i + 1 + 1) < s.length - i := by omega
theorem qbad {x y : UInt8} (h : (((i + 1 : Nat) : Int) == (s.length : Int) || (((x.toNat : Int) != 34) && ((y.toNat : Int) != 92))) = true) : ((i + 1 : Nat) : Int) = (s.length : Int) ∨ ((x != 34) && (y != 92)) = true := by
  rcases Bool.or_eq_true_iff.1 h with h | h
  · exact .inl (by simpa using h)
  · right; rw [← u8n x 34, ← u8n y 92]; exact h
theorem qok1 {b : Bool} (hi : i < s.length) (h : (((i + 1 : Nat) : Int) == (s.length : Int) || b) = false) : i + 1 < s.length := by
  have : ¬ ((i + 1 : Nat) : Int) = (s.length : Int) := fun he => by rw [he] at h; simp at h
  omega
theorem qok2 {b : Bool} {x y : UInt8} (h : (b || (((x.toNat : Int) != 34) && ((y.toNat : Int) != 92))) = false) : ((x != 34) && (y != 92)) = false := by
  rw [← u8n x 34, ← u8n y 92]; exact (Bool.or_eq_false_iff.1 h).2
theorem qidx (hi : i < s.length) (h : (!(((i + 1 : Nat) : Int) == (s.length : Int))) = true) : (decide (0 ≤ ((i + 1 : Nat) : Int)) && decide (((i + 1 : Nat) : Int) < (s.length : Int))) = true := by
  have : ¬ ((i + 1 : Nat) : Int) = (s.length : Int) := fun he => by rw [he] at h; simp at h
  exact idx_ok (by omega) (by omega)
theorem qlen {x : List D} (hs : s.length ≤ 4000) (hi : i ≤ s.length) (ho : o.length ≤ i) : (byteRow o).length + [x].length ≤ 34359738368 := by simp [byteRow]; omega
theorem q_start {f : Nat} : quoteL (s.drop (f + 1)) [] (f + 1) = qAt s f := rfl
end
end Go.Proofs.YtcchfmilleffjaaGreatDoor
namespace Go.Proofs.YtcchfmilleffjaaGreatDoor
open Go
end Go.Proofs.YtcchfmilleffjaaGreatDoor
namespace Go.Proofs.YtcchfmilleffjaaGreatDoor
open Go
theorem qAt_le {s : List UInt8} {f : Nat} (hf : f < s.length) (h : (qAt s f).isSome = true) : f < qE (qAt s f) ∧ qE (qAt s f) ≤ s.length ∧ (qT (qAt s f)).length ≤ s.length := by
  obtain ⟨⟨x, e⟩, hq⟩ := Option.isSome_iff_exists.1 h
  have := qL_le _ _ _ _ _ _ (Nat.le_refl _) (show quoteL (s.drop (f + 1)) [] (f + 1) = some (x, e) from hq)
  rw [hq]
  simp at this
  simp [qE, qT]
  omega
end Go.Proofs.YtcchfmilleffjaaGreatDoor
namespace Go.Proofs.YtcchfmilleffjaaGreatDoor
open Go
def quoP (s : L8) : L8 × L8 × Bool :=
  if s == [] || (bI (s.getD 0 0) != 34) then ([], [], false)
  else match qAt s 0 with
    | some q => (q.1, s.drop q.2, true)
    | none => ([], [], false)
theorem quo_1 {s : L8} (h : (s == [] || (bI (s.getD 0 0) != 34)) = true) : quoP s = ([], [], false) := if_pos h
theorem quo_2 {s : L8} (h : (s == [] || (bI (s.getD 0 0) != 34)) = false) {x : L8} {e : Nat} (hq : qAt s 0 = some (x, e)) : quoP s = (x, s.drop e, true) := by
  unfold quoP; rw [if_neg (Bool.eq_false_iff.1 h), hq]
theorem quo_3 {s : L8} (h : (s == [] || (bI (s.getD 0 0) != 34)) = false) (hq : qAt s 0 = none) : quoP s = ([], [], false) := by
  unfold quoP; rw [if_neg (Bool.eq_false_iff.1 h), hq]
theorem quo_nil {s : L8} (h : (s == [] || (bI (s.getD 0 0) != 34)) = false) : 0 < s.length := by
  cases s with
  | nil => simp at h
  | cons a l => simp
theorem quo_le (s : L8) : (quoP s).1.length ≤ s.length ∧ (quoP s).2.1.length ≤ s.length := by
  unfold quoP
  split
  · simp
  · rename_i h
    have hs := quo_nil (s := s) (Bool.eq_false_iff.2 h)
    cases hq : qAt s 0 with
    | none => simp
    | some q =>
      have h1 := qAt_le hs (by rw [hq]; rfl)
      rw [hq] at h1
      exact ⟨h1.2.2, by simp⟩
theorem quo_b {s : L8} {N : Nat} (h : s.length ≤ N) : (quoP s).1.length ≤ N := Nat.le_trans (quo_le s).1 h
theorem quo_r {s : L8} {N : Nat} (h : s.length ≤ N) : (quoP s).2.1.length ≤ N := Nat.le_trans (quo_le s).2 h
theorem drop_b {s : L8} {N : Nat} (h : s.length ≤ N) : (s.drop 1).length ≤ N := by simp; omega
theorem pre_len {s : L8} {a : Bool} (h : (a || !Lib.hasPrefix s [32]) = false) : 1 ≤ s.length := by
  rw [Bool.or_eq_false_iff] at h
  have h2 : Lib.hasPrefix s [32] = true := by simpa using h.2
  obtain ⟨z, rfl⟩ := hasPrefix_iff.1 h2
  simp
theorem q0 {s : L8} (h : (!(s == [])) = true) : (decide (0 ≤ (0 : Int)) && decide ((0 : Int) < (s.length : Int))) = true := by
  cases s with
  | nil => simp at h
  | cons a l => simp
theorem sl_drop (s : L8) (i : Nat) : V.one (.d (.str ((s.take ((s.length : Int)).toNat).drop (((i + 1 : Nat) : Int)).toNat))) = V.one (.d (.str (s.drop (i + 1)))) := by
  rw [Int.toNat_natCast, Int.toNat_natCast, List.take_length]
theorem sl_drop1 (s : L8) : V.one (.d (.str ((s.take ((s.length : Int)).toNat).drop ((1 : Int)).toNat))) = V.one (.d (.str (s.drop 1))) := by
  rw [Int.toNat_natCast, List.take_length]; rfl
def prEnd (r : Rul) (rest : L8) : Rul × Int := if !(rest == []) then (Rul.z, 8) else if ruleC r != 0 then (Rul.z, ruleC r) else (r, 0)
def prNew (r : Rul) (rest : L8) : Rul × Int :=
  if usNew r.kd then (if !(quoP rest).2.2 then (Rul.z, 8) else prEnd ⟨r.kd, r.k, r.tu, r.old, (quoP rest).1⟩ (quoP rest).2.1) else prEnd r rest
def prOld (r : Rul) (rest : L8) : Rul × Int :=
  if usOld r.kd then (if !(quoP rest).2.2 || !Lib.hasPrefix (quoP rest).2.1 [32] then (Rul.z, 8) else prNew ⟨r.kd, r.k, r.tu, (quoP rest).1, r.nu⟩ ((quoP rest).2.1.drop 1)) else prNew r rest
def prTo (r : Rul) (rest : L8) : Rul × Int :=
  if usTu r.kd then (if rest == [] || Lib.contains rest [32] then (Rul.z, 8) else prOld ⟨r.kd, r.k, rest, r.old, r.nu⟩ []) else prOld r rest
def parK (kd : Int) (rest : L8) : Rul × Int :=
  if (Lib.cut rest [32]).1 == [] || ((Lib.cut rest [32]).2.2 != (usTu kd || usOld kd || usNew kd)) then (Rul.z, 8) else prTo ⟨kd, (Lib.cut rest [32]).1, [], [], []⟩ (Lib.cut rest [32]).2.1
end Go.Proofs.YtcchfmilleffjaaGreatDoor
namespace Go.Proofs.YtcchfmilleffjaaGreatDoor
open Go
open Go.RowKit
attribute [local irreducible] rangeB pathB nameB valueB quoteL qAt ruleC idxOf quoP Lib.cut Lib.contains
theorem pc_mquoted (s : List UInt8) (hs : s.length ≤ 4000) :
  PureCall Tryz.prog J 102 [.one (.d (.str s))] (.tup [.one (.d (.str (quoP s).1)), .one (.d (.str (quoP s).2.1)), .one (.d (.bool (quoP s).2.2))]) := by
 refine PureCall.of_body tOk (fn := Tryz.f102) Tryz.func102 (by kernel_rfl) rfl (Nat.le_of_ble_eq_true rfl) (fun E => ?_)
 refine W.seq ?_
 refine W.region ?_
 refine S.pure tOk zOk rfl rfl rfl ?_
 refine S.pure tOk zOk rfl rfl rfl ?_
 refine S.pure tOk zOk rfl rfl rfl ?_
 refine thenK_n ?_
 refine W.seq ?_
 refine W.seq ?_
 refine W.region ?_
 refine S.pure tOk zOk rfl rfl rfl ?_
 refine S.pure tOk zOk rfl rfl rfl ?_
 refine S.pure tOk zOk rfl rfl rfl ?_
 refine S.pureG tOk zOk rfl rfl tg (fun _ => rfl) rfl ?_
 refine S.pureG tOk zOk rfl rfl tg (fun h => q0 h) rfl ?_
 refine S.pureG tOk zOk rfl rfl tg (fun _ => rfl) rfl ?_
 refine S.pickOr tOk zOk rfl rfl tg ?_
 refine thenK_n ?_
 refine W.cond rfl (fun c1 => ?_) (fun c1 => ?_)
 ·skip
  refine W.seq ?_
  refine W.region ?_
  refine S.pure tOk zOk rfl rfl rfl ?_
  refine S.pure tOk zOk rfl rfl rfl ?_
  refine S.pure tOk zOk rfl rfl rfl ?_
  refine thenK_n ?_
  refine W.ret ?_
  refine thenK_r ?_
  exact ⟨_, rfl, rfl, LeV.of_force rfl (by rw [quo_1 c1]; rfl)⟩
 ·skip
  have hf := quo_nil c1
  refine W.skip ?_
  refine thenK_n ?_
  refine W.seq ?_
  refine W.region ?_
  refine S.pure tOk zOk rfl rfl rfl ?_
  refine thenK_n ?_
  refine W.seq ?_
  refine W.seq ?_
  refine W.region ?_
  refine S.pure tOk zOk rfl rfl rfl ?_
  refine thenK_n ?_
  refine W.newRow 5 1 5 rfl ?_
  refine W.block ?_
  refine W.loop (fun k st => ∃ i : Nat, ∃ o : List UInt8, ∃ v : Nat, ∃ al : Bool, i ≤ s.length ∧ quoteL (s.drop i) o i = (qAt s 0) ∧ o.length ≤ i ∧ k = s.length - i ∧ ∃ t b2 r2 m2, st = ⟨t, [] ++ b2, [some ⟨al, v, 1, 5, byteRow o⟩] ++ r2, [] ++ m2⟩ ∧ holdsL t [(0, .one (.d (.str s))), (5, .one (.row 0 v 0 (byteRow o).length)), (6, .one (.d (.int .i64 (i : Int))))]) (s.length - 1) ⟨1, [], 0, false, hf, q_start, Nat.zero_le _, rfl, _, _, _, _, rfl, rfl, rfl, rfl, trivial⟩ ?_
  rintro k0 _ ⟨i, o, v, al, f0_0, f0_1, f0_2, rfl, t0, bb0, rr0, mm0, rfl, hh0⟩
  refine W.keepR _ _ _ _ _ _ _ hh0 rfl ?_
  refine W.seq ?_
  refine W.seq ?_
  refine W.region ?_
  refine S.pure tOk zOk rfl rfl rfl ?_
  refine S.pure tOk zOk rfl rfl rfl ?_
  refine S.pure tOk zOk rfl rfl rfl ?_
  refine S.pure tOk zOk rfl rfl rfl ?_
  refine thenK_n ?_
  refine W.cond rfl (fun c2 => ?_) (fun c2 => ?_)
  ·skip
   have hi : i < s.length := by simpa using c2
   refine W.skip ?_
   refine thenK_n ?_
   refine W.seq ?_
   refine W.block ?_
   refine W.seq ?_
   refine W.seq ?_
   refine W.region ?_
   refine S.pure tOk zOk rfl rfl rfl ?_
   refine S.pure tOk zOk rfl rfl rfl ?_
   refine S.pure tOk zOk rfl (str_ok hi) rfl ?_
   refine thenK_n ?_
   refine W.block ?_
   refine W.seq ?_
   refine W.region ?_
   refine S.pure tOk zOk rfl rfl rfl ?_
   refine S.pure tOk zOk rfl rfl rfl ?_
   refine thenK_n ?_
   refine W.cond rfl (fun c3 => ?_) (fun c3 => ?_)
   ·skip
    have hq := qL_q hi (u8i (k := 34) c3) f0_1
    refine W.seq ?_
    refine W.regionS 9 mixed rfl (by kernel_rfl) ?_
    refine AnyZ.eager 0 rfl (by kernel_rfl) (Eag.pure tOk zOk rfl (fun _ _ _ => rfl) rfl rfl) ?_
    refine AnyZ.eager 2 rfl (by kernel_rfl) (Eag.pure tOk zOk rfl (fun _ _ _ => rfl) rfl rfl) ?_
    refine AnyZ.eager 3 rfl (by kernel_rfl) (Eag.pure tOk zOk rfl (fun _ _ _ => rfl) rfl rfl) ?_
    refine AnyZ.eager 4 rfl (by kernel_rfl) (Eag.pure tOk zOk rfl (fun _ _ _ => congrArg (fun x => some (_, x)) (inc_i64 (by omega))) rfl rfl) ?_
    refine AnyZ.two 1 5 (by kernel_rfl) rfl rfl ?_ ?_
    ·skip
     refine OpZ.convRow tOk o rfl rfl rfl rfl rfl rfl rfl rfl (by simp [byteRow]) ?_
     refine AnyZ.eager 6 rfl (by kernel_rfl) (Eag.pure tOk zOk rfl (fun _ _ _ => rfl) rfl rfl) ?_
     refine AnyZ.one 5 (by kernel_rfl) rfl ?_
     refine OpZ.d ?_
     refine D.pureE tOk zOk rfl rfl (sl_ok (by omega) (by omega) (by omega)) (sl_drop s i) rfl ?_
     refine WD.nil ?_
     refine AnyZ.eager 7 rfl (by kernel_rfl) (Eag.pure tOk zOk rfl (fun _ _ _ => rfl) rfl rfl) ?_
     refine AnyZ.eager 8 rfl (by kernel_rfl) (Eag.pure tOk zOk rfl (fun _ _ _ => rfl) rfl rfl) ?_
     refine AnyZ.nil (by kernel_rfl) ?_
     refine thenK_n ?_
     refine W.ret ?_
     refine blockK_r ?_
     refine thenK_r ?_
     refine blockK_r ?_
     refine thenK_r ?_
     refine thenK_r ?_
     refine blockK_r ?_
     refine thenK_r ?_
     exact ⟨_, rfl, rfl, LeV.of_force rfl (by first | (rw [quo_2 c1 hq]; rfl) | (rw [quo_3 c1 hq]; rfl))⟩
    ·skip
     refine OpZ.d ?_
     refine D.pureE tOk zOk rfl rfl (sl_ok (by omega) (by omega) (by omega)) (sl_drop s i) rfl ?_
     refine WD.nil ?_
     refine AnyZ.one 1 (by kernel_rfl) rfl ?_
     refine OpZ.convRow tOk o rfl rfl rfl rfl rfl rfl rfl rfl (by simp [byteRow]) ?_
     refine AnyZ.eager 6 rfl (by kernel_rfl) (Eag.pure tOk zOk rfl (fun _ _ _ => rfl) rfl rfl) ?_
     refine AnyZ.eager 7 rfl (by kernel_rfl) (Eag.pure tOk zOk rfl (fun _ _ _ => rfl) rfl rfl) ?_
     refine AnyZ.eager 8 rfl (by kernel_rfl) (Eag.pure tOk zOk rfl (fun _ _ _ => rfl) rfl rfl) ?_
     refine AnyZ.nil (by kernel_rfl) ?_
     refine thenK_n ?_
     refine W.ret ?_
     refine blockK_r ?_
     refine thenK_r ?_
     refine blockK_r ?_
     refine thenK_r ?_
     refine thenK_r ?_
     refine blockK_r ?_
     refine thenK_r ?_
     exact ⟨_, rfl, rfl, LeV.of_force rfl (by first | (rw [quo_2 c1 hq]; rfl) | (rw [quo_3 c1 hq]; rfl))⟩
   ·skip
    have hc := u8i (c := s.getD i 0) (k := 34) c3
    refine W.seq ?_
    refine W.region ?_
    refine S.pure tOk zOk rfl rfl rfl ?_
    refine S.pure tOk zOk rfl rfl rfl ?_
    refine thenK_n ?_
    refine W.cond rfl (fun c4 => ?_) (fun c4 => ?_)
    ·skip
     have hb := u8i (c := s.getD i 0) (k := 92) c4
     refine W.seq ?_
     refine W.region ?_
     refine S.pure tOk zOk rfl rfl rfl ?_
     refine S.pureE tOk zOk rfl rfl (inc_i64 (by omega)) rfl ?_
     refine S.pure tOk zOk rfl rfl rfl ?_
     refine thenK_n ?_
     refine W.seq ?_
     refine W.region ?_
     refine S.pure tOk zOk rfl rfl rfl ?_
     refine S.pure tOk zOk rfl rfl rfl ?_
     refine S.pure tOk zOk rfl rfl rfl ?_
     refine S.pure tOk zOk rfl rfl rfl ?_
     refine S.pure tOk zOk rfl rfl rfl ?_
     refine S.pureG tOk zOk rfl rfl tg (fun _ => rfl) rfl ?_
     refine S.pureG tOk zOk rfl rfl tg (fun _ => rfl) rfl ?_
     refine S.pureG tOk zOk rfl rfl tg (fun h => qidx hi h) rfl ?_
     refine S.pureG tOk zOk rfl rfl tg (fun _ => rfl) rfl ?_
     refine S.pureG tOk zOk rfl rfl tg (fun _ => rfl) rfl ?_
     refine S.pureG tOk zOk rfl rfl tg (fun _ => rfl) rfl ?_
     refine S.pureG tOk zOk rfl rfl tg (fun _ => rfl) rfl ?_
     refine S.pureG tOk zOk rfl rfl tg (fun h => qidx hi (andl h)) rfl ?_
     refine S.pureG tOk zOk rfl rfl tg (fun _ => rfl) rfl ?_
     refine S.pickAndG tOk zOk rfl rfl rfl tg tg ?_
     refine S.pickOr tOk zOk rfl rfl tg ?_
     refine thenK_n ?_
     refine W.cond rfl (fun c5 => ?_) (fun c5 => ?_)
     ·skip
      have hq := qL_bad hi hc hb (qbad c5) f0_1
      refine W.seq ?_
      refine W.region ?_
      refine S.pure tOk zOk rfl rfl rfl ?_
      refine S.pure tOk zOk rfl rfl rfl ?_
      refine S.pure tOk zOk rfl rfl rfl ?_
      refine thenK_n ?_
      refine W.ret ?_
      refine blockK_r ?_
      refine thenK_r ?_
      refine blockK_r ?_
      refine thenK_r ?_
      refine thenK_r ?_
      refine blockK_r ?_
      refine thenK_r ?_
      exact ⟨_, rfl, rfl, LeV.of_force rfl (by first | (rw [quo_2 c1 hq]; rfl) | (rw [quo_3 c1 hq]; rfl))⟩
     ·skip
      have hi1 : i + 1 < s.length := qok1 hi c5
      have hd := qok2 c5
      refine W.skip ?_
      refine blockK_n ?_
      refine thenK_n ?_
      refine W.region ?_
      refine S.pure tOk zOk rfl rfl rfl ?_
      refine S.pure tOk zOk rfl rfl rfl ?_
      refine S.pure tOk zOk rfl rfl rfl ?_
      refine S.pure tOk zOk rfl (by first | exact str_ok hi1 | exact str_ok hi) rfl ?_
      refine S.slice tOk rfl rfl ?_
      refine S.append tOk rfl rfl rfl rfl rfl rfl rfl rfl rfl rfl rfl rfl (qlen hs f0_0 f0_2) rfl (byteRow_add o (s.getD (i + 1) 0)) rfl ?_
      refine S.pure tOk zOk rfl rfl rfl ?_
      refine blockK_n ?_
      refine thenK_n ?_
      refine W.region ?_
      refine S.pure tOk zOk rfl rfl rfl ?_
      refine S.pure tOk zOk rfl rfl rfl ?_
      refine S.pure tOk zOk rfl rfl rfl ?_
      refine loop_n (s.length - _) (by first | exact qm2 hi | exact qm1 hi) ⟨i + 1 + 1, _, _, _, hi1, qL_esc hi1 hc hb hd f0_1, (by simp; omega), rfl, _, _, _, _, rfl, rfl, rfl, inc_i64 (by omega), trivial⟩
    ·skip
     have hb := u8i (c := s.getD i 0) (k := 92) c4
     refine W.skip ?_
     refine blockK_n ?_
     refine thenK_n ?_
     refine W.region ?_
     refine S.pure tOk zOk rfl rfl rfl ?_
     refine S.pure tOk zOk rfl rfl rfl ?_
     refine S.pure tOk zOk rfl rfl rfl ?_
     refine S.pure tOk zOk rfl (by first | exact str_ok hi1 | exact str_ok hi) rfl ?_
     refine S.slice tOk rfl rfl ?_
     refine S.append tOk rfl rfl rfl rfl rfl rfl rfl rfl rfl rfl rfl rfl (qlen hs f0_0 f0_2) rfl (byteRow_add o (s.getD i 0)) rfl ?_
     refine S.pure tOk zOk rfl rfl rfl ?_
     refine blockK_n ?_
     refine thenK_n ?_
     refine W.region ?_
     refine S.pure tOk zOk rfl rfl rfl ?_
     refine S.pure tOk zOk rfl rfl rfl ?_
     refine S.pure tOk zOk rfl rfl rfl ?_
     refine loop_n (s.length - _) (by first | exact qm2 hi | exact qm1 hi) ⟨i + 1, _, _, _, hi, qL_c hi hc hb f0_1, (by simp; omega), rfl, _, _, _, _, rfl, rfl, rfl, inc_i64 (by omega), trivial⟩
  ·skip
   have hi : s.length ≤ i := by simpa using c2
   have hq := qL_end hi f0_1
   refine W.exit ?_
   refine thenK_e ?_
   refine thenK_e ?_
   refine blockK_x ?_
   refine thenK_n ?_
   refine W.seq ?_
   refine W.region ?_
   refine S.pure tOk zOk rfl rfl rfl ?_
   refine S.pure tOk zOk rfl rfl rfl ?_
   refine S.pure tOk zOk rfl rfl rfl ?_
   refine thenK_n ?_
   refine W.ret ?_
   exact ⟨_, rfl, rfl, LeV.of_force rfl (by first | (rw [quo_2 c1 hq]; rfl) | (rw [quo_3 c1 hq]; rfl))⟩
def parR (s : L8) : Rul × Int :=
  if decide ((s.length : Int) > 4000) then (Rul.z, 4)
  else if !(Lib.cut s [32]).2.2 || decide (idxOf (fun y => (Lib.cut s [32]).1 == y) ruleWs < 1) then (Rul.z, 8)
  else parK (idxOf (fun y => (Lib.cut s [32]).1 == y) ruleWs) (Lib.cut s [32]).2.1
theorem pc_ParseRule (s : List UInt8) (hs : s.length ≤ 4000000) :
  PureCall Tryz.prog J 49 [.one (.d (.str s))] (.tup [.agg [.d (.int .i64 (parR s).1.kd), .d (.str (parR s).1.k), .d (.str (parR s).1.tu), .d (.str (parR s).1.old), .d (.str (parR s).1.nu)], .one (.d (.int .i64 (parR s).2))]) := by
 have hc1 := cut_le s [32]
 have hc2 := cut_le (Lib.cut s [32]).2.1 [32]
 refine PureCall.of_body tOk (fn := Tryz.f49) Tryz.func49 (by kernel_rfl) rfl (Nat.le_of_ble_eq_true rfl) (fun E => ?_)
 refine W.seq ?_
 refine W.region ?_
 refine S.alloc tOk rfl rfl rfl rfl ?_
 refine S.pure tOk zOk rfl rfl rfl ?_
 refine thenK_n ?_
 refine W.seq ?_
 refine W.seq ?_
 refine W.region ?_
 refine S.pure tOk zOk rfl rfl rfl ?_
 refine S.pure tOk zOk rfl rfl rfl ?_
 refine S.pure tOk zOk rfl rfl rfl ?_
 refine thenK_n ?_
 refine W.cond rfl (fun c1 => ?_) (fun c1 => ?_)
 ·skip
  refine W.seq ?_
  refine W.region ?_
  refine S.pure tOk zOk rfl rfl rfl ?_
  refine S.store tOk rfl rfl rfl rfl rfl rfl rfl rfl ?_
  refine S.pure tOk zOk rfl rfl rfl ?_
  refine thenK_n ?_
  refine W.ret ?_
  refine thenK_r ?_
  exact ⟨_, rfl, rfl, LeV.of_force rfl (congrArg (fun x : Rul × Int => V.tup [V.agg [.d (.int .i64 x.1.kd), .d (.str x.1.k), .d (.str x.1.tu), .d (.str x.1.old), .d (.str x.1.nu)], V.one (C.d (D.int .i64 x.2))]) ((if_pos c1) : parR s = _)).symm⟩
 ·skip
  have hs4 : s.length ≤ 4000 := by simp at c1; omega
  refine W.skip ?_
  refine thenK_n ?_
  refine W.seq ?_
  refine W.region ?_
  refine S.pure tOk zOk rfl rfl rfl ?_
  refine S.call rfl rfl rfl rfl rfl (pc_Cut s [32] (by omega)) ?_
  refine S.pure tOk zOk rfl rfl rfl ?_
  refine S.pure tOk zOk rfl rfl rfl ?_
  refine S.pure tOk zOk rfl rfl rfl ?_
  refine S.pure tOk zOk rfl rfl rfl ?_
  refine S.pure tOk zOk rfl rfl rfl ?_
  refine S.pure tOk zOk rfl rfl rfl ?_
  refine S.pure tOk zOk rfl rfl rfl ?_
  refine thenK_n ?_
  refine W.seq ?_
  refine W.region ?_
  refine S.call rfl rfl rfl rfl rfl (pc_migrate_ruleWords) ?_
  refine S.pure tOk zOk rfl rfl rfl ?_
  refine S.call rfl rfl rfl rfl rfl (pc_IndexS ruleWs (Lib.cut s [32]).1 (by decide)) ?_
  refine S.pure tOk zOk rfl rfl rfl ?_
  refine S.alloc tOk rfl rfl rfl rfl ?_
  refine S.store tOk rfl rfl rfl rfl rfl rfl rfl rfl ?_
  refine thenK_n ?_
  refine W.seq ?_
  refine W.seq ?_
  refine W.region ?_
  refine S.pure tOk zOk rfl rfl rfl ?_
  refine S.pure tOk zOk rfl rfl rfl ?_
  refine S.pure tOk zOk rfl rfl rfl ?_
  refine S.pureG tOk zOk rfl rfl tg (fun _ => rfl) rfl ?_
  refine S.pureG tOk zOk rfl rfl tg (fun _ => rfl) rfl ?_
  refine S.pureG tOk zOk rfl rfl tg (fun _ => rfl) rfl ?_
  refine S.pickOr tOk zOk rfl rfl tg ?_
  refine thenK_n ?_
  refine W.cond rfl (fun c2 => ?_) (fun c2 => ?_)
  ·skip
   refine W.seq ?_
   refine W.region ?_
   refine S.pure tOk zOk rfl rfl rfl ?_
   refine S.store tOk rfl rfl rfl rfl rfl rfl rfl rfl ?_
   refine S.pure tOk zOk rfl rfl rfl ?_
   refine thenK_n ?_
   refine W.ret ?_
   refine thenK_r ?_
   exact ⟨_, rfl, rfl, LeV.of_force rfl (congrArg (fun x : Rul × Int => V.tup [V.agg [.d (.int .i64 x.1.kd), .d (.str x.1.k), .d (.str x.1.tu), .d (.str x.1.old), .d (.str x.1.nu)], V.one (C.d (D.int .i64 x.2))]) (((if_neg (Bool.eq_false_iff.1 c1)).trans (if_pos c2)) : parR s = _)).symm⟩
  ·skip
   refine W.skip ?_
   refine thenK_n ?_
   refine W.seq ?_
   refine W.region ?_
   refine S.pure tOk zOk rfl rfl rfl ?_
   refine S.pure tOk zOk rfl rfl rfl ?_
   refine S.call rfl rfl rfl rfl rfl (pc_uses (idxOf (fun y => (Lib.cut s [32]).1 == y) ruleWs)) ?_
   refine S.pure tOk zOk rfl rfl rfl ?_
   refine S.pure tOk zOk rfl rfl rfl ?_
   refine S.pure tOk zOk rfl rfl rfl ?_
   refine S.pure tOk zOk rfl rfl rfl ?_
   refine S.pure tOk zOk rfl rfl rfl ?_
   refine S.pure tOk zOk rfl rfl rfl ?_
   refine S.pure tOk zOk rfl rfl rfl ?_
   refine thenK_n ?_
   refine W.seq ?_
   refine W.region ?_
   refine S.pure tOk zOk rfl rfl rfl ?_
   refine thenK_n ?_
   refine W.seq ?_
   refine W.region ?_
   refine S.pure tOk zOk rfl rfl rfl ?_
   refine S.call rfl rfl rfl rfl rfl (pc_Cut (Lib.cut s [32]).2.1 [32] (by omega)) ?_
   refine S.pure tOk zOk rfl rfl rfl ?_
   refine S.pure tOk zOk rfl rfl rfl ?_
   refine S.pure tOk zOk rfl rfl rfl ?_
   refine S.pure tOk zOk rfl rfl rfl ?_
   refine S.pure tOk zOk rfl rfl rfl ?_
   refine S.store tOk rfl rfl rfl rfl rfl rfl rfl rfl ?_
   refine S.pure tOk zOk rfl rfl rfl ?_
   refine S.pure tOk zOk rfl rfl rfl ?_
   refine thenK_n ?_
   refine W.seq ?_
   refine W.seq ?_
   refine W.region ?_
   refine S.pure tOk zOk rfl rfl rfl ?_
   refine S.pure tOk zOk rfl rfl rfl ?_
   refine S.pure tOk zOk rfl rfl rfl ?_
   refine S.pure tOk zOk rfl rfl rfl ?_
   refine S.pureG tOk zOk rfl rfl tg (fun _ => rfl) rfl ?_
   refine S.pureG tOk zOk rfl rfl tg (fun _ => rfl) rfl ?_
   refine S.pureG tOk zOk rfl rfl tg (fun _ => rfl) rfl ?_
   refine S.pureG tOk zOk rfl rfl tg (fun _ => rfl) rfl ?_
   refine S.pickOrG tOk zOk rfl rfl rfl tg tg ?_
   refine S.pureG tOk zOk rfl rfl tg (fun _ => rfl) rfl ?_
   refine S.pureG tOk zOk rfl rfl tg (fun _ => rfl) rfl ?_
   refine S.pickOrG tOk zOk rfl rfl rfl tg tg ?_
   refine S.pureG tOk zOk rfl rfl tg (fun _ => rfl) rfl ?_
   refine S.pickOr tOk zOk rfl rfl tg ?_
   refine thenK_n ?_
   refine W.cond rfl (fun c3 => ?_) (fun c3 => ?_)
   ·skip
    refine W.seq ?_
    refine W.region ?_
    refine S.pure tOk zOk rfl rfl rfl ?_
    refine S.store tOk rfl rfl rfl rfl rfl rfl rfl rfl ?_
    refine S.pure tOk zOk rfl rfl rfl ?_
    refine thenK_n ?_
    refine W.ret ?_
    refine thenK_r ?_
    exact ⟨_, rfl, rfl, LeV.of_force rfl (congrArg (fun x : Rul × Int => V.tup [V.agg [.d (.int .i64 x.1.kd), .d (.str x.1.k), .d (.str x.1.tu), .d (.str x.1.old), .d (.str x.1.nu)], V.one (C.d (D.int .i64 x.2))]) (((if_neg (Bool.eq_false_iff.1 c1)).trans ((if_neg (Bool.eq_false_iff.1 c2)).trans (if_pos c3))) : parR s = _)).symm⟩
   ·skip
    refine W.skip ?_
    refine thenK_n ?_
    refine W.seq ?_
    refine W.seq ?_
    refine W.region ?_
    refine S.pure tOk zOk rfl rfl rfl ?_
    refine thenK_n ?_
    refine W.cond rfl (fun c4 => ?_) (fun c4 => ?_)
    ·skip
     refine W.seq ?_
     refine W.region ?_
     refine S.pure tOk zOk rfl rfl rfl ?_
     refine S.pure tOk zOk rfl rfl rfl ?_
     refine S.store tOk rfl rfl rfl rfl rfl rfl rfl rfl ?_
     refine S.pure tOk zOk rfl rfl rfl ?_
     refine thenK_n ?_
     refine W.seq ?_
     refine W.region ?_
     refine S.pure tOk zOk rfl rfl rfl ?_
     refine S.pure tOk zOk rfl rfl rfl ?_
     refine S.pure tOk zOk rfl rfl rfl ?_
     refine S.pure tOk zOk rfl rfl rfl ?_
     refine S.pureG tOk zOk rfl rfl tg (fun _ => rfl) rfl ?_
     refine S.pureG tOk zOk rfl rfl tg (fun _ => rfl) rfl ?_
     refine S.callG rfl rfl rfl rfl tg rfl rfl (fun _ => pc_Contains (Lib.cut (Lib.cut s [32]).2.1 [32]).2.1 [32] (by omega)) ?_
     refine S.pickOr tOk zOk rfl rfl tg ?_
     refine thenK_n ?_
     refine W.cond rfl (fun c5 => ?_) (fun c5 => ?_)
     ·skip
      refine W.seq ?_
      refine W.region ?_
      refine S.pure tOk zOk rfl rfl rfl ?_
      refine S.store tOk rfl rfl rfl rfl rfl rfl rfl rfl ?_
      refine S.pure tOk zOk rfl rfl rfl ?_
      refine thenK_n ?_
      refine W.ret ?_
      refine thenK_r ?_
      exact ⟨_, rfl, rfl, LeV.of_force rfl (congrArg (fun x : Rul × Int => V.tup [V.agg [.d (.int .i64 x.1.kd), .d (.str x.1.k), .d (.str x.1.tu), .d (.str x.1.old), .d (.str x.1.nu)], V.one (C.d (D.int .i64 x.2))]) (((if_neg (Bool.eq_false_iff.1 c1)).trans ((if_neg (Bool.eq_false_iff.1 c2)).trans ((if_neg (Bool.eq_false_iff.1 c3)).trans ((if_pos c4).trans (if_pos c5))))) : parR s = _)).symm⟩
     ·skip
      refine W.skip ?_
      refine thenK_n ?_
      refine W.seq ?_
      refine W.seq ?_
      refine W.region ?_
      refine S.pure tOk zOk rfl rfl rfl ?_
      refine thenK_n ?_
      refine W.cond rfl (fun c6 => ?_) (fun c6 => ?_)
      ·skip
       refine W.seq ?_
       refine W.seq ?_
       refine W.region ?_
       refine S.pure tOk zOk rfl rfl rfl ?_
       refine S.call rfl rfl rfl rfl rfl (pc_mquoted _ (by (try dsimp only); repeat first | omega | exact Nat.le_trans hc2.1 (by omega) | exact Nat.le_trans hc2.2 (by omega) | exact Nat.zero_le _ | apply quo_b | apply quo_r | apply drop_b)) ?_
       refine S.pure tOk zOk rfl rfl rfl ?_
       refine S.pure tOk zOk rfl rfl rfl ?_
       refine S.pure tOk zOk rfl rfl rfl ?_
       refine S.pure tOk zOk rfl rfl rfl ?_
       refine S.pure tOk zOk rfl rfl rfl ?_
       refine S.store tOk rfl rfl rfl rfl rfl rfl rfl rfl ?_
       refine S.pure tOk zOk rfl rfl rfl ?_
       refine S.pure tOk zOk rfl rfl rfl ?_
       refine thenK_n ?_
       refine W.seq ?_
       refine W.region ?_
       refine S.pure tOk zOk rfl rfl rfl ?_
       refine S.pure tOk zOk rfl rfl rfl ?_
       refine S.pure tOk zOk rfl rfl rfl ?_
       refine S.pureG tOk zOk rfl rfl tg (fun _ => rfl) rfl ?_
       refine S.callG rfl rfl rfl rfl tg rfl rfl (fun _ => pc_HasPrefix _ [32]) ?_
       refine S.pureG tOk zOk rfl rfl tg (fun _ => rfl) rfl ?_
       refine S.pickOr tOk zOk rfl rfl tg ?_
       refine thenK_n ?_
       refine W.cond rfl (fun c7 => ?_) (fun c7 => ?_)
       ·skip
        refine W.seq ?_
        refine W.region ?_
        refine S.pure tOk zOk rfl rfl rfl ?_
        refine S.store tOk rfl rfl rfl rfl rfl rfl rfl rfl ?_
        refine S.pure tOk zOk rfl rfl rfl ?_
        refine thenK_n ?_
        refine W.ret ?_
        refine thenK_r ?_
        refine thenK_r ?_
        exact ⟨_, rfl, rfl, LeV.of_force rfl (congrArg (fun x : Rul × Int => V.tup [V.agg [.d (.int .i64 x.1.kd), .d (.str x.1.k), .d (.str x.1.tu), .d (.str x.1.old), .d (.str x.1.nu)], V.one (C.d (D.int .i64 x.2))]) (((if_neg (Bool.eq_false_iff.1 c1)).trans ((if_neg (Bool.eq_false_iff.1 c2)).trans ((if_neg (Bool.eq_false_iff.1 c3)).trans ((if_pos c4).trans ((if_neg (Bool.eq_false_iff.1 c5)).trans ((if_pos c6).trans (if_pos c7))))))) : parR s = _)).symm⟩
       ·skip
        have hpl := pre_len (by first | assumption)
        refine W.skip ?_
        refine thenK_n ?_
        refine W.region ?_
        refine S.pure tOk zOk rfl rfl rfl ?_
        refine S.pureE tOk zOk rfl (sl_ok (by omega) (by omega) (by omega)) (sl_drop1 _) rfl ?_
        refine S.pure tOk zOk rfl rfl rfl ?_
        refine thenK_n ?_
        refine W.seq ?_
        refine W.seq ?_
        refine W.region ?_
        refine S.pure tOk zOk rfl rfl rfl ?_
        refine thenK_n ?_
        refine W.cond rfl (fun c8 => ?_) (fun c8 => ?_)
        ·skip
         refine W.seq ?_
         refine W.region ?_
         refine S.pure tOk zOk rfl rfl rfl ?_
         refine S.call rfl rfl rfl rfl rfl (pc_mquoted _ (by (try dsimp only); repeat first | omega | exact Nat.le_trans hc2.1 (by omega) | exact Nat.le_trans hc2.2 (by omega) | exact Nat.zero_le _ | apply quo_b | apply quo_r | apply drop_b)) ?_
         refine S.pure tOk zOk rfl rfl rfl ?_
         refine S.pure tOk zOk rfl rfl rfl ?_
         refine S.pure tOk zOk rfl rfl rfl ?_
         refine S.pure tOk zOk rfl rfl rfl ?_
         refine S.pure tOk zOk rfl rfl rfl ?_
         refine S.store tOk rfl rfl rfl rfl rfl rfl rfl rfl ?_
         refine S.pure tOk zOk rfl rfl rfl ?_
         refine S.pure tOk zOk rfl rfl rfl ?_
         refine thenK_n ?_
         refine W.seq ?_
         refine W.region ?_
         refine S.pure tOk zOk rfl rfl rfl ?_
         refine S.pure tOk zOk rfl rfl rfl ?_
         refine thenK_n ?_
         refine W.cond rfl (fun c9 => ?_) (fun c9 => ?_)
         ·skip
          refine W.seq ?_
          refine W.region ?_
          refine S.pure tOk zOk rfl rfl rfl ?_
          refine S.store tOk rfl rfl rfl rfl rfl rfl rfl rfl ?_
          refine S.pure tOk zOk rfl rfl rfl ?_
          refine thenK_n ?_
          refine W.ret ?_
          refine thenK_r ?_
          exact ⟨_, rfl, rfl, LeV.of_force rfl (congrArg (fun x : Rul × Int => V.tup [V.agg [.d (.int .i64 x.1.kd), .d (.str x.1.k), .d (.str x.1.tu), .d (.str x.1.old), .d (.str x.1.nu)], V.one (C.d (D.int .i64 x.2))]) (((if_neg (Bool.eq_false_iff.1 c1)).trans ((if_neg (Bool.eq_false_iff.1 c2)).trans ((if_neg (Bool.eq_false_iff.1 c3)).trans ((if_pos c4).trans ((if_neg (Bool.eq_false_iff.1 c5)).trans ((if_pos c6).trans ((if_neg (Bool.eq_false_iff.1 c7)).trans ((if_pos c8).trans (if_pos c9))))))))) : parR s = _)).symm⟩
         ·skip
          refine W.skip ?_
          refine thenK_n ?_
          refine W.seq ?_
          refine W.seq ?_
          refine W.region ?_
          refine S.pure tOk zOk rfl rfl rfl ?_
          refine S.pure tOk zOk rfl rfl rfl ?_
          refine thenK_n ?_
          refine W.cond rfl (fun c10 => ?_) (fun c10 => ?_)
          ·skip
           refine W.seq ?_
           refine W.region ?_
           refine S.pure tOk zOk rfl rfl rfl ?_
           refine S.store tOk rfl rfl rfl rfl rfl rfl rfl rfl ?_
           refine S.pure tOk zOk rfl rfl rfl ?_
           refine thenK_n ?_
           refine W.ret ?_
           refine thenK_r ?_
           exact ⟨_, rfl, rfl, LeV.of_force rfl (congrArg (fun x : Rul × Int => V.tup [V.agg [.d (.int .i64 x.1.kd), .d (.str x.1.k), .d (.str x.1.tu), .d (.str x.1.old), .d (.str x.1.nu)], V.one (C.d (D.int .i64 x.2))]) (((if_neg (Bool.eq_false_iff.1 c1)).trans ((if_neg (Bool.eq_false_iff.1 c2)).trans ((if_neg (Bool.eq_false_iff.1 c3)).trans ((if_pos c4).trans ((if_neg (Bool.eq_false_iff.1 c5)).trans ((if_pos c6).trans ((if_neg (Bool.eq_false_iff.1 c7)).trans ((if_pos c8).trans ((if_neg (Bool.eq_false_iff.1 c9)).trans (if_pos c10)))))))))) : parR s = _)).symm⟩
          ·skip
           refine W.skip ?_
           refine thenK_n ?_
           refine W.seq ?_
           refine W.seq ?_
           refine W.region ?_
           refine S.pure tOk zOk rfl rfl rfl ?_
           refine S.call rfl rfl rfl rfl rfl (pc_CheckRule ⟨_, _, _, _, _⟩ ⟨by (try dsimp only); repeat first | omega | exact Nat.le_trans hc2.1 (by omega) | exact Nat.le_trans hc2.2 (by omega) | exact Nat.zero_le _ | apply quo_b | apply quo_r | apply drop_b, by (try dsimp only); repeat first | omega | exact Nat.le_trans hc2.1 (by omega) | exact Nat.le_trans hc2.2 (by omega) | exact Nat.zero_le _ | apply quo_b | apply quo_r | apply drop_b, by (try dsimp only); repeat first | omega | exact Nat.le_trans hc2.1 (by omega) | exact Nat.le_trans hc2.2 (by omega) | exact Nat.zero_le _ | apply quo_b | apply quo_r | apply drop_b, by (try dsimp only); repeat first | omega | exact Nat.le_trans hc2.1 (by omega) | exact Nat.le_trans hc2.2 (by omega) | exact Nat.zero_le _ | apply quo_b | apply quo_r | apply drop_b⟩) ?_
           refine S.pure tOk zOk rfl rfl rfl ?_
           refine thenK_n ?_
           refine W.seq ?_
           refine W.region ?_
           refine S.pure tOk zOk rfl rfl rfl ?_
           refine S.pure tOk zOk rfl rfl rfl ?_
           refine thenK_n ?_
           refine W.cond rfl (fun c11 => ?_) (fun c11 => ?_)
           ·skip
            refine W.seq ?_
            refine W.region ?_
            refine S.pure tOk zOk rfl rfl rfl ?_
            refine S.pure tOk zOk rfl rfl rfl ?_
            refine S.store tOk rfl rfl rfl rfl rfl rfl rfl rfl ?_
            refine S.pure tOk zOk rfl rfl rfl ?_
            refine thenK_n ?_
            refine W.ret ?_
            refine thenK_r ?_
            exact ⟨_, rfl, rfl, LeV.of_force rfl (congrArg (fun x : Rul × Int => V.tup [V.agg [.d (.int .i64 x.1.kd), .d (.str x.1.k), .d (.str x.1.tu), .d (.str x.1.old), .d (.str x.1.nu)], V.one (C.d (D.int .i64 x.2))]) (((if_neg (Bool.eq_false_iff.1 c1)).trans ((if_neg (Bool.eq_false_iff.1 c2)).trans ((if_neg (Bool.eq_false_iff.1 c3)).trans ((if_pos c4).trans ((if_neg (Bool.eq_false_iff.1 c5)).trans ((if_pos c6).trans ((if_neg (Bool.eq_false_iff.1 c7)).trans ((if_pos c8).trans ((if_neg (Bool.eq_false_iff.1 c9)).trans ((if_neg (Bool.eq_false_iff.1 c10)).trans (if_pos c11))))))))))) : parR s = _)).symm⟩
           ·skip
            refine W.skip ?_
            refine thenK_n ?_
            refine W.seq ?_
            refine W.region ?_
            refine S.pure tOk zOk rfl rfl rfl ?_
            refine S.store tOk rfl rfl rfl rfl rfl rfl rfl rfl ?_
            refine S.pure tOk zOk rfl rfl rfl ?_
            refine thenK_n ?_
            refine W.ret ?_
            exact ⟨_, rfl, rfl, LeV.of_force rfl (congrArg (fun x : Rul × Int => V.tup [V.agg [.d (.int .i64 x.1.kd), .d (.str x.1.k), .d (.str x.1.tu), .d (.str x.1.old), .d (.str x.1.nu)], V.one (C.d (D.int .i64 x.2))]) (((if_neg (Bool.eq_false_iff.1 c1)).trans ((if_neg (Bool.eq_false_iff.1 c2)).trans ((if_neg (Bool.eq_false_iff.1 c3)).trans ((if_pos c4).trans ((if_neg (Bool.eq_false_iff.1 c5)).trans ((if_pos c6).trans ((if_neg (Bool.eq_false_iff.1 c7)).trans ((if_pos c8).trans ((if_neg (Bool.eq_false_iff.1 c9)).trans ((if_neg (Bool.eq_false_iff.1 c10)).trans (if_neg (Bool.eq_false_iff.1 c11)))))))))))) : parR s = _)).symm⟩
        ·skip
         refine W.skip ?_
         refine thenK_n ?_
         refine W.seq ?_
         refine W.seq ?_
         refine W.region ?_
         refine S.pure tOk zOk rfl rfl rfl ?_
         refine S.pure tOk zOk rfl rfl rfl ?_
         refine thenK_n ?_
         refine W.cond rfl (fun c12 => ?_) (fun c12 => ?_)
         ·skip
          refine W.seq ?_
          refine W.region ?_
          refine S.pure tOk zOk rfl rfl rfl ?_
          refine S.store tOk rfl rfl rfl rfl rfl rfl rfl rfl ?_
          refine S.pure tOk zOk rfl rfl rfl ?_
          refine thenK_n ?_
          refine W.ret ?_
          refine thenK_r ?_
          exact ⟨_, rfl, rfl, LeV.of_force rfl (congrArg (fun x : Rul × Int => V.tup [V.agg [.d (.int .i64 x.1.kd), .d (.str x.1.k), .d (.str x.1.tu), .d (.str x.1.old), .d (.str x.1.nu)], V.one (C.d (D.int .i64 x.2))]) (((if_neg (Bool.eq_false_iff.1 c1)).trans ((if_neg (Bool.eq_false_iff.1 c2)).trans ((if_neg (Bool.eq_false_iff.1 c3)).trans ((if_pos c4).trans ((if_neg (Bool.eq_false_iff.1 c5)).trans ((if_pos c6).trans ((if_neg (Bool.eq_false_iff.1 c7)).trans ((if_neg (Bool.eq_false_iff.1 c8)).trans (if_pos c12))))))))) : parR s = _)).symm⟩
         ·skip
          refine W.skip ?_
          refine thenK_n ?_
          refine W.seq ?_
          refine W.seq ?_
          refine W.region ?_
          refine S.pure tOk zOk rfl rfl rfl ?_
          refine S.call rfl rfl rfl rfl rfl (pc_CheckRule ⟨_, _, _, _, _⟩ ⟨by (try dsimp only); repeat first | omega | exact Nat.le_trans hc2.1 (by omega) | exact Nat.le_trans hc2.2 (by omega) | exact Nat.zero_le _ | apply quo_b | apply quo_r | apply drop_b, by (try dsimp only); repeat first | omega | exact Nat.le_trans hc2.1 (by omega) | exact Nat.le_trans hc2.2 (by omega) | exact Nat.zero_le _ | apply quo_b | apply quo_r | apply drop_b, by (try dsimp only); repeat first | omega | exact Nat.le_trans hc2.1 (by omega) | exact Nat.le_trans hc2.2 (by omega) | exact Nat.zero_le _ | apply quo_b | apply quo_r | apply drop_b, by (try dsimp only); repeat first | omega | exact Nat.le_trans hc2.1 (by omega) | exact Nat.le_trans hc2.2 (by omega) | exact Nat.zero_le _ | apply quo_b | apply quo_r | apply drop_b⟩) ?_
          refine S.pure tOk zOk rfl rfl rfl ?_
          refine thenK_n ?_
          refine W.seq ?_
          refine W.region ?_
          refine S.pure tOk zOk rfl rfl rfl ?_
          refine S.pure tOk zOk rfl rfl rfl ?_
          refine thenK_n ?_
          refine W.cond rfl (fun c13 => ?_) (fun c13 => ?_)
          ·skip
           refine W.seq ?_
           refine W.region ?_
           refine S.pure tOk zOk rfl rfl rfl ?_
           refine S.pure tOk zOk rfl rfl rfl ?_
           refine S.store tOk rfl rfl rfl rfl rfl rfl rfl rfl ?_
           refine S.pure tOk zOk rfl rfl rfl ?_
           refine thenK_n ?_
           refine W.ret ?_
           refine thenK_r ?_
           exact ⟨_, rfl, rfl, LeV.of_force rfl (congrArg (fun x : Rul × Int => V.tup [V.agg [.d (.int .i64 x.1.kd), .d (.str x.1.k), .d (.str x.1.tu), .d (.str x.1.old), .d (.str x.1.nu)], V.one (C.d (D.int .i64 x.2))]) (((if_neg (Bool.eq_false_iff.1 c1)).trans ((if_neg (Bool.eq_false_iff.1 c2)).trans ((if_neg (Bool.eq_false_iff.1 c3)).trans ((if_pos c4).trans ((if_neg (Bool.eq_false_iff.1 c5)).trans ((if_pos c6).trans ((if_neg (Bool.eq_false_iff.1 c7)).trans ((if_neg (Bool.eq_false_iff.1 c8)).trans ((if_neg (Bool.eq_false_iff.1 c12)).trans (if_pos c13)))))))))) : parR s = _)).symm⟩
          ·skip
           refine W.skip ?_
           refine thenK_n ?_
           refine W.seq ?_
           refine W.region ?_
           refine S.pure tOk zOk rfl rfl rfl ?_
           refine S.store tOk rfl rfl rfl rfl rfl rfl rfl rfl ?_
           refine S.pure tOk zOk rfl rfl rfl ?_
           refine thenK_n ?_
           refine W.ret ?_
           exact ⟨_, rfl, rfl, LeV.of_force rfl (congrArg (fun x : Rul × Int => V.tup [V.agg [.d (.int .i64 x.1.kd), .d (.str x.1.k), .d (.str x.1.tu), .d (.str x.1.old), .d (.str x.1.nu)], V.one (C.d (D.int .i64 x.2))]) (((if_neg (Bool.eq_false_iff.1 c1)).trans ((if_neg (Bool.eq_false_iff.1 c2)).trans ((if_neg (Bool.eq_false_iff.1 c3)).trans ((if_pos c4).trans ((if_neg (Bool.eq_false_iff.1 c5)).trans ((if_pos c6).trans ((if_neg (Bool.eq_false_iff.1 c7)).trans ((if_neg (Bool.eq_false_iff.1 c8)).trans ((if_neg (Bool.eq_false_iff.1 c12)).trans (if_neg (Bool.eq_false_iff.1 c13))))))))))) : parR s = _)).symm⟩
      ·skip
       refine W.skip ?_
       refine thenK_n ?_
       refine W.seq ?_
       refine W.seq ?_
       refine W.region ?_
       refine S.pure tOk zOk rfl rfl rfl ?_
       refine thenK_n ?_
       refine W.cond rfl (fun c14 => ?_) (fun c14 => ?_)
       ·skip
        refine W.seq ?_
        refine W.region ?_
        refine S.pure tOk zOk rfl rfl rfl ?_
        refine S.call rfl rfl rfl rfl rfl (pc_mquoted _ (by (try dsimp only); repeat first | omega | exact Nat.le_trans hc2.1 (by omega) | exact Nat.le_trans hc2.2 (by omega) | exact Nat.zero_le _ | apply quo_b | apply quo_r | apply drop_b)) ?_
        refine S.pure tOk zOk rfl rfl rfl ?_
        refine S.pure tOk zOk rfl rfl rfl ?_
        refine S.pure tOk zOk rfl rfl rfl ?_
        refine S.pure tOk zOk rfl rfl rfl ?_
        refine S.pure tOk zOk rfl rfl rfl ?_
        refine S.store tOk rfl rfl rfl rfl rfl rfl rfl rfl ?_
        refine S.pure tOk zOk rfl rfl rfl ?_
        refine S.pure tOk zOk rfl rfl rfl ?_
        refine thenK_n ?_
        refine W.seq ?_
        refine W.region ?_
        refine S.pure tOk zOk rfl rfl rfl ?_
        refine S.pure tOk zOk rfl rfl rfl ?_
        refine thenK_n ?_
        refine W.cond rfl (fun c15 => ?_) (fun c15 => ?_)
        ·skip
         refine W.seq ?_
         refine W.region ?_
         refine S.pure tOk zOk rfl rfl rfl ?_
         refine S.store tOk rfl rfl rfl rfl rfl rfl rfl rfl ?_
         refine S.pure tOk zOk rfl rfl rfl ?_
         refine thenK_n ?_
         refine W.ret ?_
         refine thenK_r ?_
         exact ⟨_, rfl, rfl, LeV.of_force rfl (congrArg (fun x : Rul × Int => V.tup [V.agg [.d (.int .i64 x.1.kd), .d (.str x.1.k), .d (.str x.1.tu), .d (.str x.1.old), .d (.str x.1.nu)], V.one (C.d (D.int .i64 x.2))]) (((if_neg (Bool.eq_false_iff.1 c1)).trans ((if_neg (Bool.eq_false_iff.1 c2)).trans ((if_neg (Bool.eq_false_iff.1 c3)).trans ((if_pos c4).trans ((if_neg (Bool.eq_false_iff.1 c5)).trans ((if_neg (Bool.eq_false_iff.1 c6)).trans ((if_pos c14).trans (if_pos c15)))))))) : parR s = _)).symm⟩
        ·skip
         refine W.skip ?_
         refine thenK_n ?_
         refine W.seq ?_
         refine W.seq ?_
         refine W.region ?_
         refine S.pure tOk zOk rfl rfl rfl ?_
         refine S.pure tOk zOk rfl rfl rfl ?_
         refine thenK_n ?_
         refine W.cond rfl (fun c16 => ?_) (fun c16 => ?_)
         ·skip
          refine W.seq ?_
          refine W.region ?_
          refine S.pure tOk zOk rfl rfl rfl ?_
          refine S.store tOk rfl rfl rfl rfl rfl rfl rfl rfl ?_
          refine S.pure tOk zOk rfl rfl rfl ?_
          refine thenK_n ?_
          refine W.ret ?_
          refine thenK_r ?_
          exact ⟨_, rfl, rfl, LeV.of_force rfl (congrArg (fun x : Rul × Int => V.tup [V.agg [.d (.int .i64 x.1.kd), .d (.str x.1.k), .d (.str x.1.tu), .d (.str x.1.old), .d (.str x.1.nu)], V.one (C.d (D.int .i64 x.2))]) (((if_neg (Bool.eq_false_iff.1 c1)).trans ((if_neg (Bool.eq_false_iff.1 c2)).trans ((if_neg (Bool.eq_false_iff.1 c3)).trans ((if_pos c4).trans ((if_neg (Bool.eq_false_iff.1 c5)).trans ((if_neg (Bool.eq_false_iff.1 c6)).trans ((if_pos c14).trans ((if_neg (Bool.eq_false_iff.1 c15)).trans (if_pos c16))))))))) : parR s = _)).symm⟩
         ·skip
          refine W.skip ?_
          refine thenK_n ?_
          refine W.seq ?_
          refine W.seq ?_
          refine W.region ?_
          refine S.pure tOk zOk rfl rfl rfl ?_
          refine S.call rfl rfl rfl rfl rfl (pc_CheckRule ⟨_, _, _, _, _⟩ ⟨by (try dsimp only); repeat first | omega | exact Nat.le_trans hc2.1 (by omega) | exact Nat.le_trans hc2.2 (by omega) | exact Nat.zero_le _ | apply quo_b | apply quo_r | apply drop_b, by (try dsimp only); repeat first | omega | exact Nat.le_trans hc2.1 (by omega) | exact Nat.le_trans hc2.2 (by omega) | exact Nat.zero_le _ | apply quo_b | apply quo_r | apply drop_b, by (try dsimp only); repeat first | omega | exact Nat.le_trans hc2.1 (by omega) | exact Nat.le_trans hc2.2 (by omega) | exact Nat.zero_le _ | apply quo_b | apply quo_r | apply drop_b, by (try dsimp only); repeat first | omega | exact Nat.le_trans hc2.1 (by omega) | exact Nat.le_trans hc2.2 (by omega) | exact Nat.zero_le _ | apply quo_b | apply quo_r | apply drop_b⟩) ?_
          refine S.pure tOk zOk rfl rfl rfl ?_
          refine thenK_n ?_
          refine W.seq ?_
          refine W.region ?_
          refine S.pure tOk zOk rfl rfl rfl ?_
          refine S.pure tOk zOk rfl rfl rfl ?_
          refine thenK_n ?_
          refine W.cond rfl (fun c17 => ?_) (fun c17 => ?_)
          ·skip
           refine W.seq ?_
           refine W.region ?_
           refine S.pure tOk zOk rfl rfl rfl ?_
           refine S.pure tOk zOk rfl rfl rfl ?_
           refine S.store tOk rfl rfl rfl rfl rfl rfl rfl rfl ?_
           refine S.pure tOk zOk rfl rfl rfl ?_
           refine thenK_n ?_
           refine W.ret ?_
           refine thenK_r ?_
           exact ⟨_, rfl, rfl, LeV.of_force rfl (congrArg (fun x : Rul × Int => V.tup [V.agg [.d (.int .i64 x.1.kd), .d (.str x.1.k), .d (.str x.1.tu), .d (.str x.1.old), .d (.str x.1.nu)], V.one (C.d (D.int .i64 x.2))]) (((if_neg (Bool.eq_false_iff.1 c1)).trans ((if_neg (Bool.eq_false_iff.1 c2)).trans ((if_neg (Bool.eq_false_iff.1 c3)).trans ((if_pos c4).trans ((if_neg (Bool.eq_false_iff.1 c5)).trans ((if_neg (Bool.eq_false_iff.1 c6)).trans ((if_pos c14).trans ((if_neg (Bool.eq_false_iff.1 c15)).trans ((if_neg (Bool.eq_false_iff.1 c16)).trans (if_pos c17)))))))))) : parR s = _)).symm⟩
          ·skip
           refine W.skip ?_
           refine thenK_n ?_
           refine W.seq ?_
           refine W.region ?_
           refine S.pure tOk zOk rfl rfl rfl ?_
           refine S.store tOk rfl rfl rfl rfl rfl rfl rfl rfl ?_
           refine S.pure tOk zOk rfl rfl rfl ?_
           refine thenK_n ?_
           refine W.ret ?_
           exact ⟨_, rfl, rfl, LeV.of_force rfl (congrArg (fun x : Rul × Int => V.tup [V.agg [.d (.int .i64 x.1.kd), .d (.str x.1.k), .d (.str x.1.tu), .d (.str x.1.old), .d (.str x.1.nu)], V.one (C.d (D.int .i64 x.2))]) (((if_neg (Bool.eq_false_iff.1 c1)).trans ((if_neg (Bool.eq_false_iff.1 c2)).trans ((if_neg (Bool.eq_false_iff.1 c3)).trans ((if_pos c4).trans ((if_neg (Bool.eq_false_iff.1 c5)).trans ((if_neg (Bool.eq_false_iff.1 c6)).trans ((if_pos c14).trans ((if_neg (Bool.eq_false_iff.1 c15)).trans ((if_neg (Bool.eq_false_iff.1 c16)).trans (if_neg (Bool.eq_false_iff.1 c17))))))))))) : parR s = _)).symm⟩
       ·skip
        refine W.skip ?_
        refine thenK_n ?_
        refine W.seq ?_
        refine W.seq ?_
        refine W.region ?_
        refine S.pure tOk zOk rfl rfl rfl ?_
        refine S.pure tOk zOk rfl rfl rfl ?_
        refine thenK_n ?_
        refine W.cond rfl (fun c18 => ?_) (fun c18 => ?_)
        ·skip
         refine W.seq ?_
         refine W.region ?_
         refine S.pure tOk zOk rfl rfl rfl ?_
         refine S.store tOk rfl rfl rfl rfl rfl rfl rfl rfl ?_
         refine S.pure tOk zOk rfl rfl rfl ?_
         refine thenK_n ?_
         refine W.ret ?_
         refine thenK_r ?_
         exact ⟨_, rfl, rfl, LeV.of_force rfl (congrArg (fun x : Rul × Int => V.tup [V.agg [.d (.int .i64 x.1.kd), .d (.str x.1.k), .d (.str x.1.tu), .d (.str x.1.old), .d (.str x.1.nu)], V.one (C.d (D.int .i64 x.2))]) (((if_neg (Bool.eq_false_iff.1 c1)).trans ((if_neg (Bool.eq_false_iff.1 c2)).trans ((if_neg (Bool.eq_false_iff.1 c3)).trans ((if_pos c4).trans ((if_neg (Bool.eq_false_iff.1 c5)).trans ((if_neg (Bool.eq_false_iff.1 c6)).trans ((if_neg (Bool.eq_false_iff.1 c14)).trans (if_pos c18)))))))) : parR s = _)).symm⟩
        ·skip
         refine W.skip ?_
         refine thenK_n ?_
         refine W.seq ?_
         refine W.seq ?_
         refine W.region ?_
         refine S.pure tOk zOk rfl rfl rfl ?_
         refine S.call rfl rfl rfl rfl rfl (pc_CheckRule ⟨_, _, _, _, _⟩ ⟨by (try dsimp only); repeat first | omega | exact Nat.le_trans hc2.1 (by omega) | exact Nat.le_trans hc2.2 (by omega) | exact Nat.zero_le _ | apply quo_b | apply quo_r | apply drop_b, by (try dsimp only); repeat first | omega | exact Nat.le_trans hc2.1 (by omega) | exact Nat.le_trans hc2.2 (by omega) | exact Nat.zero_le _ | apply quo_b | apply quo_r | apply drop_b, by (try dsimp only); repeat first | omega | exact Nat.le_trans hc2.1 (by omega) | exact Nat.le_trans hc2.2 (by omega) | exact Nat.zero_le _ | apply quo_b | apply quo_r | apply drop_b, by (try dsimp only); repeat first | omega | exact Nat.le_trans hc2.1 (by omega) | exact Nat.le_trans hc2.2 (by omega) | exact Nat.zero_le _ | apply quo_b | apply quo_r | apply drop_b⟩) ?_
         refine S.pure tOk zOk rfl rfl rfl ?_
         refine thenK_n ?_
         refine W.seq ?_
         refine W.region ?_
         refine S.pure tOk zOk rfl rfl rfl ?_
         refine S.pure tOk zOk rfl rfl rfl ?_
         refine thenK_n ?_
         refine W.cond rfl (fun c19 => ?_) (fun c19 => ?_)
         ·skip
          refine W.seq ?_
          refine W.region ?_
          refine S.pure tOk zOk rfl rfl rfl ?_
          refine S.pure tOk zOk rfl rfl rfl ?_
          refine S.store tOk rfl rfl rfl rfl rfl rfl rfl rfl ?_
          refine S.pure tOk zOk rfl rfl rfl ?_
          refine thenK_n ?_
          refine W.ret ?_
          refine thenK_r ?_
          exact ⟨_, rfl, rfl, LeV.of_force rfl (congrArg (fun x : Rul × Int => V.tup [V.agg [.d (.int .i64 x.1.kd), .d (.str x.1.k), .d (.str x.1.tu), .d (.str x.1.old), .d (.str x.1.nu)], V.one (C.d (D.int .i64 x.2))]) (((if_neg (Bool.eq_false_iff.1 c1)).trans ((if_neg (Bool.eq_false_iff.1 c2)).trans ((if_neg (Bool.eq_false_iff.1 c3)).trans ((if_pos c4).trans ((if_neg (Bool.eq_false_iff.1 c5)).trans ((if_neg (Bool.eq_false_iff.1 c6)).trans ((if_neg (Bool.eq_false_iff.1 c14)).trans ((if_neg (Bool.eq_false_iff.1 c18)).trans (if_pos c19))))))))) : parR s = _)).symm⟩
         ·skip
          refine W.skip ?_
          refine thenK_n ?_
          refine W.seq ?_
          refine W.region ?_
          refine S.pure tOk zOk rfl rfl rfl ?_
          refine S.store tOk rfl rfl rfl rfl rfl rfl rfl rfl ?_
          refine S.pure tOk zOk rfl rfl rfl ?_
          refine thenK_n ?_
          refine W.ret ?_
          exact ⟨_, rfl, rfl, LeV.of_force rfl (congrArg (fun x : Rul × Int => V.tup [V.agg [.d (.int .i64 x.1.kd), .d (.str x.1.k), .d (.str x.1.tu), .d (.str x.1.old), .d (.str x.1.nu)], V.one (C.d (D.int .i64 x.2))]) (((if_neg (Bool.eq_false_iff.1 c1)).trans ((if_neg (Bool.eq_false_iff.1 c2)).trans ((if_neg (Bool.eq_false_iff.1 c3)).trans ((if_pos c4).trans ((if_neg (Bool.eq_false_iff.1 c5)).trans ((if_neg (Bool.eq_false_iff.1 c6)).trans ((if_neg (Bool.eq_false_iff.1 c14)).trans ((if_neg (Bool.eq_false_iff.1 c18)).trans (if_neg (Bool.eq_false_iff.1 c19)))))))))) : parR s = _)).symm⟩
    ·skip
     refine W.skip ?_
     refine thenK_n ?_
     refine W.seq ?_
     refine W.seq ?_
     refine W.region ?_
     refine S.pure tOk zOk rfl rfl rfl ?_
     refine thenK_n ?_
     refine W.cond rfl (fun c20 => ?_) (fun c20 => ?_)
     ·skip
      refine W.seq ?_
      refine W.seq ?_
      refine W.region ?_
      refine S.pure tOk zOk rfl rfl rfl ?_
      refine S.call rfl rfl rfl rfl rfl (pc_mquoted _ (by (try dsimp only); repeat first | omega | exact Nat.le_trans hc2.1 (by omega) | exact Nat.le_trans hc2.2 (by omega) | exact Nat.zero_le _ | apply quo_b | apply quo_r | apply drop_b)) ?_
      refine S.pure tOk zOk rfl rfl rfl ?_
      refine S.pure tOk zOk rfl rfl rfl ?_
      refine S.pure tOk zOk rfl rfl rfl ?_
      refine S.pure tOk zOk rfl rfl rfl ?_
      refine S.pure tOk zOk rfl rfl rfl ?_
      refine S.store tOk rfl rfl rfl rfl rfl rfl rfl rfl ?_
      refine S.pure tOk zOk rfl rfl rfl ?_
      refine S.pure tOk zOk rfl rfl rfl ?_
      refine thenK_n ?_
      refine W.seq ?_
      refine W.region ?_
      refine S.pure tOk zOk rfl rfl rfl ?_
      refine S.pure tOk zOk rfl rfl rfl ?_
      refine S.pure tOk zOk rfl rfl rfl ?_
      refine S.pureG tOk zOk rfl rfl tg (fun _ => rfl) rfl ?_
      refine S.callG rfl rfl rfl rfl tg rfl rfl (fun _ => pc_HasPrefix _ [32]) ?_
      refine S.pureG tOk zOk rfl rfl tg (fun _ => rfl) rfl ?_
      refine S.pickOr tOk zOk rfl rfl tg ?_
      refine thenK_n ?_
      refine W.cond rfl (fun c21 => ?_) (fun c21 => ?_)
      ·skip
       refine W.seq ?_
       refine W.region ?_
       refine S.pure tOk zOk rfl rfl rfl ?_
       refine S.store tOk rfl rfl rfl rfl rfl rfl rfl rfl ?_
       refine S.pure tOk zOk rfl rfl rfl ?_
       refine thenK_n ?_
       refine W.ret ?_
       refine thenK_r ?_
       refine thenK_r ?_
       exact ⟨_, rfl, rfl, LeV.of_force rfl (congrArg (fun x : Rul × Int => V.tup [V.agg [.d (.int .i64 x.1.kd), .d (.str x.1.k), .d (.str x.1.tu), .d (.str x.1.old), .d (.str x.1.nu)], V.one (C.d (D.int .i64 x.2))]) (((if_neg (Bool.eq_false_iff.1 c1)).trans ((if_neg (Bool.eq_false_iff.1 c2)).trans ((if_neg (Bool.eq_false_iff.1 c3)).trans ((if_neg (Bool.eq_false_iff.1 c4)).trans ((if_pos c20).trans (if_pos c21)))))) : parR s = _)).symm⟩
      ·skip
       have hpl := pre_len (by first | assumption)
       refine W.skip ?_
       refine thenK_n ?_
       refine W.region ?_
       refine S.pure tOk zOk rfl rfl rfl ?_
       refine S.pureE tOk zOk rfl (sl_ok (by omega) (by omega) (by omega)) (sl_drop1 _) rfl ?_
       refine S.pure tOk zOk rfl rfl rfl ?_
       refine thenK_n ?_
       refine W.seq ?_
       refine W.seq ?_
       refine W.region ?_
       refine S.pure tOk zOk rfl rfl rfl ?_
       refine thenK_n ?_
       refine W.cond rfl (fun c22 => ?_) (fun c22 => ?_)
       ·skip
        refine W.seq ?_
        refine W.region ?_
        refine S.pure tOk zOk rfl rfl rfl ?_
        refine S.call rfl rfl rfl rfl rfl (pc_mquoted _ (by (try dsimp only); repeat first | omega | exact Nat.le_trans hc2.1 (by omega) | exact Nat.le_trans hc2.2 (by omega) | exact Nat.zero_le _ | apply quo_b | apply quo_r | apply drop_b)) ?_
        refine S.pure tOk zOk rfl rfl rfl ?_
        refine S.pure tOk zOk rfl rfl rfl ?_
        refine S.pure tOk zOk rfl rfl rfl ?_
        refine S.pure tOk zOk rfl rfl rfl ?_
        refine S.pure tOk zOk rfl rfl rfl ?_
        refine S.store tOk rfl rfl rfl rfl rfl rfl rfl rfl ?_
        refine S.pure tOk zOk rfl rfl rfl ?_
        refine S.pure tOk zOk rfl rfl rfl ?_
        refine thenK_n ?_
        refine W.seq ?_
        refine W.region ?_
        refine S.pure tOk zOk rfl rfl rfl ?_
        refine S.pure tOk zOk rfl rfl rfl ?_
        refine thenK_n ?_
        refine W.cond rfl (fun c23 => ?_) (fun c23 => ?_)
        ·skip
         refine W.seq ?_
         refine W.region ?_
         refine S.pure tOk zOk rfl rfl rfl ?_
         refine S.store tOk rfl rfl rfl rfl rfl rfl rfl rfl ?_
         refine S.pure tOk zOk rfl rfl rfl ?_
         refine thenK_n ?_
         refine W.ret ?_
         refine thenK_r ?_
         exact ⟨_, rfl, rfl, LeV.of_force rfl (congrArg (fun x : Rul × Int => V.tup [V.agg [.d (.int .i64 x.1.kd), .d (.str x.1.k), .d (.str x.1.tu), .d (.str x.1.old), .d (.str x.1.nu)], V.one (C.d (D.int .i64 x.2))]) (((if_neg (Bool.eq_false_iff.1 c1)).trans ((if_neg (Bool.eq_false_iff.1 c2)).trans ((if_neg (Bool.eq_false_iff.1 c3)).trans ((if_neg (Bool.eq_false_iff.1 c4)).trans ((if_pos c20).trans ((if_neg (Bool.eq_false_iff.1 c21)).trans ((if_pos c22).trans (if_pos c23)))))))) : parR s = _)).symm⟩
        ·skip
         refine W.skip ?_
         refine thenK_n ?_
         refine W.seq ?_
         refine W.seq ?_
         refine W.region ?_
         refine S.pure tOk zOk rfl rfl rfl ?_
         refine S.pure tOk zOk rfl rfl rfl ?_
         refine thenK_n ?_
         refine W.cond rfl (fun c24 => ?_) (fun c24 => ?_)
         ·skip
          refine W.seq ?_
          refine W.region ?_
          refine S.pure tOk zOk rfl rfl rfl ?_
          refine S.store tOk rfl rfl rfl rfl rfl rfl rfl rfl ?_
          refine S.pure tOk zOk rfl rfl rfl ?_
          refine thenK_n ?_
          refine W.ret ?_
          refine thenK_r ?_
          exact ⟨_, rfl, rfl, LeV.of_force rfl (congrArg (fun x : Rul × Int => V.tup [V.agg [.d (.int .i64 x.1.kd), .d (.str x.1.k), .d (.str x.1.tu), .d (.str x.1.old), .d (.str x.1.nu)], V.one (C.d (D.int .i64 x.2))]) (((if_neg (Bool.eq_false_iff.1 c1)).trans ((if_neg (Bool.eq_false_iff.1 c2)).trans ((if_neg (Bool.eq_false_iff.1 c3)).trans ((if_neg (Bool.eq_false_iff.1 c4)).trans ((if_pos c20).trans ((if_neg (Bool.eq_false_iff.1 c21)).trans ((if_pos c22).trans ((if_neg (Bool.eq_false_iff.1 c23)).trans (if_pos c24))))))))) : parR s = _)).symm⟩
         ·skip
          refine W.skip ?_
          refine thenK_n ?_
          refine W.seq ?_
          refine W.seq ?_
          refine W.region ?_
          refine S.pure tOk zOk rfl rfl rfl ?_
          refine S.call rfl rfl rfl rfl rfl (pc_CheckRule ⟨_, _, _, _, _⟩ ⟨by (try dsimp only); repeat first | omega | exact Nat.le_trans hc2.1 (by omega) | exact Nat.le_trans hc2.2 (by omega) | exact Nat.zero_le _ | apply quo_b | apply quo_r | apply drop_b, by (try dsimp only); repeat first | omega | exact Nat.le_trans hc2.1 (by omega) | exact Nat.le_trans hc2.2 (by omega) | exact Nat.zero_le _ | apply quo_b | apply quo_r | apply drop_b, by (try dsimp only); repeat first | omega | exact Nat.le_trans hc2.1 (by omega) | exact Nat.le_trans hc2.2 (by omega) | exact Nat.zero_le _ | apply quo_b | apply quo_r | apply drop_b, by (try dsimp only); repeat first | omega | exact Nat.le_trans hc2.1 (by omega) | exact Nat.le_trans hc2.2 (by omega) | exact Nat.zero_le _ | apply quo_b | apply quo_r | apply drop_b⟩) ?_
          refine S.pure tOk zOk rfl rfl rfl ?_
          refine thenK_n ?_
          refine W.seq ?_
          refine W.region ?_
          refine S.pure tOk zOk rfl rfl rfl ?_
          refine S.pure tOk zOk rfl rfl rfl ?_
          refine thenK_n ?_
          refine W.cond rfl (fun c25 => ?_) (fun c25 => ?_)
          ·skip
           refine W.seq ?_
           refine W.region ?_
           refine S.pure tOk zOk rfl rfl rfl ?_
           refine S.pure tOk zOk rfl rfl rfl ?_
           refine S.store tOk rfl rfl rfl rfl rfl rfl rfl rfl ?_
           refine S.pure tOk zOk rfl rfl rfl ?_
           refine thenK_n ?_
           refine W.ret ?_
           refine thenK_r ?_
           exact ⟨_, rfl, rfl, LeV.of_force rfl (congrArg (fun x : Rul × Int => V.tup [V.agg [.d (.int .i64 x.1.kd), .d (.str x.1.k), .d (.str x.1.tu), .d (.str x.1.old), .d (.str x.1.nu)], V.one (C.d (D.int .i64 x.2))]) (((if_neg (Bool.eq_false_iff.1 c1)).trans ((if_neg (Bool.eq_false_iff.1 c2)).trans ((if_neg (Bool.eq_false_iff.1 c3)).trans ((if_neg (Bool.eq_false_iff.1 c4)).trans ((if_pos c20).trans ((if_neg (Bool.eq_false_iff.1 c21)).trans ((if_pos c22).trans ((if_neg (Bool.eq_false_iff.1 c23)).trans ((if_neg (Bool.eq_false_iff.1 c24)).trans (if_pos c25)))))))))) : parR s = _)).symm⟩
          ·skip
           refine W.skip ?_
           refine thenK_n ?_
           refine W.seq ?_
           refine W.region ?_
           refine S.pure tOk zOk rfl rfl rfl ?_
           refine S.store tOk rfl rfl rfl rfl rfl rfl rfl rfl ?_
           refine S.pure tOk zOk rfl rfl rfl ?_
           refine thenK_n ?_
           refine W.ret ?_
           exact ⟨_, rfl, rfl, LeV.of_force rfl (congrArg (fun x : Rul × Int => V.tup [V.agg [.d (.int .i64 x.1.kd), .d (.str x.1.k), .d (.str x.1.tu), .d (.str x.1.old), .d (.str x.1.nu)], V.one (C.d (D.int .i64 x.2))]) (((if_neg (Bool.eq_false_iff.1 c1)).trans ((if_neg (Bool.eq_false_iff.1 c2)).trans ((if_neg (Bool.eq_false_iff.1 c3)).trans ((if_neg (Bool.eq_false_iff.1 c4)).trans ((if_pos c20).trans ((if_neg (Bool.eq_false_iff.1 c21)).trans ((if_pos c22).trans ((if_neg (Bool.eq_false_iff.1 c23)).trans ((if_neg (Bool.eq_false_iff.1 c24)).trans (if_neg (Bool.eq_false_iff.1 c25))))))))))) : parR s = _)).symm⟩
       ·skip
        refine W.skip ?_
        refine thenK_n ?_
        refine W.seq ?_
        refine W.seq ?_
        refine W.region ?_
        refine S.pure tOk zOk rfl rfl rfl ?_
        refine S.pure tOk zOk rfl rfl rfl ?_
        refine thenK_n ?_
        refine W.cond rfl (fun c26 => ?_) (fun c26 => ?_)
        ·skip
         refine W.seq ?_
         refine W.region ?_
         refine S.pure tOk zOk rfl rfl rfl ?_
         refine S.store tOk rfl rfl rfl rfl rfl rfl rfl rfl ?_
         refine S.pure tOk zOk rfl rfl rfl ?_
         refine thenK_n ?_
         refine W.ret ?_
         refine thenK_r ?_
         exact ⟨_, rfl, rfl, LeV.of_force rfl (congrArg (fun x : Rul × Int => V.tup [V.agg [.d (.int .i64 x.1.kd), .d (.str x.1.k), .d (.str x.1.tu), .d (.str x.1.old), .d (.str x.1.nu)], V.one (C.d (D.int .i64 x.2))]) (((if_neg (Bool.eq_false_iff.1 c1)).trans ((if_neg (Bool.eq_false_iff.1 c2)).trans ((if_neg (Bool.eq_false_iff.1 c3)).trans ((if_neg (Bool.eq_false_iff.1 c4)).trans ((if_pos c20).trans ((if_neg (Bool.eq_false_iff.1 c21)).trans ((if_neg (Bool.eq_false_iff.1 c22)).trans (if_pos c26)))))))) : parR s = _)).symm⟩
        ·skip
         refine W.skip ?_
         refine thenK_n ?_
         refine W.seq ?_
         refine W.seq ?_
         refine W.region ?_
         refine S.pure tOk zOk rfl rfl rfl ?_
         refine S.call rfl rfl rfl rfl rfl (pc_CheckRule ⟨_, _, _, _, _⟩ ⟨by (try dsimp only); repeat first | omega | exact Nat.le_trans hc2.1 (by omega) | exact Nat.le_trans hc2.2 (by omega) | exact Nat.zero_le _ | apply quo_b | apply quo_r | apply drop_b, by (try dsimp only); repeat first | omega | exact Nat.le_trans hc2.1 (by omega) | exact Nat.le_trans hc2.2 (by omega) | exact Nat.zero_le _ | apply quo_b | apply quo_r | apply drop_b, by (try dsimp only); repeat first | omega | exact Nat.le_trans hc2.1 (by omega) | exact Nat.le_trans hc2.2 (by omega) | exact Nat.zero_le _ | apply quo_b | apply quo_r | apply drop_b, by (try dsimp only); repeat first | omega | exact Nat.le_trans hc2.1 (by omega) | exact Nat.le_trans hc2.2 (by omega) | exact Nat.zero_le _ | apply quo_b | apply quo_r | apply drop_b⟩) ?_
         refine S.pure tOk zOk rfl rfl rfl ?_
         refine thenK_n ?_
         refine W.seq ?_
         refine W.region ?_
         refine S.pure tOk zOk rfl rfl rfl ?_
         refine S.pure tOk zOk rfl rfl rfl ?_
         refine thenK_n ?_
         refine W.cond rfl (fun c27 => ?_) (fun c27 => ?_)
         ·skip
          refine W.seq ?_
          refine W.region ?_
          refine S.pure tOk zOk rfl rfl rfl ?_
          refine S.pure tOk zOk rfl rfl rfl ?_
          refine S.store tOk rfl rfl rfl rfl rfl rfl rfl rfl ?_
          refine S.pure tOk zOk rfl rfl rfl ?_
          refine thenK_n ?_
          refine W.ret ?_
          refine thenK_r ?_
          exact ⟨_, rfl, rfl, LeV.of_force rfl (congrArg (fun x : Rul × Int => V.tup [V.agg [.d (.int .i64 x.1.kd), .d (.str x.1.k), .d (.str x.1.tu), .d (.str x.1.old), .d (.str x.1.nu)], V.one (C.d (D.int .i64 x.2))]) (((if_neg (Bool.eq_false_iff.1 c1)).trans ((if_neg (Bool.eq_false_iff.1 c2)).trans ((if_neg (Bool.eq_false_iff.1 c3)).trans ((if_neg (Bool.eq_false_iff.1 c4)).trans ((if_pos c20).trans ((if_neg (Bool.eq_false_iff.1 c21)).trans ((if_neg (Bool.eq_false_iff.1 c22)).trans ((if_neg (Bool.eq_false_iff.1 c26)).trans (if_pos c27))))))))) : parR s = _)).symm⟩
         ·skip
          refine W.skip ?_
          refine thenK_n ?_
          refine W.seq ?_
          refine W.region ?_
          refine S.pure tOk zOk rfl rfl rfl ?_
          refine S.store tOk rfl rfl rfl rfl rfl rfl rfl rfl ?_
          refine S.pure tOk zOk rfl rfl rfl ?_
          refine thenK_n ?_
          refine W.ret ?_
          exact ⟨_, rfl, rfl, LeV.of_force rfl (congrArg (fun x : Rul × Int => V.tup [V.agg [.d (.int .i64 x.1.kd), .d (.str x.1.k), .d (.str x.1.tu), .d (.str x.1.old), .d (.str x.1.nu)], V.one (C.d (D.int .i64 x.2))]) (((if_neg (Bool.eq_false_iff.1 c1)).trans ((if_neg (Bool.eq_false_iff.1 c2)).trans ((if_neg (Bool.eq_false_iff.1 c3)).trans ((if_neg (Bool.eq_false_iff.1 c4)).trans ((if_pos c20).trans ((if_neg (Bool.eq_false_iff.1 c21)).trans ((if_neg (Bool.eq_false_iff.1 c22)).trans ((if_neg (Bool.eq_false_iff.1 c26)).trans (if_neg (Bool.eq_false_iff.1 c27)))))))))) : parR s = _)).symm⟩
     ·skip
      refine W.skip ?_
      refine thenK_n ?_
      refine W.seq ?_
      refine W.seq ?_
      refine W.region ?_
      refine S.pure tOk zOk rfl rfl rfl ?_
      refine thenK_n ?_
      refine W.cond rfl (fun c28 => ?_) (fun c28 => ?_)
      ·skip
       refine W.seq ?_
       refine W.region ?_
       refine S.pure tOk zOk rfl rfl rfl ?_
       refine S.call rfl rfl rfl rfl rfl (pc_mquoted _ (by (try dsimp only); repeat first | omega | exact Nat.le_trans hc2.1 (by omega) | exact Nat.le_trans hc2.2 (by omega) | exact Nat.zero_le _ | apply quo_b | apply quo_r | apply drop_b)) ?_
       refine S.pure tOk zOk rfl rfl rfl ?_
       refine S.pure tOk zOk rfl rfl rfl ?_
       refine S.pure tOk zOk rfl rfl rfl ?_
       refine S.pure tOk zOk rfl rfl rfl ?_
       refine S.pure tOk zOk rfl rfl rfl ?_
       refine S.store tOk rfl rfl rfl rfl rfl rfl rfl rfl ?_
       refine S.pure tOk zOk rfl rfl rfl ?_
       refine S.pure tOk zOk rfl rfl rfl ?_
       refine thenK_n ?_
       refine W.seq ?_
       refine W.region ?_
       refine S.pure tOk zOk rfl rfl rfl ?_
       refine S.pure tOk zOk rfl rfl rfl ?_
       refine thenK_n ?_
       refine W.cond rfl (fun c29 => ?_) (fun c29 => ?_)
       ·skip
        refine W.seq ?_
        refine W.region ?_
        refine S.pure tOk zOk rfl rfl rfl ?_
        refine S.store tOk rfl rfl rfl rfl rfl rfl rfl rfl ?_
        refine S.pure tOk zOk rfl rfl rfl ?_
        refine thenK_n ?_
        refine W.ret ?_
        refine thenK_r ?_
        exact ⟨_, rfl, rfl, LeV.of_force rfl (congrArg (fun x : Rul × Int => V.tup [V.agg [.d (.int .i64 x.1.kd), .d (.str x.1.k), .d (.str x.1.tu), .d (.str x.1.old), .d (.str x.1.nu)], V.one (C.d (D.int .i64 x.2))]) (((if_neg (Bool.eq_false_iff.1 c1)).trans ((if_neg (Bool.eq_false_iff.1 c2)).trans ((if_neg (Bool.eq_false_iff.1 c3)).trans ((if_neg (Bool.eq_false_iff.1 c4)).trans ((if_neg (Bool.eq_false_iff.1 c20)).trans ((if_pos c28).trans (if_pos c29))))))) : parR s = _)).symm⟩
       ·skip
        refine W.skip ?_
        refine thenK_n ?_
        refine W.seq ?_
        refine W.seq ?_
        refine W.region ?_
        refine S.pure tOk zOk rfl rfl rfl ?_
        refine S.pure tOk zOk rfl rfl rfl ?_
        refine thenK_n ?_
        refine W.cond rfl (fun c30 => ?_) (fun c30 => ?_)
        ·skip
         refine W.seq ?_
         refine W.region ?_
         refine S.pure tOk zOk rfl rfl rfl ?_
         refine S.store tOk rfl rfl rfl rfl rfl rfl rfl rfl ?_
         refine S.pure tOk zOk rfl rfl rfl ?_
         refine thenK_n ?_
         refine W.ret ?_
         refine thenK_r ?_
         exact ⟨_, rfl, rfl, LeV.of_force rfl (congrArg (fun x : Rul × Int => V.tup [V.agg [.d (.int .i64 x.1.kd), .d (.str x.1.k), .d (.str x.1.tu), .d (.str x.1.old), .d (.str x.1.nu)], V.one (C.d (D.int .i64 x.2))]) (((if_neg (Bool.eq_false_iff.1 c1)).trans ((if_neg (Bool.eq_false_iff.1 c2)).trans ((if_neg (Bool.eq_false_iff.1 c3)).trans ((if_neg (Bool.eq_false_iff.1 c4)).trans ((if_neg (Bool.eq_false_iff.1 c20)).trans ((if_pos c28).trans ((if_neg (Bool.eq_false_iff.1 c29)).trans (if_pos c30)))))))) : parR s = _)).symm⟩
        ·skip
         refine W.skip ?_
         refine thenK_n ?_
         refine W.seq ?_
         refine W.seq ?_
         refine W.region ?_
         refine S.pure tOk zOk rfl rfl rfl ?_
         refine S.call rfl rfl rfl rfl rfl (pc_CheckRule ⟨_, _, _, _, _⟩ ⟨by (try dsimp only); repeat first | omega | exact Nat.le_trans hc2.1 (by omega) | exact Nat.le_trans hc2.2 (by omega) | exact Nat.zero_le _ | apply quo_b | apply quo_r | apply drop_b, by (try dsimp only); repeat first | omega | exact Nat.le_trans hc2.1 (by omega) | exact Nat.le_trans hc2.2 (by omega) | exact Nat.zero_le _ | apply quo_b | apply quo_r | apply drop_b, by (try dsimp only); repeat first | omega | exact Nat.le_trans hc2.1 (by omega) | exact Nat.le_trans hc2.2 (by omega) | exact Nat.zero_le _ | apply quo_b | apply quo_r | apply drop_b, by (try dsimp only); repeat first | omega | exact Nat.le_trans hc2.1 (by omega) | exact Nat.le_trans hc2.2 (by omega) | exact Nat.zero_le _ | apply quo_b | apply quo_r | apply drop_b⟩) ?_
         refine S.pure tOk zOk rfl rfl rfl ?_
         refine thenK_n ?_
         refine W.seq ?_
         refine W.region ?_
         refine S.pure tOk zOk rfl rfl rfl ?_
         refine S.pure tOk zOk rfl rfl rfl ?_
         refine thenK_n ?_
         refine W.cond rfl (fun c31 => ?_) (fun c31 => ?_)
         ·skip
          refine W.seq ?_
          refine W.region ?_
          refine S.pure tOk zOk rfl rfl rfl ?_
          refine S.pure tOk zOk rfl rfl rfl ?_
          refine S.store tOk rfl rfl rfl rfl rfl rfl rfl rfl ?_
          refine S.pure tOk zOk rfl rfl rfl ?_
          refine thenK_n ?_
          refine W.ret ?_
          refine thenK_r ?_
          exact ⟨_, rfl, rfl, LeV.of_force rfl (congrArg (fun x : Rul × Int => V.tup [V.agg [.d (.int .i64 x.1.kd), .d (.str x.1.k), .d (.str x.1.tu), .d (.str x.1.old), .d (.str x.1.nu)], V.one (C.d (D.int .i64 x.2))]) (((if_neg (Bool.eq_false_iff.1 c1)).trans ((if_neg (Bool.eq_false_iff.1 c2)).trans ((if_neg (Bool.eq_false_iff.1 c3)).trans ((if_neg (Bool.eq_false_iff.1 c4)).trans ((if_neg (Bool.eq_false_iff.1 c20)).trans ((if_pos c28).trans ((if_neg (Bool.eq_false_iff.1 c29)).trans ((if_neg (Bool.eq_false_iff.1 c30)).trans (if_pos c31))))))))) : parR s = _)).symm⟩
         ·skip
          refine W.skip ?_
          refine thenK_n ?_
          refine W.seq ?_
          refine W.region ?_
          refine S.pure tOk zOk rfl rfl rfl ?_
          refine S.store tOk rfl rfl rfl rfl rfl rfl rfl rfl ?_
          refine S.pure tOk zOk rfl rfl rfl ?_
          refine thenK_n ?_
          refine W.ret ?_
          exact ⟨_, rfl, rfl, LeV.of_force rfl (congrArg (fun x : Rul × Int => V.tup [V.agg [.d (.int .i64 x.1.kd), .d (.str x.1.k), .d (.str x.1.tu), .d (.str x.1.old), .d (.str x.1.nu)], V.one (C.d (D.int .i64 x.2))]) (((if_neg (Bool.eq_false_iff.1 c1)).trans ((if_neg (Bool.eq_false_iff.1 c2)).trans ((if_neg (Bool.eq_false_iff.1 c3)).trans ((if_neg (Bool.eq_false_iff.1 c4)).trans ((if_neg (Bool.eq_false_iff.1 c20)).trans ((if_pos c28).trans ((if_neg (Bool.eq_false_iff.1 c29)).trans ((if_neg (Bool.eq_false_iff.1 c30)).trans (if_neg (Bool.eq_false_iff.1 c31)))))))))) : parR s = _)).symm⟩
      ·skip
       refine W.skip ?_
       refine thenK_n ?_
       refine W.seq ?_
       refine W.seq ?_
       refine W.region ?_
       refine S.pure tOk zOk rfl rfl rfl ?_
       refine S.pure tOk zOk rfl rfl rfl ?_
       refine thenK_n ?_
       refine W.cond rfl (fun c32 => ?_) (fun c32 => ?_)
       ·skip
        refine W.seq ?_
        refine W.region ?_
        refine S.pure tOk zOk rfl rfl rfl ?_
        refine S.store tOk rfl rfl rfl rfl rfl rfl rfl rfl ?_
        refine S.pure tOk zOk rfl rfl rfl ?_
        refine thenK_n ?_
        refine W.ret ?_
        refine thenK_r ?_
        exact ⟨_, rfl, rfl, LeV.of_force rfl (congrArg (fun x : Rul × Int => V.tup [V.agg [.d (.int .i64 x.1.kd), .d (.str x.1.k), .d (.str x.1.tu), .d (.str x.1.old), .d (.str x.1.nu)], V.one (C.d (D.int .i64 x.2))]) (((if_neg (Bool.eq_false_iff.1 c1)).trans ((if_neg (Bool.eq_false_iff.1 c2)).trans ((if_neg (Bool.eq_false_iff.1 c3)).trans ((if_neg (Bool.eq_false_iff.1 c4)).trans ((if_neg (Bool.eq_false_iff.1 c20)).trans ((if_neg (Bool.eq_false_iff.1 c28)).trans (if_pos c32))))))) : parR s = _)).symm⟩
       ·skip
        refine W.skip ?_
        refine thenK_n ?_
        refine W.seq ?_
        refine W.seq ?_
        refine W.region ?_
        refine S.pure tOk zOk rfl rfl rfl ?_
        refine S.call rfl rfl rfl rfl rfl (pc_CheckRule ⟨_, _, _, _, _⟩ ⟨by (try dsimp only); repeat first | omega | exact Nat.le_trans hc2.1 (by omega) | exact Nat.le_trans hc2.2 (by omega) | exact Nat.zero_le _ | apply quo_b | apply quo_r | apply drop_b, by (try dsimp only); repeat first | omega | exact Nat.le_trans hc2.1 (by omega) | exact Nat.le_trans hc2.2 (by omega) | exact Nat.zero_le _ | apply quo_b | apply quo_r | apply drop_b, by (try dsimp only); repeat first | omega | exact Nat.le_trans hc2.1 (by omega) | exact Nat.le_trans hc2.2 (by omega) | exact Nat.zero_le _ | apply quo_b | apply quo_r | apply drop_b, by (try dsimp only); repeat first | omega | exact Nat.le_trans hc2.1 (by omega) | exact Nat.le_trans hc2.2 (by omega) | exact Nat.zero_le _ | apply quo_b | apply quo_r | apply drop_b⟩) ?_
        refine S.pure tOk zOk rfl rfl rfl ?_
        refine thenK_n ?_
        refine W.seq ?_
        refine W.region ?_
        refine S.pure tOk zOk rfl rfl rfl ?_
        refine S.pure tOk zOk rfl rfl rfl ?_
        refine thenK_n ?_
        refine W.cond rfl (fun c33 => ?_) (fun c33 => ?_)
        ·skip
         refine W.seq ?_
         refine W.region ?_
         refine S.pure tOk zOk rfl rfl rfl ?_
         refine S.pure tOk zOk rfl rfl rfl ?_
         refine S.store tOk rfl rfl rfl rfl rfl rfl rfl rfl ?_
         refine S.pure tOk zOk rfl rfl rfl ?_
         refine thenK_n ?_
         refine W.ret ?_
         refine thenK_r ?_
         exact ⟨_, rfl, rfl, LeV.of_force rfl (congrArg (fun x : Rul × Int => V.tup [V.agg [.d (.int .i64 x.1.kd), .d (.str x.1.k), .d (.str x.1.tu), .d (.str x.1.old), .d (.str x.1.nu)], V.one (C.d (D.int .i64 x.2))]) (((if_neg (Bool.eq_false_iff.1 c1)).trans ((if_neg (Bool.eq_false_iff.1 c2)).trans ((if_neg (Bool.eq_false_iff.1 c3)).trans ((if_neg (Bool.eq_false_iff.1 c4)).trans ((if_neg (Bool.eq_false_iff.1 c20)).trans ((if_neg (Bool.eq_false_iff.1 c28)).trans ((if_neg (Bool.eq_false_iff.1 c32)).trans (if_pos c33)))))))) : parR s = _)).symm⟩
        ·skip
         refine W.skip ?_
         refine thenK_n ?_
         refine W.seq ?_
         refine W.region ?_
         refine S.pure tOk zOk rfl rfl rfl ?_
         refine S.store tOk rfl rfl rfl rfl rfl rfl rfl rfl ?_
         refine S.pure tOk zOk rfl rfl rfl ?_
         refine thenK_n ?_
         refine W.ret ?_
         exact ⟨_, rfl, rfl, LeV.of_force rfl (congrArg (fun x : Rul × Int => V.tup [V.agg [.d (.int .i64 x.1.kd), .d (.str x.1.k), .d (.str x.1.tu), .d (.str x.1.old), .d (.str x.1.nu)], V.one (C.d (D.int .i64 x.2))]) (((if_neg (Bool.eq_false_iff.1 c1)).trans ((if_neg (Bool.eq_false_iff.1 c2)).trans ((if_neg (Bool.eq_false_iff.1 c3)).trans ((if_neg (Bool.eq_false_iff.1 c4)).trans ((if_neg (Bool.eq_false_iff.1 c20)).trans ((if_neg (Bool.eq_false_iff.1 c28)).trans ((if_neg (Bool.eq_false_iff.1 c32)).trans (if_neg (Bool.eq_false_iff.1 c33))))))))) : parR s = _)).symm⟩
end Go.Proofs.YtcchfmilleffjaaGreatDoor
namespace Go.Proofs.YtcchfmilleffjaaGreatDoor
open Go
structure Mv where
  f : List Sp
  t : Ver
  rs : List L8
def Mv.z : Mv := ⟨[], Ver.z, []⟩
def readE (l : List L8) : Int := firstNe (l.map fun s => (parR s).2)
def readTo (l : List L8) (i : Nat) : List Rul := (l.take i).map fun s => (parR s).1
def readM (l : List L8) : List Rul × Int := if readE l != 0 then ([], readE l) else (readTo l l.length, 0)
theorem readTo_succ {l : List L8} {i : Nat} (hi : i < l.length) : readTo l (i + 1) = readTo l i ++ [(parR (l.getD i [])).1] := by
  unfold readTo
  rw [List.take_succ_eq_append_getElem hi, List.map_append, List.getD_eq_getElem?_getD, List.getElem?_eq_getElem hi]
  rfl
theorem readTo_len {l : List L8} {i : Nat} (hi : i ≤ l.length) : (readTo l i).length = i := by simp [readTo]; omega
theorem read_1 {l : List L8} {i : Nat} (hi : i < l.length) (h : ((l.map fun s => (parR s).2).take i).all (· == 0) = true) (c : ((parR (l.getD i [])).2 != 0) = true) : readM l = ([], (parR (l.getD i [])).2) := by
  have := fe_hit (f := fun s => (parR s).2) (d := ([] : L8)) hi h c
  unfold readM readE
  rw [this, if_pos c]
theorem read_2 {l : List L8} (h : ((l.map fun s => (parR s).2).take l.length).all (· == 0) = true) : readM l = (readTo l l.length, 0) := by
  have : readE l = 0 := fe_end (Nat.le_refl _) h
  unfold readM
  rw [this]; rfl
def moveE (m : Mv) : Int :=
  if rangeE m.f != 0 then rangeE m.f else if m.t.check != 0 then m.t.check else if decide ((m.rs.length : Int) > 100) then 4 else (readM m.rs).2
end Go.Proofs.YtcchfmilleffjaaGreatDoor
namespace Go.Proofs.YtcchfmilleffjaaGreatDoor
open Go
open Go.RowKit
attribute [local irreducible] rangeE orderB Lib.split
theorem pc_ver_within (s : Sp) (v : Ver) (h1 : s.f.e.length < 4294967281) (h2 : s.t.e.length < 4294967281) (hv : v.e.length < 4294967281) :
  PureCall Tryz.prog J 173 [spV s, verV v] (.one (.d (.bool (withinB s v)))) := by
 refine PureCall.of_body tOk (fn := Tryz.f173) Tryz.func173 (by kernel_rfl) rfl (Nat.le_of_ble_eq_true rfl) (fun E => ?_)
 refine W.seq ?_
 refine W.region ?_
 refine S.box rfl rfl rfl rfl ?_
 refine S.box rfl rfl rfl rfl ?_
 refine S.pure tOk zOk rfl rfl rfl ?_
 refine thenK_n ?_
 refine W.seq ?_
 refine W.region ?_
 refine S.pure tOk zOk rfl rfl rfl ?_
 refine S.pure tOk zOk rfl rfl rfl ?_
 refine S.pure tOk zOk rfl rfl rfl ?_
 refine S.pure tOk zOk rfl rfl rfl ?_
 refine S.pureG tOk zOk rfl rfl tg (fun _ => rfl) rfl ?_
 refine S.pureG tOk zOk rfl rfl tg (fun _ => rfl) rfl ?_
 refine S.pureG tOk zOk rfl rfl tg (fun _ => rfl) rfl ?_
 refine S.callG rfl rfl rfl rfl tg rfl rfl (fun _ => pc_ver_Order v s.f hv h1) ?_
 refine S.pureG tOk zOk rfl rfl tg (fun _ => rfl) rfl ?_
 refine S.pickOr tOk zOk rfl rfl tg ?_
 refine S.pure tOk zOk rfl rfl rfl ?_
 refine S.pureG tOk zOk rfl rfl tg (fun _ => rfl) rfl ?_
 refine S.pureG tOk zOk rfl rfl tg (fun _ => rfl) rfl ?_
 refine S.pureG tOk zOk rfl rfl tg (fun _ => rfl) rfl ?_
 refine S.pureG tOk zOk rfl rfl tg (fun _ => rfl) rfl ?_
 refine S.pureG tOk zOk rfl rfl tg (fun _ => rfl) rfl ?_
 refine S.pureG tOk zOk rfl rfl tg (fun _ => rfl) rfl ?_
 refine S.pureG tOk zOk rfl rfl tg (fun _ => rfl) rfl ?_
 refine S.callG rfl rfl rfl rfl tg rfl rfl (fun _ => pc_ver_Order v s.t hv h2) ?_
 refine S.pureG tOk zOk rfl rfl tg (fun _ => rfl) rfl ?_
 refine S.pickOrG tOk zOk rfl rfl rfl tg tg ?_
 refine S.pickAnd tOk zOk rfl rfl tg ?_
 refine S.pure tOk zOk rfl rfl rfl ?_
 refine thenK_n ?_
 refine W.ret ?_
 exact ⟨_, rfl, rfl, LeV.refl _⟩
theorem pc_ver_names (h : Bool) (e v : Ver) :
  PureCall Tryz.prog J 174 [.one (.d (.bool h)), verV e, verV v] (.one (.d (.bool (namesB h e v)))) := by
 refine PureCall.of_body tOk (fn := Tryz.f174) Tryz.func174 (by kernel_rfl) rfl (Nat.le_of_ble_eq_true rfl) (fun E => ?_)
 refine W.seq ?_
 refine W.region ?_
 refine S.box rfl rfl rfl rfl ?_
 refine S.box rfl rfl rfl rfl ?_
 refine S.pure tOk zOk rfl rfl rfl ?_
 refine thenK_n ?_
 refine W.seq ?_
 refine W.region ?_
 refine S.pure tOk zOk rfl rfl rfl ?_
 refine S.pure tOk zOk rfl rfl rfl ?_
 refine S.pureG tOk zOk rfl rfl tg (fun _ => rfl) rfl ?_
 refine S.pureG tOk zOk rfl rfl tg (fun _ => rfl) rfl ?_
 refine S.pureG tOk zOk rfl rfl tg (fun _ => rfl) rfl ?_
 refine S.pickAnd tOk zOk rfl rfl tg ?_
 refine S.pure tOk zOk rfl rfl rfl ?_
 refine S.pureG tOk zOk rfl rfl tg (fun _ => rfl) rfl ?_
 refine S.pureG tOk zOk rfl rfl tg (fun _ => rfl) rfl ?_
 refine S.pureG tOk zOk rfl rfl tg (fun _ => rfl) rfl ?_
 refine S.pureG tOk zOk rfl rfl tg (fun _ => rfl) rfl ?_
 refine S.pureG tOk zOk rfl rfl tg (fun _ => rfl) rfl ?_
 refine S.pickAnd tOk zOk rfl rfl tg ?_
 refine S.pure tOk zOk rfl rfl rfl ?_
 refine S.pureG tOk zOk rfl rfl tg (fun _ => rfl) rfl ?_
 refine S.pureG tOk zOk rfl rfl tg (fun _ => rfl) rfl ?_
 refine S.pureG tOk zOk rfl rfl tg (fun _ => rfl) rfl ?_
 refine S.pureG tOk zOk rfl rfl tg (fun _ => rfl) rfl ?_
 refine S.pureG tOk zOk rfl rfl tg (fun _ => rfl) rfl ?_
 refine S.pickAnd tOk zOk rfl rfl tg ?_
 refine S.pure tOk zOk rfl rfl rfl ?_
 refine S.pureG tOk zOk rfl rfl tg (fun _ => rfl) rfl ?_
 refine S.pureG tOk zOk rfl rfl tg (fun _ => rfl) rfl ?_
 refine S.pureG tOk zOk rfl rfl tg (fun _ => rfl) rfl ?_
 refine S.pureG tOk zOk rfl rfl tg (fun _ => rfl) rfl ?_
 refine S.pureG tOk zOk rfl rfl tg (fun _ => rfl) rfl ?_
 refine S.pickAnd tOk zOk rfl rfl tg ?_
 refine S.pure tOk zOk rfl rfl rfl ?_
 refine thenK_n ?_
 refine W.ret ?_
 exact ⟨_, rfl, rfl, LeV.refl _⟩
theorem pc_ver_has (ss : List Sp) (hl : ss.length ≤ 1000000000) (hs : ∀ s ∈ ss, SpLen s) (v : Ver) (hv : v.e.length < 4294967281) :
  PureCall Tryz.prog J 124 [rgV ss, verV v] (.one (.d (.bool (hasB ss v)))) := by
 refine PureCall.of_body tOk (fn := Tryz.f124) Tryz.func124 (by kernel_rfl) rfl (Nat.le_of_ble_eq_true rfl) (fun E => ?_)
 refine W.seq ?_
 refine W.region ?_
 refine S.box rfl rfl rfl rfl ?_
 refine S.box rfl rfl rfl rfl ?_
 refine S.pure tOk zOk rfl rfl rfl ?_
 refine thenK_n ?_
 refine W.seq ?_
 refine W.seq ?_
 refine W.region ?_
 refine S.pure tOk zOk rfl rfl rfl ?_
 refine S.pure tOk zOk rfl rfl rfl ?_
 refine S.pure tOk zOk rfl rfl rfl ?_
 refine S.pure tOk zOk rfl rfl rfl ?_
 refine thenK_n ?_
 refine W.block ?_
 refine W.loop (fun k st => ∃ i : Nat, i ≤ ss.length ∧ (ss.take i).any (hasAt ss.length v) = false ∧ k = ss.length - i ∧ ∃ t b2 r2 m2, st = ⟨t, [[.d (.vec 10 (ss.map spD))], [.d (.int .i64 v.a), .d (.int .i64 v.b), .d (.int .i64 v.c), .d (.str v.e)]] ++ b2, [] ++ r2, [] ++ m2⟩ ∧ holdsL t [(2, .one (.ptr 0 0)), (3, .one (.ptr 1 0)), (9, .one (.d (.vec 10 (ss.map spD)))), (10, .one (.d (.int .i64 ((ss.map spD).length : Int)))), (11, .one (.d (.int .i64 (i : Int))))]) (ss.length) ⟨0, Nat.zero_le _, by simp, rfl, _, _, _, _, rfl, rfl, rfl, rfl, rfl, rfl, trivial⟩ ?_
 rintro k0 _ ⟨i, f0_0, f0_1, rfl, t0, bb0, rr0, mm0, rfl, hh0⟩
 refine W.keepR _ _ _ _ _ _ _ hh0 rfl ?_
 refine W.seq ?_
 refine W.region ?_
 refine S.pure tOk zOk rfl rfl rfl ?_
 refine thenK_n ?_
 refine W.seq ?_
 refine W.cond rfl (fun c1 => ?_) (fun c1 => ?_)
 ·skip
  have hi := row_lt c1
  have hsp := sp_at hs hi
  refine W.skip ?_
  refine thenK_n ?_
  refine W.seq ?_
  refine W.block ?_
  refine W.seq ?_
  refine W.region ?_
  refine S.pureE tOk zOk rfl (row_ok hi) (row_at Sp.z hi) rfl ?_
  refine S.pure tOk zOk rfl rfl rfl ?_
  refine S.alloc tOk rfl rfl rfl rfl ?_
  refine S.store tOk rfl rfl rfl rfl rfl rfl rfl rfl ?_
  refine thenK_n ?_
  refine W.seq ?_
  refine W.region ?_
  refine S.pure tOk zOk rfl rfl rfl ?_
  refine S.pure tOk zOk rfl rfl rfl ?_
  refine S.pure tOk zOk rfl rfl rfl ?_
  refine S.pure tOk zOk rfl rfl rfl ?_
  refine S.pure tOk zOk rfl rfl rfl ?_
  refine S.pureG tOk zOk rfl rfl tg (fun _ => rfl) rfl ?_
  refine S.pureG tOk zOk rfl rfl tg (fun _ => rfl) rfl ?_
  refine S.pureG tOk zOk rfl rfl tg (fun _ => rfl) rfl ?_
  refine S.pickAnd tOk zOk rfl rfl tg ?_
  refine S.pure tOk zOk rfl rfl rfl ?_
  refine S.pureG tOk zOk rfl rfl tg (fun _ => rfl) rfl ?_
  refine S.pureG tOk zOk rfl rfl tg (fun _ => rfl) rfl ?_
  refine S.pureG tOk zOk rfl rfl tg (fun _ => rfl) rfl ?_
  refine S.pickAnd tOk zOk rfl rfl tg ?_
  refine S.pure tOk zOk rfl rfl rfl ?_
  refine thenK_n ?_
  refine W.seq ?_
  refine W.region ?_
  refine S.pure tOk zOk rfl rfl rfl ?_
  refine S.pure tOk zOk rfl rfl rfl ?_
  refine S.call rfl rfl rfl rfl rfl (pc_ver_within (ss.getD i Sp.z) v hsp.1 hsp.2 hv) ?_
  refine S.pure tOk zOk rfl rfl rfl ?_
  refine S.pureG tOk zOk rfl rfl tg (fun _ => rfl) rfl ?_
  refine S.pureG tOk zOk rfl rfl tg (fun _ => rfl) rfl ?_
  refine S.pureG tOk zOk rfl rfl tg (fun _ => rfl) rfl ?_
  refine S.pureG tOk zOk rfl rfl tg (fun _ => rfl) rfl ?_
  refine S.pureG tOk zOk rfl rfl tg (fun _ => rfl) rfl ?_
  refine S.pickOrG tOk zOk rfl rfl rfl tg tg ?_
  refine S.pureG tOk zOk rfl rfl tg (fun _ => rfl) rfl ?_
  refine S.pureG tOk zOk rfl rfl tg (fun _ => rfl) rfl ?_
  refine S.pureG tOk zOk rfl rfl tg (fun _ => rfl) rfl ?_
  refine S.pureG tOk zOk rfl rfl tg (fun _ => rfl) rfl ?_
  refine S.pureG tOk zOk rfl rfl tg (fun _ => rfl) rfl ?_
  refine S.pureG tOk zOk rfl rfl tg (fun _ => rfl) rfl ?_
  refine S.callG rfl rfl rfl rfl tg rfl rfl (fun _ => pc_ver_names _ (ss.getD i Sp.z).f v) ?_
  refine S.pickOrG tOk zOk rfl rfl rfl tg tg ?_
  refine S.pureG tOk zOk rfl rfl tg (fun _ => rfl) rfl ?_
  refine S.pureG tOk zOk rfl rfl tg (fun _ => rfl) rfl ?_
  refine S.pureG tOk zOk rfl rfl tg (fun _ => rfl) rfl ?_
  refine S.pureG tOk zOk rfl rfl tg (fun _ => rfl) rfl ?_
  refine S.pureG tOk zOk rfl rfl tg (fun _ => rfl) rfl ?_
  refine S.pureG tOk zOk rfl rfl tg (fun _ => rfl) rfl ?_
  refine S.callG rfl rfl rfl rfl tg rfl rfl (fun _ => pc_ver_names _ (ss.getD i Sp.z).t v) ?_
  refine S.pickOrG tOk zOk rfl rfl rfl tg tg ?_
  refine S.pickAnd tOk zOk rfl rfl tg ?_
  refine thenK_n ?_
  refine W.cond rfl (fun c2 => ?_) (fun c2 => ?_)
  ·skip
   refine W.seq ?_
   refine W.region ?_
   refine S.pure tOk zOk rfl rfl rfl ?_
   refine thenK_n ?_
   refine W.ret ?_
   refine blockK_r ?_
   refine thenK_r ?_
   refine thenK_r ?_
   refine blockK_r ?_
   refine thenK_r ?_
   exact ⟨_, rfl, rfl, LeV.of_force rfl (by rw [show hasB ss v = true from any_hit (d := Sp.z) hi (by have h := c2; rw [List.length_map] at h; exact h)]; rfl)⟩
  ·skip
   refine W.skip ?_
   refine blockK_n ?_
   refine thenK_n ?_
   refine W.region ?_
   refine S.pure tOk zOk rfl rfl rfl ?_
   refine S.pure tOk zOk rfl rfl rfl ?_
   refine loop_n (ss.length - (i + 1)) (by omega) ⟨i + 1, hi, any_take (d := Sp.z) hi f0_1 (by have h := c2; rw [List.length_map] at h; exact h), rfl, _, _, _, _, rfl, rfl, rfl, rfl, rfl, inc_i64 (by omega), trivial⟩
 ·skip
  have hi := row_ge c1
  refine W.exit ?_
  refine thenK_e ?_
  refine thenK_e ?_
  refine blockK_x ?_
  refine thenK_n ?_
  refine W.seq ?_
  refine W.region ?_
  refine S.pure tOk zOk rfl rfl rfl ?_
  refine thenK_n ?_
  refine W.ret ?_
  exact ⟨_, rfl, rfl, LeV.of_force rfl (by rw [show hasB ss v = false from any_end hi f0_1]; rfl)⟩
theorem pc_ver_Has (ss : List Sp) (hl : ss.length ≤ 1000000000) (hs : ∀ s ∈ ss, SpLen s) (v : Ver) (hv : v.e.length < 4294967281) :
  PureCall Tryz.prog J 73 [rgV ss, verV v] (.tup [.one (.d (.bool (HasB ss v).1)), .one (.d (.int .i64 (HasB ss v).2))]) := by
 refine PureCall.of_body tOk (fn := Tryz.f73) Tryz.func73 (by kernel_rfl) rfl (Nat.le_of_ble_eq_true rfl) (fun E => ?_)
 refine W.seq ?_
 refine W.region ?_
 refine S.box rfl rfl rfl rfl ?_
 refine S.box rfl rfl rfl rfl ?_
 refine S.pure tOk zOk rfl rfl rfl ?_
 refine S.pure tOk zOk rfl rfl rfl ?_
 refine thenK_n ?_
 refine W.seq ?_
 refine W.seq ?_
 refine W.region ?_
 refine S.pure tOk zOk rfl rfl rfl ?_
 refine S.call rfl rfl rfl rfl rfl (pc_ver_CheckRange ss hl hs) ?_
 refine S.pure tOk zOk rfl rfl rfl ?_
 refine thenK_n ?_
 refine W.seq ?_
 refine W.region ?_
 refine S.pure tOk zOk rfl rfl rfl ?_
 refine S.pure tOk zOk rfl rfl rfl ?_
 refine thenK_n ?_
 refine W.cond rfl (fun c1 => ?_) (fun c1 => ?_)
 ·skip
  refine W.seq ?_
  refine W.region ?_
  refine S.pure tOk zOk rfl rfl rfl ?_
  refine S.pure tOk zOk rfl rfl rfl ?_
  refine S.pure tOk zOk rfl rfl rfl ?_
  refine thenK_n ?_
  refine W.ret ?_
  refine thenK_r ?_
  exact ⟨_, rfl, rfl, LeV.of_force rfl (congrArg (fun x : Bool × Int => V.tup [.one (.d (.bool x.1)), .one (.d (.int .i64 x.2))]) ((if_pos c1) : HasB ss v = _)).symm⟩
 ·skip
  refine W.skip ?_
  refine thenK_n ?_
  refine W.seq ?_
  refine W.seq ?_
  refine W.region ?_
  refine S.pure tOk zOk rfl rfl rfl ?_
  refine S.call rfl rfl rfl rfl rfl (pc_ver_Check v hv) ?_
  refine S.pure tOk zOk rfl rfl rfl ?_
  refine thenK_n ?_
  refine W.seq ?_
  refine W.region ?_
  refine S.pure tOk zOk rfl rfl rfl ?_
  refine S.pure tOk zOk rfl rfl rfl ?_
  refine thenK_n ?_
  refine W.cond rfl (fun c2 => ?_) (fun c2 => ?_)
  ·skip
   refine W.seq ?_
   refine W.region ?_
   refine S.pure tOk zOk rfl rfl rfl ?_
   refine S.pure tOk zOk rfl rfl rfl ?_
   refine S.pure tOk zOk rfl rfl rfl ?_
   refine thenK_n ?_
   refine W.ret ?_
   refine thenK_r ?_
   exact ⟨_, rfl, rfl, LeV.of_force rfl (congrArg (fun x : Bool × Int => V.tup [.one (.d (.bool x.1)), .one (.d (.int .i64 x.2))]) (((if_neg (Bool.eq_false_iff.1 c1)).trans (if_pos c2)) : HasB ss v = _)).symm⟩
  ·skip
   refine W.skip ?_
   refine thenK_n ?_
   refine W.seq ?_
   refine W.region ?_
   refine S.pure tOk zOk rfl rfl rfl ?_
   refine S.pure tOk zOk rfl rfl rfl ?_
   refine S.call rfl rfl rfl rfl rfl (pc_ver_has ss hl hs v hv) ?_
   refine S.pure tOk zOk rfl rfl rfl ?_
   refine S.pure tOk zOk rfl rfl rfl ?_
   refine thenK_n ?_
   refine W.ret ?_
   exact ⟨_, rfl, rfl, LeV.of_force rfl (congrArg (fun x : Bool × Int => V.tup [.one (.d (.bool x.1)), .one (.d (.int .i64 x.2))]) (((if_neg (Bool.eq_false_iff.1 c1)).trans (if_neg (Bool.eq_false_iff.1 c2))) : HasB ss v = _)).symm⟩
end Go.Proofs.YtcchfmilleffjaaGreatDoor
namespace Go.Proofs.YtcchfmilleffjaaGreatDoor
open Go Go.RowKit
section
variable {α β : Type}
def findE (same : α → α → Bool) (k : α) : List α → List MapEntry → Nat → Option (Nat × Value)
  | a :: l, e :: es, i => if same k a then some (i, e.val) else findE same k l es (i + 1)
  | _, _, _ => none
structure KeyF (P : Program) (kt : TypeId) (enc : α → DV) (val : α → Value) (same : α → α → Bool) : Prop where
  eq : ∀ {g : Gh} {h : Sh} {w : World} (a : α) (u : Value), RV g h w (enc a).v u → u = val a
  rv : ∀ (g : Gh) (h : Sh) (w : World) (a : α), RV g h w (enc a).v (val a)
  pl : ∀ (a : α) (n c : Nat), (enc a).stamp n c
  find : ∀ (w : World) (k : α) (l : List α) (es : List MapEntry), es.map (·.key) = l.map val → (Instr.findKey kt (val k) es).run P w = .ok (findE same k l es 0) w
  bits : ∀ a b, same a b = true → Instr.sameBits 10000 (val b) (val a) = true
  chk : ∀ (w : World) (e : Bool) (a : α), (Instr.checkKey e 10000 kt (val a)).run P w = .ok () w
variable {enc : α → DV} {val : α → Value} {same : α → α → Bool}
def mapOfF (enc : α → DV) (fD : β → DV) (l : List (α × β)) : List (DV × DV) := l.map fun x => (enc x.1, fD x.2)
theorem mapOfF_get {fD : β → DV} {l : List (α × β)} {i : Nat} {x : DV × DV} (h : (mapOfF enc fD l)[i]? = some x) : ∃ y, l[i]? = some y ∧ x = (enc y.1, fD y.2) := by
  unfold mapOfF at h
  rw [List.getElem?_map] at h
  obtain ⟨y, h1, h2⟩ := Option.map_eq_some_iff.1 h
  exact ⟨y, h1, h2.symm⟩
theorem mapOfF_fit {P : Program} {kt : TypeId} (ke : KeyF P kt enc val same) {fD : β → DV} {l : List (α × β)} {arr : Array MapEntry} {clock : Nat} (h : MapFit arr clock l.length) : MapFitE arr clock (mapOfF enc fD l) :=
  ⟨by simpa [mapOfF] using h, fun i x e hx _ => by
    obtain ⟨y, _, rfl⟩ := mapOfF_get hx
    exact ke.pl _ _ _⟩
theorem findE_ok (k : α) : ∀ (l : List (α × β)) (es : List MapEntry) (i0 : Nat), es.length = l.length →
    (hasL same l k = false ∧ findE same k (l.map (·.1)) es i0 = none ∧ (∀ v, setL same l k v = l ++ [(k, v)]) ∧ delL same l k = l ∧ ∀ z, getL same z l k = z) ∨
    (hasL same l k = true ∧ ∃ p x e, l[p]? = some x ∧ es[p]? = some e ∧ findE same k (l.map (·.1)) es i0 = some (i0 + p, e.val) ∧ same k x.1 = true ∧ (∀ v, setL same l k v = l.set p (k, v)) ∧ delL same l k = l.eraseIdx p ∧ ∀ z, getL same z l k = x.2)
  | [], es, i0, hl => .inl ⟨rfl, by cases es <;> rfl, fun _ => rfl, rfl, fun _ => rfl⟩
  | x :: l, [], i0, hl => by cases hl
  | x :: l, e :: es, i0, hl => by
    cases hs : same k x.1 with
    | true =>
      right
      refine ⟨by simp [hasL, hs], 0, x, e, rfl, rfl, ?_, hs, fun v => by simp [setL, hs], by simp [delL, hs], fun z => by simp [getL, hs]⟩
      simp only [List.map_cons, findE, hs, if_true, Nat.add_zero]
    | false =>
      have ih := findE_ok k l es (i0 + 1) (by simpa using hl)
      rcases ih with ⟨h1, h2, h3, h4, h5⟩ | ⟨h1, p, y, f, h2, h3, h4, h5, h6, h7, h8⟩
      · left
        refine ⟨by unfold hasL at h1 ⊢; simp [hs, h1], by simp only [List.map_cons, findE, hs, Bool.false_eq_true, if_false]; exact h2, fun v => by simp [setL, hs, h3 v], by simp [delL, hs, h4], fun z => by simp [getL, hs, h5 z]⟩
      · right
        refine ⟨by unfold hasL at h1 ⊢; simp [hs, h1], p + 1, y, f, by simpa using h2, by simpa using h3, ?_, h5, fun v => by simp [setL, hs, h6 v], by simp [delL, hs, h7], fun z => by simp [getL, hs, h8 z]⟩
        simp only [List.map_cons, findE, hs, Bool.false_eq_true, if_false, h4]
        congr 2
        omega
variable {J : Inv} {k0 : Lens} {E : Env J k0} {P : Program} {T : TypeId → Option TI} {n : Nat} {t : Nat → V} {b : List (List C)} {r : List (Option RowO)} {m : List (List (DV × DV))} {ops : Array Oper} {l : List Oper}
  {K : St → Prop} {i : Nat} {ty : TypeId} {pos : String} {after : Array Edge}
theorem map_findF {kt : TypeId} (ke : KeyF P kt enc val same) {s : St} {g : Gh} {a : Act} {w : World} (rel : Rel E n g s a w) {mi : Nat} {fD : β → DV} {l : List (α × β)} (hm : s.m[mi]? = some (mapOfF enc fD l)) (k : α) :
    ∃ arr clock, w.heap[g.at_ (.m mi)]? = some (.map arr clock) ∧ MapFit arr clock l.length ∧ (∀ (i : Nat) (x : α × β) (e : MapEntry), l[i]? = some x → arr[i]? = some e → e.key = val x.1 ∧ RV g s.sh w (fD x.2).v e.val) ∧
      ((hasL same l k = false ∧ (Instr.findKey kt (val k) arr.toList).run P w = .ok none w ∧ (∀ v, setL same l k v = l ++ [(k, v)]) ∧ delL same l k = l ∧ ∀ z, getL same z l k = z) ∨
      (hasL same l k = true ∧ ∃ p x e, l[p]? = some x ∧ arr[p]? = some e ∧ (Instr.findKey kt (val k) arr.toList).run P w = .ok (some (p, e.val)) w ∧ same k x.1 = true ∧ (∀ v, setL same l k v = l.set p (k, v)) ∧ delL same l k = l.eraseIdx p ∧ ∀ z, getL same z l k = x.2)) := by
  obtain ⟨arr, clock, h1, h2, h3⟩ := rel.heap.map mi _ hm
  have hlen : (mapOfF enc fD l).length = l.length := by simp [mapOfF]
  replace h2 := h2.1
  rw [hlen] at h2
  have hk : ∀ (i : Nat) (x : α × β) (e : MapEntry), l[i]? = some x → arr[i]? = some e → e.key = val x.1 ∧ RV g s.sh w (fD x.2).v e.val := fun i x e hx he => by
    have := h3 i (enc x.1, fD x.2) e (by simp [mapOfF, hx]) he
    exact ⟨ke.eq _ _ this.1, this.2⟩
  have hkeys : arr.toList.map (·.key) = (l.map (·.1)).map val := by
    apply List.ext_getElem? ; intro i
    simp only [List.getElem?_map, Array.getElem?_toList]
    by_cases hi : i < l.length
    · have e1 : l[i]? = some l[i] := List.getElem?_eq_getElem hi
      have e2 : arr[i]? = some (arr[i]'(by rw [h2.len]; exact hi)) := Array.getElem?_eq_getElem _
      rw [e1, e2]
      simp only [Option.map_some, Option.some.injEq]
      exact (hk i _ _ e1 e2).1
    · rw [List.getElem?_eq_none (by omega), Array.getElem?_eq_none (by rw [h2.len]; omega)]
      rfl
  have hrun := ke.find w k (l.map (·.1)) arr.toList hkeys
  have hf := findE_ok (same := same) k l arr.toList 0 (by simpa using h2.len)
  refine ⟨arr, clock, h1, h2, hk, ?_⟩
  rcases hf with ⟨q1, q2, q3⟩ | ⟨q1, p, x, e, q2, q3, q4, q5⟩
  · rw [q2] at hrun
    exact .inl ⟨q1, hrun, q3⟩
  · rw [q4, Nat.zero_add] at hrun
    exact .inr ⟨q1, p, x, e, q2, by simpa using q3, hrun, q5⟩
theorem S.lookupF (hT : TabOk P T) {tm kt et : TypeId} {ti ei : TI} {x y : Operand} {co : Bool} {mi : Nat} {a0 : α} {fD : β → DV} (z : β) (l0 : List (α × β)) (hti : T tm = some ti) (hd : ti.desc = .map kt et) (ke : KeyF P kt enc val same)
    (hei : T et = some ei) (hx : opd n ⟨t, b, r, m⟩ x = (true, .one (.map mi))) (hy : opd n ⟨t, b, r, m⟩ y = (true, (enc a0).v)) (hm : m[mi]? = some (mapOfF enc fD l0)) (hz : constV ei.zero = (fD z).v) (hzo : constOk ei.zero = true)
    {v : V} (hv : mapV co (fD (getL same z l0 a0)).v (hasL same l0 a0) = v) (k : WL E P n ops l K ⟨upd t i v, b, r, m⟩) : WL E P n ops (⟨some i, .lookup tm x y co, ty, pos, after, none⟩ :: l) K ⟨t, b, r, m⟩ := by
  subst hv
  intro g a w rel next Q hn
  have hw : Region.wanted (⟨some i, .lookup tm x y co, ty, pos, after, none⟩ : Oper) (yielded ops a.tmps) = true := by simp [Region.wanted]
  rw [if_pos hw]
  have hp := opd_ok rel hx rfl
  have hq := opd_ok rel hy rfl
  generalize hxx : a.eval x = xv at hp
  generalize hyy : a.eval y = yv at hq
  cases hp with | one _ _ hp => cases hp with | map _ hmi =>
  have hyv : yv = val a0 := ke.eq a0 _ hq
  subst hyv
  have h1 := (hT tm ti hti).1
  rw [hd] at h1
  obtain ⟨arr, clock, q1, q2, q3, q4⟩ := map_findF (s := ⟨t, b, r, m⟩) ke rel hm a0
  have hzv : RV g (⟨t, b, r, m⟩ : St).sh w (fD z).v ei.zero := by rw [← hz]; exact constV_ok _ _ _ _ hzo
  have fin : ∀ (u : Value) (is : Bool), (Instr.lookup tm (.map (some (g.at_ (.m mi)))) (val a0) co).run P w = .ok (if co then .tuple #[u, .bool is] else u) w → RV g (⟨t, b, r, m⟩ : St).sh w (fD (getL same z l0 a0)).v u → is = hasL same l0 a0 →
      Oper.wp P (⟨some i, .lookup tm x y co, ty, pos, after, none⟩ : Oper) a w next Q := fun u is hr hu his => by
    have hrun : (execOp a.eval (⟨some i, .lookup tm x y co, ty, pos, after, none⟩ : Oper)).run P w = .ok (.value (if co then .tuple #[u, .bool is] else u)) w := by
      simp only [execOp, Sem.run_bind, hxx, hyy, hr, Result.andThen_ok, Sem.run_pure]
    unfold Oper.wp
    rw [hrun]
    refine hn _ g _ _ k (rel.put_same (some i) ?_)
    subst his
    cases co with
    | false => exact hu
    | true =>
      show RV _ _ _ (.tup [_, _]) (.tuple #[u, .bool (hasL same l0 a0)])
      refine .tup _ [u, .bool (hasL same l0 a0)] rfl (fun j c v hc hv => ?_)
      match j with
      | 0 => simp at hc hv; subst hc; subst hv; exact hu
      | 1 => simp at hc hv; subst hc; subst hv; exact .one _ _ (.d _ _ (.bool _))
      | j + 2 => simp at hc
  rcases q4 with ⟨p1, p2, _, _, p5⟩ | ⟨p1, p, x', e, p2, p3, p4, p5, _, _, p8⟩
  · refine fin ei.zero false ?_ (by rw [p5]; exact hzv) p1.symm
    simp only [Instr.lookup, Sem.run_bind, run_underlying h1, Result.andThen_ok, MapKept.run_getObj_map q1, Sem.run_pure, ke.chk w _ a0, p2, run_zeroValue' hT hei]
  · refine fin e.val true ?_ (by rw [p8]; exact (q3 p x' e p2 p3).2) p1.symm
    simp only [Instr.lookup, Sem.run_bind, run_underlying h1, Result.andThen_ok, MapKept.run_getObj_map q1, Sem.run_pure, ke.chk w _ a0, p4]
theorem S.mapUpdateF (hT : TabOk P T) {tm kt et : TypeId} {ti : TI} {x y u : Operand} {mi : Nat} {a0 : α} {fD : β → DV} (v0 : β) (l0 : List (α × β)) (hti : T tm = some ti) (hd : ti.desc = .map kt et) (ke : KeyF P kt enc val same)
    (hx : opd n ⟨t, b, r, m⟩ x = (true, .one (.map mi))) (hy : opd n ⟨t, b, r, m⟩ y = (true, (enc a0).v)) (hu : opd n ⟨t, b, r, m⟩ u = (true, (fD v0).v)) (hm : m[mi]? = some (mapOfF enc fD l0))
    {m' : List (List (DV × DV))} (hm' : m.set mi (mapOfF enc fD (setL same l0 a0 v0)) = m') (k : WL E P n ops l K ⟨t, b, r, m'⟩) : WL E P n ops (⟨none, .mapUpdate tm x y u, ty, pos, after, none⟩ :: l) K ⟨t, b, r, m⟩ := by
  subst hm'
  intro g a w rel next Q hn
  have hw : Region.wanted (⟨none, .mapUpdate tm x y u, ty, pos, after, none⟩ : Oper) (yielded ops a.tmps) = true := by simp [Region.wanted]
  rw [if_pos hw]
  have hp := opd_ok rel hx rfl
  have hq := opd_ok rel hy rfl
  have hr := opd_ok rel hu rfl
  generalize hxx : a.eval x = xv at hp
  generalize hyy : a.eval y = yv at hq
  generalize huu : a.eval u = uv at hr
  cases hp with | one _ _ hp => cases hp with | map _ hmi =>
  have hyv : yv = val a0 := ke.eq a0 _ hq
  have hkv := hq
  subst hyv
  have h1 := (hT tm ti hti).1
  rw [hd] at h1
  obtain ⟨arr, clock, q1, q2, q3, q4⟩ := map_findF (s := ⟨t, b, r, m⟩) ke rel hm a0
  obtain ⟨A, hA⟩ : ∃ A, A = g.at_ (.m mi) := ⟨_, rfl⟩
  rw [← hA] at q1
  have fin : ∀ (arr' : Array MapEntry) (clock' : Nat), (Instr.mapUpdate tm (.map (some A)) (val a0) uv).run P w = .ok () { w with heap := w.heap.setIfInBounds A (.map arr' clock') } →
      MapFit arr' clock' (setL same l0 a0 v0).length → (∀ (i : Nat) (x : α × β) (e : MapEntry), (setL same l0 a0 v0)[i]? = some x → arr'[i]? = some e → RV g (⟨t, b, r, m⟩ : St).sh w ((enc x.1)).v e.key ∧ RV g (⟨t, b, r, m⟩ : St).sh w (fD x.2).v e.val) →
      Oper.wp P (⟨none, .mapUpdate tm x y u, ty, pos, after, none⟩ : Oper) a w next Q := fun arr' clock' hr' hfit hx' => by
    have hrun : (execOp a.eval (⟨none, .mapUpdate tm x y u, ty, pos, after, none⟩ : Oper)).run P w = .ok .skip { w with heap := w.heap.setIfInBounds A (.map arr' clock') } := by
      simp only [execOp, Sem.run_bind, hxx, hyy, huu, ← hA, hr', Result.andThen_ok, Sem.run_pure]
    unfold Oper.wp
    rw [hrun]
    refine hn _ g _ _ k ?_
    have := rel.setMap (es' := mapOfF enc fD (setL same l0 a0 v0)) hm (mapOfF_fit ke hfit) (fun i x e hx'' he => by
      obtain ⟨y', h3, rfl⟩ := mapOfF_get hx''
      exact hx' i y' e h3 he)
    rw [← hA] at this
    exact this
  have keyrv : ∀ c : α, RV g (⟨t, b, r, m⟩ : St).sh w ((enc c)).v (val c) := fun c => ke.rv _ _ _ c
  rcases q4 with ⟨p1, p2, p3, _, _⟩ | ⟨p1, p, x', e, p2, p3, p4, p5, p6, _, _⟩
  · refine fin (arr.push { key := val a0, val := uv, born := clock }) (clock + 1) ?_ ?_ ?_
    · simp only [Instr.mapUpdate, Sem.run_bind, run_underlying h1, Result.andThen_ok, MapKept.run_getObj_map q1, ke.chk w _ a0, p2]
      simp [MapKept.run_setObj_map _ q1]
    · rw [p3 v0]
      refine ⟨by simp [q2.len], fun i e h => ?_, fun i j e f h h' hb => ?_⟩
      · rw [Array.getElem?_push] at h
        split at h
        · simp only [Option.some.injEq] at h; rw [← h]; exact Nat.lt_succ_self _
        · exact Nat.lt_succ_of_lt (q2.born i e h)
      · rw [Array.getElem?_push] at h h'
        split at h <;> split at h'
        · omega
        · simp only [Option.some.injEq] at h
          have := q2.born j f h'
          rw [← h] at hb; simp only at hb; omega
        · simp only [Option.some.injEq] at h'
          have := q2.born i e h
          rw [← h'] at hb; simp only at hb; omega
        · exact q2.dist i j e f h h' hb
    · intro i x e hx' he
      rw [p3 v0] at hx'
      rw [Array.getElem?_push] at he
      by_cases hi : i < l0.length
      · rw [List.getElem?_append_left hi] at hx'
        rw [if_neg (by rw [q2.len]; omega)] at he
        obtain ⟨c1, c2⟩ := q3 i x e hx' he
        exact ⟨by rw [c1]; exact keyrv _, c2⟩
      · have hil : i = l0.length := by have := (List.getElem?_eq_some_iff.1 hx').1; simp at this; omega
        subst hil
        simp at hx'
        rw [if_pos q2.len.symm] at he
        simp only [Option.some.injEq] at he
        rw [← hx', ← he]
        exact ⟨keyrv _, hr⟩
  · have hpl : p < arr.size := (Array.getElem?_eq_some_iff.1 p3).1
    have hkey : e.key = val x'.1 := (q3 p x' e p2 p3).1
    refine fin (arr.modify p fun e => { e with key := val a0, val := uv }) clock ?_ ?_ ?_
    · have hst : (Instr.keyThatStays (((arr[p]?).map (·.key)).getD (val a0)) (val a0)).run P w = .ok (val a0) w := by
        rw [p3]
        simp only [Option.map_some, Option.getD_some, hkey]
        unfold Instr.keyThatStays
        rw [if_pos (ke.bits a0 x'.1 p5), Sem.run_pure]
      simp only [Instr.mapUpdate, Sem.run_bind, run_underlying h1, Result.andThen_ok, MapKept.run_getObj_map q1, ke.chk w _ a0, p4, hst]
      simp [MapKept.run_setObj_map _ q1]
    · rw [p6 v0]
      have hb : ∀ (i : Nat) (f : MapEntry), (arr.modify p fun e => { e with key := val a0, val := uv })[i]? = some f → ∃ f', arr[i]? = some f' ∧ f'.born = f.born := fun i f h => by
        rw [Array.getElem?_modify] at h
        split at h
        · obtain ⟨f', h1, h2⟩ := Option.map_eq_some_iff.1 h
          exact ⟨f', h1, by rw [← h2]⟩
        · exact ⟨f, h, rfl⟩
      refine ⟨by simp [q2.len], fun i f h => ?_, fun i j f f2 h h' hbb => ?_⟩
      · obtain ⟨f', h3, h4⟩ := hb i f h; rw [← h4]; exact q2.born i f' h3
      · obtain ⟨f', h3, h4⟩ := hb i f h
        obtain ⟨f2', h5, h6⟩ := hb j f2 h'
        exact q2.dist i j f' f2' h3 h5 (by rw [h4, h6]; exact hbb)
    · intro i x e' hx' he
      rw [p6 v0, List.getElem?_set] at hx'
      rw [Array.getElem?_modify] at he
      by_cases hi : p = i
      · subst hi
        rw [if_pos rfl] at hx' he
        split at hx'
        · simp only [Option.some.injEq] at hx'
          rw [p3] at he
          simp only [Option.map_some, Option.some.injEq] at he
          rw [← hx', ← he]
          exact ⟨keyrv _, hr⟩
        · cases hx'
      · rw [if_neg hi] at hx' he
        obtain ⟨c1, c2⟩ := q3 i x e' hx' he
        exact ⟨by rw [c1]; exact keyrv _, c2⟩
theorem S.insertF (hT : TabOk P T) {tm kt et : TypeId} {ti : TI} {x y u : Operand} {mi : Nat} {a0 : α} {fD : β → DV} (v0 : β) (l0 : List (α × β)) (hti : T tm = some ti) (hd : ti.desc = .map kt et) (ke : KeyF P kt enc val same)
    (hx : opd n ⟨t, b, r, m⟩ x = (true, .one (.map mi))) (hy : opd n ⟨t, b, r, m⟩ y = (true, (enc a0).v)) (hu : opd n ⟨t, b, r, m⟩ u = (true, (fD v0).v)) (hm : m[mi]? = some (mapOfF enc fD l0))
    {m' : List (List (DV × DV))} (hm' : m.set mi (mapOfF enc fD (setL same l0 a0 v0)) = m') (k : WL E P n ops l K ⟨t, b, r, m'⟩) : WL E P n ops (⟨none, .insert tm x y u, ty, pos, after, none⟩ :: l) K ⟨t, b, r, m⟩ := by
  subst hm'
  intro g a w rel next Q hn
  have hw : Region.wanted (⟨none, .insert tm x y u, ty, pos, after, none⟩ : Oper) (yielded ops a.tmps) = true := by simp [Region.wanted]
  rw [if_pos hw]
  have hp := opd_ok rel hx rfl
  have hq := opd_ok rel hy rfl
  have hr := opd_ok rel hu rfl
  generalize hxx : a.eval x = xv at hp
  generalize hyy : a.eval y = yv at hq
  generalize huu : a.eval u = uv at hr
  cases hp with | one _ _ hp => cases hp with | map _ hmi =>
  have hyv : yv = val a0 := ke.eq a0 _ hq
  have hkv := hq
  subst hyv
  have h1 := (hT tm ti hti).1
  rw [hd] at h1
  obtain ⟨arr, clock, q1, q2, q3, q4⟩ := map_findF (s := ⟨t, b, r, m⟩) ke rel hm a0
  obtain ⟨A, hA⟩ : ∃ A, A = g.at_ (.m mi) := ⟨_, rfl⟩
  rw [← hA] at q1
  have fin : ∀ (arr' : Array MapEntry) (clock' : Nat), (Instr.mapUpdate tm (.map (some A)) (val a0) uv).run P w = .ok () { w with heap := w.heap.setIfInBounds A (.map arr' clock') } →
      MapFit arr' clock' (setL same l0 a0 v0).length → (∀ (i : Nat) (x : α × β) (e : MapEntry), (setL same l0 a0 v0)[i]? = some x → arr'[i]? = some e → RV g (⟨t, b, r, m⟩ : St).sh w ((enc x.1)).v e.key ∧ RV g (⟨t, b, r, m⟩ : St).sh w (fD x.2).v e.val) →
      Oper.wp P (⟨none, .insert tm x y u, ty, pos, after, none⟩ : Oper) a w next Q := fun arr' clock' hr' hfit hx' => by
    have hrun : (execOp a.eval (⟨none, .insert tm x y u, ty, pos, after, none⟩ : Oper)).run P w = .ok .skip { w with heap := w.heap.setIfInBounds A (.map arr' clock') } := by
      simp only [execOp, Sem.run_bind, hxx, hyy, huu, ← hA, hr', Result.andThen_ok, Sem.run_pure]
    unfold Oper.wp
    rw [hrun]
    refine hn _ g _ _ k ?_
    have := rel.setMap (es' := mapOfF enc fD (setL same l0 a0 v0)) hm (mapOfF_fit ke hfit) (fun i x e hx'' he => by
      obtain ⟨y', h3, rfl⟩ := mapOfF_get hx''
      exact hx' i y' e h3 he)
    rw [← hA] at this
    exact this
  have keyrv : ∀ c : α, RV g (⟨t, b, r, m⟩ : St).sh w ((enc c)).v (val c) := fun c => ke.rv _ _ _ c
  rcases q4 with ⟨p1, p2, p3, _, _⟩ | ⟨p1, p, x', e, p2, p3, p4, p5, p6, _, _⟩
  · refine fin (arr.push { key := val a0, val := uv, born := clock }) (clock + 1) ?_ ?_ ?_
    · simp only [Instr.mapUpdate, Sem.run_bind, run_underlying h1, Result.andThen_ok, MapKept.run_getObj_map q1, ke.chk w _ a0, p2]
      simp [MapKept.run_setObj_map _ q1]
    · rw [p3 v0]
      refine ⟨by simp [q2.len], fun i e h => ?_, fun i j e f h h' hb => ?_⟩
      · rw [Array.getElem?_push] at h
        split at h
        · simp only [Option.some.injEq] at h; rw [← h]; exact Nat.lt_succ_self _
        · exact Nat.lt_succ_of_lt (q2.born i e h)
      · rw [Array.getElem?_push] at h h'
        split at h <;> split at h'
        · omega
        · simp only [Option.some.injEq] at h
          have := q2.born j f h'
          rw [← h] at hb; simp only at hb; omega
        · simp only [Option.some.injEq] at h'
          have := q2.born i e h
          rw [← h'] at hb; simp only at hb; omega
        · exact q2.dist i j e f h h' hb
    · intro i x e hx' he
      rw [p3 v0] at hx'
      rw [Array.getElem?_push] at he
      by_cases hi : i < l0.length
      · rw [List.getElem?_append_left hi] at hx'
        rw [if_neg (by rw [q2.len]; omega)] at he
        obtain ⟨c1, c2⟩ := q3 i x e hx' he
        exact ⟨by rw [c1]; exact keyrv _, c2⟩
      · have hil : i = l0.length := by have := (List.getElem?_eq_some_iff.1 hx').1; simp at this; omega
        subst hil
        simp at hx'
        rw [if_pos q2.len.symm] at he
        simp only [Option.some.injEq] at he
        rw [← hx', ← he]
        exact ⟨keyrv _, hr⟩
  · have hpl : p < arr.size := (Array.getElem?_eq_some_iff.1 p3).1
    have hkey : e.key = val x'.1 := (q3 p x' e p2 p3).1
    refine fin (arr.modify p fun e => { e with key := val a0, val := uv }) clock ?_ ?_ ?_
    · have hst : (Instr.keyThatStays (((arr[p]?).map (·.key)).getD (val a0)) (val a0)).run P w = .ok (val a0) w := by
        rw [p3]
        simp only [Option.map_some, Option.getD_some, hkey]
        unfold Instr.keyThatStays
        rw [if_pos (ke.bits a0 x'.1 p5), Sem.run_pure]
      simp only [Instr.mapUpdate, Sem.run_bind, run_underlying h1, Result.andThen_ok, MapKept.run_getObj_map q1, ke.chk w _ a0, p4, hst]
      simp [MapKept.run_setObj_map _ q1]
    · rw [p6 v0]
      have hb : ∀ (i : Nat) (f : MapEntry), (arr.modify p fun e => { e with key := val a0, val := uv })[i]? = some f → ∃ f', arr[i]? = some f' ∧ f'.born = f.born := fun i f h => by
        rw [Array.getElem?_modify] at h
        split at h
        · obtain ⟨f', h1, h2⟩ := Option.map_eq_some_iff.1 h
          exact ⟨f', h1, by rw [← h2]⟩
        · exact ⟨f, h, rfl⟩
      refine ⟨by simp [q2.len], fun i f h => ?_, fun i j f f2 h h' hbb => ?_⟩
      · obtain ⟨f', h3, h4⟩ := hb i f h; rw [← h4]; exact q2.born i f' h3
      · obtain ⟨f', h3, h4⟩ := hb i f h
        obtain ⟨f2', h5, h6⟩ := hb j f2 h'
        exact q2.dist i j f' f2' h3 h5 (by rw [h4, h6]; exact hbb)
    · intro i x e' hx' he
      rw [p6 v0, List.getElem?_set] at hx'
      rw [Array.getElem?_modify] at he
      by_cases hi : p = i
      · subst hi
        rw [if_pos rfl] at hx' he
        split at hx'
        · simp only [Option.some.injEq] at hx'
          rw [p3] at he
          simp only [Option.map_some, Option.some.injEq] at he
          rw [← hx', ← he]
          exact ⟨keyrv _, hr⟩
        · cases hx'
      · rw [if_neg hi] at hx' he
        obtain ⟨c1, c2⟩ := q3 i x e' hx' he
        exact ⟨by rw [c1]; exact keyrv _, c2⟩
theorem KeyF.ofS (hT : TabOk P T) {kt : TypeId} {fs : Array Field} (hu : P.underlying kt = some (.struct fs)) {encA : α → List D} {valA : α → List Value} (hv : ∀ a, (encA a).map valD = (valA a).map some)
    (he : ∀ a b, ∃ d, d ≤ 9999 ∧ eqS T d kt ((encA a).map .d) ((encA b).map .d) = some (same a b)) (hbits : ∀ a b, same a b = true → Instr.sameBits 10000 (.agg (valA b).toArray) (.agg (valA a).toArray) = true)
    (hchk : ∀ (w : World) (e : Bool) (a : α), (Instr.checkKey e 10000 kt (.agg (valA a).toArray)).run P w = .ok () w) : KeyF P kt (fun a => DV.agg (encA a)) (fun a => .agg (valA a).toArray) same := by
  have hlen : ∀ a, (valA a).length = (encA a).length := fun a => by have := congrArg List.length (hv a); simpa using this.symm
  have hcell : ∀ (g : Gh) (h : Sh) (w : World) (a : α) (i : Nat) (c : C) (v : Value), ((encA a).map C.d)[i]? = some c → (valA a)[i]? = some v → RC g h w c v := fun g h w a i c v h1 h2 => by
    rw [List.getElem?_map] at h1
    cases hd : (encA a)[i]? with
    | none => rw [hd] at h1; cases h1
    | some d =>
      rw [hd] at h1
      obtain rfl : C.d d = c := by simpa using h1
      have h3 := congrArg (fun l => l[i]?) (hv a)
      simp only [List.getElem?_map, hd, h2, Option.map_some] at h3
      exact .d _ _ (valD_rd (by simpa using h3))
  refine ⟨fun {g h w} a u hx => ?_, fun g h w a => ?_, fun _ _ _ => trivial, fun w k l es hk => ?_, hbits, hchk⟩
  · cases hx with
    | agg cs vs hl hx =>
      congr 2
      apply List.ext_getElem? ; intro i
      by_cases hi : i < vs.length
      · have h1 : vs[i]? = some vs[i] := List.getElem?_eq_getElem hi
        have hi2 : i < (encA a).length := by rw [hl] at hi; simpa using hi
        have h2 : ((encA a).map C.d)[i]? = some (.d (encA a)[i]) := by rw [List.getElem?_map, List.getElem?_eq_getElem hi2]; rfl
        have h3 := hx i _ _ h2 h1
        cases h3 with
        | d _ _ h3 =>
          have h4 := congrArg (fun l => l[i]?) (hv a)
          simp only [List.getElem?_map, List.getElem?_eq_getElem hi2, Option.map_some] at h4
          cases hva : (valA a)[i]? with
          | none => rw [hva] at h4; cases h4
          | some z =>
            rw [hva] at h4
            rw [h1, valD_of (by simpa using h4) h3]
      · rw [List.getElem?_eq_none (by omega), List.getElem?_eq_none (by rw [hlen]; rw [hl] at hi; simpa using hi)]
  · exact .agg _ _ (by simpa using hlen a) (hcell g h w a)
  · have heq : ∀ a b, (Op.equal kt (.agg (valA a).toArray) (.agg (valA b).toArray)).run P w = .ok (same a b) w := fun a b => by
      obtain ⟨d, hd, hs⟩ := he a b
      exact eqS_ok (g := ⟨fun _ => False, fun _ => 0, fun _ => 0, fun _ => 0⟩) (h := ⟨0, [], 0⟩) hT d kt _ _ _ _ _ 9999 (by simpa using hlen a) (hcell _ _ _ a) (by simpa using hlen b) (hcell _ _ _ b) hs hd
    have ask : ∀ (l : List α) (es : List MapEntry) (i : Nat), es.map (·.key) = l.map (fun a => Value.agg (valA a).toArray) → (Instr.findAsking kt (.agg (valA k).toArray) es i).run P w = .ok (findE same k l es i) w := fun l => by
      induction l with
      | nil =>
        intro es i hk
        have : es = [] := by simpa using hk
        subst this
        rfl
      | cons a l ih =>
        intro es i hk
        cases es with
        | nil => cases hk
        | cons e es =>
          simp only [List.map_cons, List.cons.injEq] at hk
          unfold Instr.findAsking findE
          rw [hk.1]
          simp only [Sem.run_bind, heq, Result.andThen_ok]
          cases same k a with
          | true => simp
          | false => simpa using ih es (i + 1) hk.2
    have h0 := ask l es 0 hk
    cases es with
    | nil =>
      have : l = [] := by simpa using hk.symm
      subst this
      simp [Instr.findKey, run_underlying hu, Instr.findNow, findE]
    | cons e es =>
      have : (Instr.findKey kt (.agg (valA k).toArray) (e :: es)).run P w = (Instr.findAsking kt (.agg (valA k).toArray) (e :: es)).run P w := by
        simp [Instr.findKey, run_underlying hu, Instr.findNow, Instr.sameNow]
      rw [this]
      exact h0
end
end Go.Proofs.YtcchfmilleffjaaGreatDoor
namespace Go.Proofs.YtcchfmilleffjaaGreatDoor
open Go Go.RowKit
def beqV (a b : Ver) : Bool := (a.a == b.a) && ((a.b == b.b) && ((a.c == b.c) && ((a.e == b.e) && true)))
theorem beqV_iff (a b : Ver) : beqV a b = true ↔ a = b := by
  cases a; cases b
  simp [beqV]
theorem eqS_ver (a b : Ver) : eqS T 3 56 ((verD a).map .d) ((verD b).map .d) = some (beqV a b) := rfl
def valVer (a : Ver) : List Value := [.int .i64 a.a, .int .i64 a.b, .int .i64 a.c, .string ⟨a.e.toArray⟩]
def keyFlat : TypeDesc → Bool
  | .bool | .int _ | .string => true
  | _ => false
theorem chk_flat {P : Program} {w : World} {e : Bool} {n : Nat} {t : TypeId} {v : Value} {u : TypeDesc} (h : P.underlying t = some u) (hu : keyFlat u = true) : (Instr.checkKey e (n + 1) t v).run P w = .ok () w := by
  unfold Instr.checkKey
  simp only [Sem.run_bind, run_underlying h, Result.andThen_ok]
  cases u <;> first | rfl | (cases v <;> rfl) | (simp [keyFlat] at hu)
theorem chk_struct {P : Program} {T : TypeId → Option TI} (hT : TabOk P T) {w : World} {e : Bool} {n : Nat} {t : TypeId} {fs : Array Field} {vs : List Value} (h : P.underlying t = some (.struct fs))
    (hf : ∀ f ∈ fs.toList, (∃ i, T f.type = some i ∧ keyFlat i.desc = true) ∧ f.offset < vs.length) : (Instr.checkKey e (n + 1 + 1) t (.agg vs.toArray)).run P w = .ok () w := by
  unfold Instr.checkKey
  simp only [Sem.run_bind, run_underlying h, Result.andThen_ok]
  rw [← Array.forIn_toList]
  generalize fs.toList = l at hf
  induction l with
  | nil => simp
  | cons f l ih =>
    obtain ⟨⟨i, h1, h2⟩, h3⟩ := hf f (by simp)
    have ih' := ih (fun x hx => hf x (by simp [hx]))
    have hp : (part f.type vs.toArray f.offset).run P w = .ok vs[f.offset] w := by
      have ha : isAggD i.desc = false := by cases hd : i.desc <;> rw [hd] at h2 <;> first | rfl | (exact absurd h2 (by simp [keyFlat]))
      simp only [part, Sem.run_bind, run_isAgg' hT h1, Result.andThen_ok, ha, Bool.false_eq_true, if_false]
      simp [h3]
    rw [List.forIn_cons]
    by_cases hn : f.name = "_"
    · simp only [hn, ne_eq, not_true_eq_false, if_false, Sem.run_bind, Sem.run_pure, Result.andThen_ok]
      simpa using ih'
    · simp only [hn, ne_eq, not_false_eq_true, if_true, Sem.run_bind, hp, chk_flat (hT _ _ h1).1 h2, Sem.run_pure, Result.andThen_ok]
      simpa using ih'
theorem bits_agg {n : Nat} : ∀ {a b : List Value}, a.length = b.length → (∀ x ∈ a.zip b, Instr.sameBits n x.1 x.2 = true) → Instr.sameBits (n + 1) (.agg a.toArray) (.agg b.toArray) = true := by
  intro a b h1 h2
  unfold Instr.sameBits
  simp only [Bool.and_eq_true, List.all_eq_true]
  exact ⟨by simpa using h1, fun x hx => h2 x hx⟩
theorem keyV : KeyF Tryz.prog 56 (fun a : Ver => DV.agg (verD a)) (fun a => .agg (valVer a).toArray) beqV := by
  refine KeyF.ofS tOk (tOk 56 ty56 rfl).1 (fun a => rfl) (fun a b => ⟨3, by decide, eqS_ver a b⟩) (fun a b h => ?_) (fun w e a => ?_)
  · obtain rfl := (beqV_iff a b).1 h
    refine bits_agg (n := 9999) rfl (fun x hx => ?_)
    simp only [valVer, List.zip_cons_cons, List.zip_nil_right, List.mem_cons, List.not_mem_nil, or_false] at hx
    rcases hx with rfl | rfl | rfl | rfl
    · simp [Instr.sameBits]
    · simp [Instr.sameBits]
    · simp [Instr.sameBits]
    · show (ByteArray.mk _ == ByteArray.mk _) = true
      rw [MapKept.bytes_beq]
  · refine chk_struct tOk (n := 9998) (tOk 56 ty56 rfl).1 (fun f hf => ?_)
    simp only [List.mem_cons, List.not_mem_nil, or_false] at hf
    rcases hf with rfl | rfl | rfl | rfl <;> exact ⟨⟨_, rfl, rfl⟩, Nat.le_of_ble_eq_true rfl⟩
end Go.Proofs.YtcchfmilleffjaaGreatDoor
namespace Go.Proofs.YtcchfmilleffjaaGreatDoor
open Go Go.RowKit
section
variable {J : Inv} {k0 : Lens} {E : Env J k0} {P : Program} {T : TypeId → Option TI} {n : Nat} {t : Nat → V} {b : List (List C)} {r : List (Option RowO)} {m : List (List (DV × DV))} {ops : Array Oper} {l : List Oper}
  {K : St → Prop} {i : Nat} {ty : TypeId} {pos : String} {after : Array Edge}
theorem run_eqNil0 {w : World} {t0 e : TypeId} (d : Nat) (a : Option Addr) (j c : Nat) (h : P.underlying t0 = some (.slice e)) : (Op.equalIn (d + 1) t0 (.slice a j c) (.slice none 0 0)).run P w = .ok a.isNone w := by
  cases a <;> simp [Op.equalIn, run_underlying h]
theorem run_eqNil {w : World} {t0 e : TypeId} {x y : Operand} (a : Option Addr) (j c : Nat) (h : P.underlying t0 = some (.slice e)) :
    ((do eqGuard .eql t0 x y (.slice a j c) (.slice none 0 0); Go.binOp .eql t0 (.slice a j c) (.slice none 0 0)) : Sem Value).run P w = .ok (.bool a.isNone) w := by
  have h1 : (eqGuard .eql t0 x y (.slice a j c) (.slice none 0 0)).run P w = .ok () w := rfl
  have h2 : (Op.equal t0 (.slice a j c) (.slice none 0 0)).run P w = .ok a.isNone w := run_eqNil0 9999 a j c h
  simp only [Sem.run_bind, h1, Result.andThen_ok]
  unfold Go.binOp
  simp only [Sem.run_bind, h2, Result.andThen_ok, Sem.run_pure]
theorem S.eqNil (hT : TabOk P T) {t0 t1 e : TypeId} {ti : TI} {x y : Operand} {sz : Nat} {xs : List (List D)} (hti : T t0 = some ti) (hd : ti.desc = .slice e) (hx : opd n ⟨t, b, r, m⟩ x = (true, .one (.d (.vec sz xs)))) (hy : y = .const (.slice none 0 0))
    (k : ∀ q : Bool, (q = true → xs = []) → WL E P n ops l K ⟨upd t i (.one (.d (.bool q))), b, r, m⟩) : WL E P n ops (⟨some i, .binOp .eql t0 x y t1, ty, pos, after, none⟩ :: l) K ⟨t, b, r, m⟩ := by
  subst hy
  intro g a w rel next Q hn
  have hw : Region.wanted (⟨some i, .binOp .eql t0 x (.const (.slice none 0 0)) t1, ty, pos, after, none⟩ : Oper) (yielded ops a.tmps) = true := by simp [Region.wanted]
  rw [if_pos hw]
  have hv := opd_ok rel hx rfl
  have h1 := (hT t0 ti hti).1
  rw [hd] at h1
  have hsl : ∃ A j c, a.eval x = .slice A j c ∧ (A.isNone = true → xs = []) := by
    generalize a.eval x = xv at hv
    cases hv with | one _ _ hv => cases hv with | d _ _ hv => cases hv with
      | empty A c => exact ⟨_, _, _, rfl, fun _ => rfl⟩
      | vec b' o c u hne hc hb hsz hcell hrd => exact ⟨_, _, _, rfl, fun h => by cases h⟩
  obtain ⟨A, j, c, he, hn0⟩ := hsl
  have hex : (execOp a.eval (⟨some i, .binOp .eql t0 x (.const (.slice none 0 0)) t1, ty, pos, after, none⟩ : Oper)).run P w = .ok (.value (.bool A.isNone)) w := by
    show ((do let v ← ((do eqGuard .eql t0 x (.const (.slice none 0 0)) (a.eval x) (.slice none 0 0); Go.binOp .eql t0 (a.eval x) (.slice none 0 0)) : Sem Value); Pure.pure (Next.value v)) : Sem Next).run P w = _
    rw [he, Sem.run_bind, run_eqNil A j c h1]
    simp only [Result.andThen_ok, Sem.run_pure]
  unfold Oper.wp
  rw [hex]
  exact hn _ g _ _ (k A.isNone hn0) (rel.put_same (some i) (.one _ _ (.d _ _ (.bool _))))
theorem S.eqNil0 (hT : TabOk P T) {t0 t1 e : TypeId} {ti : TI} {x y : Operand} (hti : T t0 = some ti) (hd : ti.desc = .slice e) (hx : opd n ⟨t, b, r, m⟩ x = (true, .one (.d .nilsl))) (hy : y = .const (.slice none 0 0))
    (k : WL E P n ops l K ⟨upd t i (.one (.d (.bool true))), b, r, m⟩) : WL E P n ops (⟨some i, .binOp .eql t0 x y t1, ty, pos, after, none⟩ :: l) K ⟨t, b, r, m⟩ := by
  subst hy
  intro g a w rel next Q hn
  have hw : Region.wanted (⟨some i, .binOp .eql t0 x (.const (.slice none 0 0)) t1, ty, pos, after, none⟩ : Oper) (yielded ops a.tmps) = true := by simp [Region.wanted]
  rw [if_pos hw]
  have hv := opd_ok rel hx rfl
  have h1 := (hT t0 ti hti).1
  rw [hd] at h1
  have he : a.eval x = .slice none 0 0 := by
    generalize a.eval x = xv at hv
    cases hv with | one _ _ hv => cases hv with | d _ _ hv => cases hv with
      | nilsl => rfl
  have hex : (execOp a.eval (⟨some i, .binOp .eql t0 x (.const (.slice none 0 0)) t1, ty, pos, after, none⟩ : Oper)).run P w = .ok (.value (.bool true)) w := by
    show ((do let v ← ((do eqGuard .eql t0 x (.const (.slice none 0 0)) (a.eval x) (.slice none 0 0); Go.binOp .eql t0 (a.eval x) (.slice none 0 0)) : Sem Value); Pure.pure (Next.value v)) : Sem Next).run P w = _
    rw [he, Sem.run_bind, run_eqNil none 0 0 h1]
    simp only [Result.andThen_ok, Sem.run_pure]
    rfl
  unfold Oper.wp
  rw [hex]
  exact hn _ g _ _ k (rel.put_same (some i) (.one _ _ (.d _ _ (.bool _))))
end
end Go.Proofs.YtcchfmilleffjaaGreatDoor
