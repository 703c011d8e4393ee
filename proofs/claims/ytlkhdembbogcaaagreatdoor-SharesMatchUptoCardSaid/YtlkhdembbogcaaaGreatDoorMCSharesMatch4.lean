/- SharesMatch: where what it reads is of bulk at most 1048576, it returns true, and what it was given reads as it did. -/
import Derived.Lib.ItoaLen
import Derived.Test.YtlkhdembbogcaaaGreatDoorRows
import Derived.Lib.LaidTab
import Derived.Carry
import Derived.ChangeSame
import Derived.OpenVars
import Derived.OpenShut
import Derived.WalkKit
import Derived.ProofKit
import Derived.Deep.DeepHandedRow
import Derived.Test.YtlkhdembbogcaaaGreatDoorCards
import Derived.Test.YtlkhdembbogcaaaGreatDoorTie
import Derived.Lib.LaidU8
import Derived.Shelf.Vars
import Derived.Deep.DeepLaidRun
import Derived.Test.YtlkhdembbogcaaaGreatDoorMCSharesMatch3
/- Plain words: offers, shares, places. -/
set_option linter.unusedVariables false
set_option linter.unusedSimpArgs false
namespace Go.Proofs.YtlkhdembbogcaaaGreatDoor
open Go
structure Ofr where
  n : List UInt8
  v : Ver
  sm : List UInt8
  f : List Sp
  nw : Bool
  w : CT
  b : Int
  s : Int
  g : Int
  hd : Bool
  ur : Bool
  bk : Bool
def ofrD (o : Ofr) : List D := [.str o.n, .int .i64 o.v.a, .int .i64 o.v.b, .int .i64 o.v.c, .str o.v.e, .str o.sm, .vec 10 (o.f.map spD), .bool o.nw, .int .i64 o.w.k, .str o.w.n, .str o.w.v, .vec 4 (CT.ds o.w.l), .int .i64 o.b, .int .i64 o.s, .int .i64 o.g, .bool o.hd, .bool o.ur, .bool o.bk]
abbrev ofrV (o : Ofr) : V := .agg [.d (.str o.n), .d (.int .i64 o.v.a), .d (.int .i64 o.v.b), .d (.int .i64 o.v.c), .d (.str o.v.e), .d (.str o.sm), .d (.vec 10 (o.f.map spD)), .d (.bool o.nw), .d (.int .i64 o.w.k), .d (.str o.w.n), .d (.str o.w.v), .d (.vec 4 (CT.ds o.w.l)), .d (.int .i64 o.b), .d (.int .i64 o.s), .d (.int .i64 o.g), .d (.bool o.hd), .d (.bool o.ur), .d (.bool o.bk)]
/-- A digit of a sum. -/
def hexCh (c : UInt8) : Bool := (decide ((c.toNat : Int) ≥ 48) && decide ((c.toNat : Int) ≤ 57)) || (decide ((c.toNat : Int) ≥ 97) && decide ((c.toNat : Int) ≤ 102))
def isSumB (s : List UInt8) : Bool := if s.all hexCh then (s.length : Int) == 16 else false
theorem hexCh_eq (c : UInt8) : hexCh c = hexD.contains c := by
  have h : ∀ n : Fin 256, hexCh (UInt8.ofNat n.val) = hexD.contains (UInt8.ofNat n.val) := by decide +kernel
  have := h ⟨c.toNat, c.toNat_lt⟩
  simpa using this
theorem isSum_eq (s : List UInt8) : isSumB s = ((s.length : Int) == 16 && ofB s hexD) := by
  have h : s.all hexCh = ofB s hexD := by
    unfold ofB
    congr 1
    funext c
    exact hexCh_eq c
  unfold isSumB
  rw [h]
  cases ofB s hexD <;> simp
/-- The error of an offer, as the program and as the reference say it. -/
def offerE (o : Ofr) : Int :=
  if !nameB o.n then 5 else if o.v.check != 0 then o.v.check else if !isSumB o.sm then 2 else if rangeE o.f != 0 then rangeE o.f else if checkP o.w != 0 then checkP o.w
  else if (outsideB o.b 0 1099511627776 || outsideB o.s 0 1000) || outsideB o.g 0 1000 then 3 else 0
def sumOk (s : List UInt8) : Bool := (s.length : Int) == 16 && ofB s hexD
def offerR (o : Ofr) : Int := firstNe [if !nameB o.n then 5 else 0, o.v.check, if !sumOk o.sm then 2 else 0, rangeE o.f, errR o.w, if (!inB o.b 0 1099511627776 || !inB o.s 0 1000) || !inB o.g 0 1000 then 3 else 0]
theorem out_in (n l h : Int) : outsideB n l h = !inB n l h := by
  unfold outsideB inB
  by_cases h1 : n < l <;> by_cases h2 : n > h <;> simp [h1, h2] <;> omega
theorem firstNe_c (x : Int) (l : List Int) : firstNe (x :: l) = if x != 0 then x else firstNe l := by
  unfold firstNe
  rw [List.find?_cons]
  cases h : (x != 0) <;> simp [h]
theorem offer_eq {o : Ofr} (h : o.w.w < 3000000000) : offerR o = offerE o := by
  unfold offerR offerE
  rw [errs_eq h, out_in, out_in, out_in]
  simp only [firstNe_c]
  have hs : sumOk o.sm = isSumB o.sm := (isSum_eq o.sm).symm
  rw [hs]
  cases nameB o.n with
  | false => rfl
  | true =>
    show (if (0 : Int) != 0 then _ else _) = _
    rw [if_neg (by simp)]
    show (if o.v.check != 0 then o.v.check else _) = (if o.v.check != 0 then o.v.check else _)
    congr 1
    cases isSumB o.sm with
    | false => rfl
    | true =>
      show (if (0 : Int) != 0 then _ else _) = _
      rw [if_neg (by simp)]
      show (if rangeE o.f != 0 then _ else _) = (if rangeE o.f != 0 then _ else _)
      congr 1
      show (if checkP o.w != 0 then _ else _) = (if checkP o.w != 0 then _ else _)
      congr 1
      generalize ((!inB o.b 0 1099511627776 || !inB o.s 0 1000) || !inB o.g 0 1000) = q
      cases q <;> rfl
def plcT (m n t : List UInt8) : List UInt8 := (((m ++ [0]) ++ n) ++ [0]) ++ t
def plcN (t : List UInt8) : Int := IntKind.i64.wrap ((hexV ((sumT (sumN t)).take 8)).tmod 1000)
def plcP (m n : List UInt8) (v : Ver) : Int := plcN (plcT m n (printB v).1)
def plcR (m n : List UInt8) (v : Ver) : Int := plcN (plcT m n (textB v.a v.b v.c v.e))
theorem plc_eq {m n : List UInt8} {v : Ver} (h : v.check = 0) : plcP m n v = plcR m n v := by
  unfold plcP plcR printB
  rw [h]; rfl
theorem hexV_0 (s : List UInt8) : 0 ≤ hexV s := by unfold hexV; omega
theorem plc_in (t : List UInt8) : 0 ≤ plcN t ∧ plcN t < 1000 := by
  unfold plcN
  have h := hexV_0 ((sumT (sumN t)).take 8)
  generalize hexV ((sumT (sumN t)).take 8) = x at h
  have h1 : x.tmod 1000 = x % 1000 := Int.tmod_eq_emod_of_nonneg h
  rw [h1, IntKind.wrap_i64]
  omega
theorem plc_digs (t : List UInt8) : (∀ c ∈ (sumT (sumN t)).take 8, c ∈ hexD) ∧ 1 ≤ ((sumT (sumN t)).take 8).length ∧ ((sumT (sumN t)).take 8).length ≤ 15 := by
  have hin := sumN_in t
  refine ⟨fun c hc => sumT_mem hin.1 hin.2 c (List.mem_of_mem_take hc), ?_, ?_⟩ <;> rw [List.length_take, sumT_len] <;> omega
def shX (o : Ofr) (t : Int) : Int := IntKind.i64.wrap (o.s + IntKind.i64.wrap (o.g * IntKind.i64.wrap ((IntKind.i64.wrap (t - o.b)).tdiv 3600)))
def shareB (o : Ofr) (t : Int) : Int := if decide (t < o.b) || o.hd then 0 else if o.ur then 1000 else if shX o t < 1000 then shX o t else 1000
theorem share_min (x : Int) : (if (1000 : Int) < x then 1000 else x) = (if x < 1000 then x else 1000) := by
  by_cases h1 : x < 1000 <;> by_cases h2 : (1000 : Int) < x <;> simp [h1, h2] <;> omega
theorem textB_len {v : Ver} (ho : VerOk v) : (textB v.a v.b v.c v.e).length ≤ v.e.length + 100 := by
  have h1 := Lib.itoa_length_le v.a ho.1 ho.2.1
  have h2 := Lib.itoa_length_le v.b ho.2.2.1 ho.2.2.2.1
  have h3 := Lib.itoa_length_le v.c ho.2.2.2.2.1 ho.2.2.2.2.2
  unfold textB
  split <;> simp <;> omega
theorem printB_len {v : Ver} (ho : VerOk v) : (printB v).1.length ≤ v.e.length + 100 := by
  unfold printB
  split
  · simp
  · exact textB_len ho
end Go.Proofs.YtlkhdembbogcaaaGreatDoor

/- Plain words: when a machine is reached; the laws of shares. -/
set_option linter.unusedVariables false
set_option linter.unusedSimpArgs false
namespace Go.Proofs.YtlkhdembbogcaaaGreatDoor
open Go
structure OfrOk (o : Ofr) : Prop where
  n : o.n.length ≤ 2000000
  v : VerOk o.v
  e : o.v.e.length ≤ 2000000
  sm : o.sm.length ≤ 2000000
  fl : o.f.length ≤ 2000000
  fs : ∀ s ∈ o.f, SpLen s
  w : CtBig o.w
  ww : o.w.w < 3000000000
def timedB (o : Ofr) (t : Int) : Int := if offerE o != 0 then offerE o else if outsideB t 0 1099511627776 then 3 else 0
def ShareP (o : Ofr) (t : Int) : Int × Int := if timedB o t != 0 then (0, timedB o t) else (shareB o t, 0)
def PlaceP (m n : List UInt8) (v : Ver) : Int × Int := if !nameB m || !nameB n then (0, 5) else if v.check != 0 then (0, v.check) else (plcP m n v, 0)
def reachT (o : Ofr) (t : Int) (l : List (List UInt8)) (i : Nat) : List (List UInt8) := (l.take i).filter fun m => decide (plcP m o.n o.v < shareB o t)
def ReachP (o : Ofr) (l : List (List UInt8)) (t : Int) : List (List UInt8) × Int :=
  if timedB o t != 0 then ([], timedB o t) else if decide ((l.length : Int) > 10000) then ([], 4) else if l.any (fun m => !nameB m) then ([], 5) else (reachT o t l l.length, 0)
theorem reach_t {o : Ofr} {t : Int} {l : List (List UInt8)} {i : Nat} (hi : i < l.length) (h : decide (plcP (l.getD i []) o.n o.v < shareB o t) = true) : reachT o t l i ++ [l.getD i []] = reachT o t l (i + 1) := by
  unfold reachT; rw [take_getD (d := []) hi]; simp only [List.filter_append, List.filter_cons, h, List.filter_nil, if_true]
theorem reach_f {o : Ofr} {t : Int} {l : List (List UInt8)} {i : Nat} (hi : i < l.length) (h : decide (plcP (l.getD i []) o.n o.v < shareB o t) = false) : reachT o t l i = reachT o t l (i + 1) := by
  unfold reachT; rw [take_getD (d := []) hi]; simp only [List.filter_append, List.filter_cons, h, List.filter_nil, Bool.false_eq_true, if_false, List.append_nil]
theorem reach_row {o : Ofr} {t : Int} {l : List (List UInt8)} {i : Nat} (hi : i < l.length) (h : decide (plcP (l.getD i []) o.n o.v < shareB o t) = true) : ((reachT o t l i).map fun x => ([.str x] : List D)) ++ [[D.str (l.getD i [])]] = (reachT o t l (i + 1)).map fun x => ([.str x] : List D) := by
  rw [← reach_t hi h, List.map_append]; rfl
theorem reach_le (o : Ofr) (t : Int) (l : List (List UInt8)) (i : Nat) : (reachT o t l i).length ≤ l.length := by
  unfold reachT
  have h1 := List.length_filter_le (fun m => decide (plcP m o.n o.v < shareB o t)) (l.take i)
  simp at h1 ⊢; omega
theorem le_reach {x : List (List UInt8) × Int} {n : Int} (h : x = ([], n)) : LeV (.tup [.one (.d .nilsl), .one (.d (.int .i64 n))]) (.tup [.one (.d (.vec 1 (x.1.map fun x => [.str x]))), .one (.d (.int .i64 x.2))]) := by
  subst h; exact LeV.tup2 (LeV.nil 1) (LeV.refl _)
section
variable {o : Ofr} {l : List (List UInt8)} {t : Int}
theorem rp_1 (h : (timedB o t != 0) = true) : ReachP o l t = ([], timedB o t) := if_pos h
theorem rp_2 (h : (timedB o t != 0) = false) (h2 : decide (((l.map fun x => ([.str x] : List D)).length : Int) > 10000) = true) : ReachP o l t = ([], 4) := by
  rw [List.length_map] at h2
  unfold ReachP; rw [if_neg (by rw [h]; simp), if_pos h2]
theorem rp_3 (h : (timedB o t != 0) = false) (h2 : decide (((l.map fun x => ([.str x] : List D)).length : Int) > 10000) = false) (h3 : l.any (fun m => !nameB m) = true) : ReachP o l t = ([], 5) := by
  rw [List.length_map] at h2
  unfold ReachP; rw [if_neg (by rw [h]; simp), if_neg (by rw [h2]; simp), if_pos h3]
theorem rp_4 (h : (timedB o t != 0) = false) (h2 : decide (((l.map fun x => ([.str x] : List D)).length : Int) > 10000) = false) (h3 : l.any (fun m => !nameB m) = false) : ReachP o l t = (reachT o t l l.length, 0) := by
  rw [List.length_map] at h2
  unfold ReachP; rw [if_neg (by rw [h]; simp), if_neg (by rw [h2]; simp), if_neg (by rw [h3]; simp)]
end
def lftB (o : Ofr) (p : Int) : Int := IntKind.i64.wrap (IntKind.i64.wrap (p + 1) - o.s)
def whnT (o : Ofr) (p : Int) : Int := IntKind.i64.wrap (o.b + IntKind.i64.wrap (3600 * IntKind.i64.wrap ((IntKind.i64.wrap (IntKind.i64.wrap (lftB o p + o.g) - 1)).tdiv o.g)))
def whenB (o : Ofr) (p : Int) : Int × Bool :=
  if o.hd then (0, false) else if o.ur || decide (lftB o p ≤ 0) then (o.b, true) else if o.g == 0 then (0, false) else if decide (whnT o p > 1099511627776) then (0, false) else (whnT o p, true)
def WhenP (o : Ofr) (m : List UInt8) : (Int × Bool) × Int := if offerE o != 0 then ((0, false), offerE o) else if !nameB m then ((0, false), 5) else (whenB o (plcP m o.n o.v), 0)
section
variable {o : Ofr} {m : List UInt8}
theorem wp_1 (h : (offerE o != 0) = true) : WhenP o m = ((0, false), offerE o) := if_pos h
variable (h : (offerE o != 0) = false)
include h
theorem wp_2 (h2 : (!nameB m) = true) : WhenP o m = ((0, false), 5) := by unfold WhenP; rw [if_neg (by rw [h]; simp), if_pos h2]
variable (h2 : (!nameB m) = false)
include h2
theorem wp_w : WhenP o m = (whenB o (plcP m o.n o.v), 0) := by unfold WhenP; rw [if_neg (by rw [h]; simp), if_neg (by rw [h2]; simp)]
theorem wp_3 (h3 : o.hd = true) : WhenP o m = ((0, false), 0) := by rw [wp_w h h2]; unfold whenB; rw [if_pos h3]
variable (h3 : o.hd = false)
include h3
theorem wp_4 (h4 : (o.ur || decide (lftB o (plcP m o.n o.v) ≤ 0)) = true) : WhenP o m = ((o.b, true), 0) := by rw [wp_w h h2]; unfold whenB; rw [if_neg (by rw [h3]; simp), if_pos h4]
variable (h4 : (o.ur || decide (lftB o (plcP m o.n o.v) ≤ 0)) = false)
include h4
theorem wp_5 (h5 : (o.g == 0) = true) : WhenP o m = ((0, false), 0) := by rw [wp_w h h2]; unfold whenB; rw [if_neg (by rw [h3]; simp), if_neg (by rw [h4]; simp), if_pos h5]
variable (h5 : (o.g == 0) = false)
include h5
theorem wp_6 (h6 : decide (whnT o (plcP m o.n o.v) > 1099511627776) = true) : WhenP o m = ((0, false), 0) := by rw [wp_w h h2]; unfold whenB; rw [if_neg (by rw [h3]; simp), if_neg (by rw [h4]; simp), if_neg (by rw [h5]; simp), if_pos h6]
theorem wp_7 (h6 : decide (whnT o (plcP m o.n o.v) > 1099511627776) = false) : WhenP o m = ((whnT o (plcP m o.n o.v), true), 0) := by rw [wp_w h h2]; unfold whenB; rw [if_neg (by rw [h3]; simp), if_neg (by rw [h4]; simp), if_neg (by rw [h5]; simp), if_neg (by rw [h6]; simp)]
end
def tAt (o : Ofr) (h : Nat) : Int := IntKind.i64.wrap (o.b + IntKind.i64.wrap (3600 * (h : Int)))
def whenF (o : Ofr) (p : Int) : Nat → Nat → Int × Bool
  | 0, _ => (0, false)
  | f + 1, h => if decide (tAt o h > 1099511627776) || o.hd then (0, false) else if decide (p < shareB o (tAt o h)) then (tAt o h, true) else whenF o p f (h + 1)
def whenR (o : Ofr) (p : Int) : Int × Bool := whenF o p 1002 0
theorem offer_in {o : Ofr} (h : offerE o = 0) : (0 ≤ o.b ∧ o.b ≤ 1099511627776) ∧ (0 ≤ o.s ∧ o.s ≤ 1000) ∧ (0 ≤ o.g ∧ o.g ≤ 1000) ∧ o.v.check = 0 ∧ nameB o.n = true := by
  unfold offerE at h
  cases hn : nameB o.n with
  | false => rw [hn] at h; simp at h
  | true =>
    rw [hn] at h
    simp only [Bool.not_true, Bool.false_eq_true, if_false] at h
    by_cases hv : o.v.check = 0
    · rw [hv] at h
      simp only [bne_self_eq_false, Bool.false_eq_true, if_false] at h
      split at h
      · cases h
      · split at h
        · rename_i h2; rw [h] at h2; simp at h2
        · split at h
          · rename_i h2; rw [h] at h2; simp at h2
          · split at h
            · cases h
            · rename_i h2
              simp only [outsideB, Bool.or_eq_true, decide_eq_true_eq, not_or] at h2
              refine ⟨by omega, by omega, by omega, hv, rfl⟩
    · have : (o.v.check != 0) = true := by simpa using hv
      rw [this, if_pos rfl] at h
      exact (hv h).elim
section
variable {o : Ofr} {p : Int} (h0 : offerE o = 0) (hp : 0 ≤ p ∧ p < 1000)
include h0
theorem tAt_eq {h : Nat} (hh : h ≤ 1002) : tAt o h = o.b + 3600 * (h : Int) := by
  have := offer_in h0
  unfold tAt
  rw [IntKind.wrap_i64, IntKind.wrap_i64]
  omega
theorem share_at {h : Nat} (hh : h ≤ 1002) (hd : o.hd = false) (hu : o.ur = false) : shareB o (tAt o h) = if o.s + o.g * (h : Int) < 1000 then o.s + o.g * (h : Int) else 1000 := by
  have hi := offer_in h0
  unfold shareB
  rw [tAt_eq h0 hh, hd, hu]
  have hlt : decide (o.b + 3600 * (h : Int) < o.b) = false := by simp; omega
  rw [hlt]
  simp only [Bool.or_self, Bool.false_eq_true, if_false]
  have hx : shX o (o.b + 3600 * (h : Int)) = o.s + o.g * (h : Int) := by
    unfold shX
    have e1 : o.b + 3600 * (h : Int) - o.b = 3600 * (h : Int) := by omega
    have e2 : IntKind.i64.wrap (3600 * (h : Int)) = 3600 * (h : Int) := by rw [IntKind.wrap_i64]; omega
    have e3 : (3600 * (h : Int)).tdiv 3600 = (h : Int) := by rw [Int.tdiv_eq_ediv_of_nonneg (by omega)]; omega
    have e4 : IntKind.i64.wrap (h : Int) = (h : Int) := by rw [IntKind.wrap_i64]; omega
    have hg : 0 ≤ o.g * (h : Int) ∧ o.g * (h : Int) ≤ 1000 * 1002 := by
      constructor
      · exact Int.mul_nonneg hi.2.2.1.1 (by omega)
      · exact Int.mul_le_mul hi.2.2.1.2 (by omega) (by omega) (by omega)
    rw [e1, e2, e3, e4]
    have e5 : IntKind.i64.wrap (o.g * (h : Int)) = o.g * (h : Int) := by rw [IntKind.wrap_i64]; omega
    rw [e5, IntKind.wrap_i64]
    omega
  rw [hx]
include hp
/-- The reference comes to hour H. -/
theorem whenF_to (hd : o.hd = false) (hu : o.ur = false) {H : Nat} (hH : H ≤ 1001) (hno : ∀ h : Nat, h < H → o.s + o.g * (h : Int) ≤ p) (hyes : p < o.s + o.g * (H : Int)) : ∀ (k f h : Nat), h + k = H → f + h = 1002 →
    whenF o p f h = if decide (o.b + 3600 * (H : Int) > 1099511627776) then (0, false) else (o.b + 3600 * (H : Int), true)
  | 0, f, h, hk, hf => by
    obtain rfl : h = H := by omega
    obtain ⟨f', rfl⟩ : ∃ f', f = f' + 1 := ⟨f - 1, by omega⟩
    unfold whenF
    rw [share_at h0 (by omega) hd hu, tAt_eq h0 (by omega), hd, Bool.or_false]
    have hd2 : decide (p < if o.s + o.g * (h : Int) < 1000 then o.s + o.g * (h : Int) else 1000) = true := by
      split <;> simp <;> omega
    rw [hd2]; rfl
  | k + 1, f, h, hk, hf => by
    obtain ⟨f', rfl⟩ : ∃ f', f = f' + 1 := ⟨f - 1, by omega⟩
    unfold whenF
    rw [share_at h0 (by omega) hd hu, tAt_eq h0 (by omega), hd, Bool.or_false]
    have h1 := hno h (by omega)
    have hd2 : decide (p < if o.s + o.g * (h : Int) < 1000 then o.s + o.g * (h : Int) else 1000) = false := by
      split <;> simp <;> omega
    rw [hd2]
    by_cases hb : o.b + 3600 * (h : Int) > 1099511627776
    · rw [if_pos (by simpa using hb), if_pos (by simp; omega)]
    · rw [if_neg (by simpa using hb), if_neg (by simp)]
      exact whenF_to hd hu hH hno hyes k f' (h + 1) (by omega) (by omega)
theorem whenF_no (hd : o.hd = false) (hu : o.ur = false) (hno : ∀ h : Nat, o.s + o.g * (h : Int) ≤ p) : ∀ (f h : Nat), f + h = 1002 → whenF o p f h = (0, false)
  | 0, h, hf => rfl
  | f + 1, h, hf => by
    unfold whenF
    rw [share_at h0 (by omega) hd hu, tAt_eq h0 (by omega), hd, Bool.or_false]
    have h1 := hno h
    have hd2 : decide (p < if o.s + o.g * (h : Int) < 1000 then o.s + o.g * (h : Int) else 1000) = false := by
      split <;> simp <;> omega
    rw [hd2]
    split
    · rfl
    · rw [if_neg (by simp)]
      exact whenF_no hd hu hno f (h + 1) (by omega)
theorem when_eqF (F : Nat) (hF : F + 0 = 1002) : whenB o p = whenF o p F 0 := by
  have hi := offer_in h0
  have hl : lftB o p = p + 1 - o.s := by
    unfold lftB
    rw [IntKind.wrap_i64, IntKind.wrap_i64]
    omega
  unfold whenB
  rw [hl]
  obtain ⟨f, hf⟩ : ∃ f, F = f + 1 := ⟨F - 1, by omega⟩
  cases hd : o.hd with
  | true =>
    rw [if_pos rfl, hf, whenF.eq_2, hd, Bool.or_true, if_pos rfl]
  | false =>
    rw [if_neg (by simp)]
    cases hu : o.ur with
    | true =>
      rw [Bool.true_or, if_pos rfl]
      have ht : tAt o 0 = o.b := by rw [tAt_eq h0 (by omega)]; omega
      have hs : shareB o o.b = 1000 := by unfold shareB; rw [hd, hu]; simp
      rw [hf, whenF.eq_2, ht, hs, hd]
      rw [if_neg (by simp; omega), if_pos (by simp; omega)]
    | false =>
      rw [Bool.false_or]
      by_cases hz : p + 1 - o.s ≤ 0
      · rw [if_pos (by simpa using hz)]
        rw [whenF_to h0 hp hd hu (H := 0) (by omega) (fun h hh => by omega) (by omega) 0 F 0 rfl hF]
        rw [if_neg (by simp; omega)]
        simp
      · rw [if_neg (by simpa using hz)]
        by_cases hg : o.g = 0
        · rw [if_pos (by simpa using hg), whenF_no h0 hp hd hu (fun h => by rw [hg]; omega) F 0 hF]
        · rw [if_neg (by simpa using hg)]
          obtain ⟨H, hH⟩ : ∃ H : Nat, (p + 1 - o.s + o.g - 1) / o.g = (H : Int) := ⟨((p + 1 - o.s + o.g - 1) / o.g).toNat, by
            have : 0 ≤ (p + 1 - o.s + o.g - 1) / o.g := Int.ediv_nonneg (by omega) (by omega)
            omega⟩
          have hgp : 0 < o.g := by omega
          have b1 : o.g * (H : Int) ≤ p + 1 - o.s + o.g - 1 := by rw [← hH]; exact Int.mul_ediv_self_le (by omega)
          have b2 : p + 1 - o.s + o.g - 1 < o.g * (H : Int) + o.g := by
            have := Int.lt_mul_ediv_self_add (x := p + 1 - o.s + o.g - 1) hgp
            rw [hH] at this; exact this
          have hHle : (H : Int) ≤ 1000 := by
            apply Decidable.byContradiction; intro hn
            have h1 : 1001 ≤ (H : Int) := by omega
            have h2 : o.g * 1001 ≤ o.g * (H : Int) := Int.mul_le_mul_of_nonneg_left h1 (by omega)
            omega
          have ht : whnT o p = o.b + 3600 * (H : Int) := by
            unfold whnT
            rw [hl]
            have e1 : IntKind.i64.wrap (IntKind.i64.wrap (p + 1 - o.s + o.g) - 1) = p + 1 - o.s + o.g - 1 := by
              have w0 : IntKind.i64.wrap (p + 1 - o.s + o.g) = p + 1 - o.s + o.g := by rw [IntKind.wrap_i64]; omega
              rw [w0, IntKind.wrap_i64]; omega
            have w1 : IntKind.i64.wrap (H : Int) = (H : Int) := by rw [IntKind.wrap_i64]; omega
            have w2 : IntKind.i64.wrap (3600 * (H : Int)) = 3600 * (H : Int) := by rw [IntKind.wrap_i64]; omega
            have w3 : IntKind.i64.wrap (o.b + 3600 * (H : Int)) = o.b + 3600 * (H : Int) := by rw [IntKind.wrap_i64]; omega
            rw [e1, Int.tdiv_eq_ediv_of_nonneg (by omega), hH, w1, w2, w3]
          rw [ht, whenF_to h0 hp hd hu (H := H) (by omega) (fun h hh => by
            have h1 : o.g * ((h : Int) + 1) ≤ o.g * (H : Int) := Int.mul_le_mul_of_nonneg_left (by omega) (by omega)
            rw [Int.mul_add] at h1
            omega) (by omega) H F 0 (by omega) hF]
theorem when_eq : whenB o p = whenR o p := when_eqF h0 hp 1002 rfl
end
end Go.Proofs.YtlkhdembbogcaaaGreatDoor

set_option linter.unusedVariables false
set_option linter.unusedSimpArgs false
set_option maxRecDepth 100000
set_option maxHeartbeats 4000000
namespace Go.Proofs.YtlkhdembbogcaaaGreatDoor
open Go
open Go.RowKit
attribute [local irreducible] sumN sumT fnvTo hexTo hexV fmtU rangeE checkP errR Ver.check printB visit visits
theorem memS {α : Type} {l : List α} {i : Nat} {d : α} (h : i < l.length) : l.getD i d ∈ l := by
  rw [List.getD_eq_getElem?_getD, List.getElem?_eq_getElem h]; exact List.getElem_mem h
theorem take8 (n : Int) : V.one (.d (.str (((sumT n).take ((8 : Int)).toNat).drop ((0 : Int)).toNat))) = V.one (.d (.str ((sumT n).take 8))) := rfl
theorem ofr_fl {o : Ofr} (ho : OfrOk o) : o.f.length ≤ 1000000000 := by have := ho.fl; omega
theorem pc_feed_outside (n l h : Int) :
  PureCall Tryz.prog J 84 [.one (.d (.int .i64 n)), .one (.d (.int .i64 l)), .one (.d (.int .i64 h))] (.one (.d (.bool (outsideB n l h)))) := by
 refine PureCall.of_body tOk (fn := Tryz.f84) Tryz.func84 (by kernel_rfl) rfl (Nat.le_of_ble_eq_true rfl) (fun E => ?_)
 refine W.seq ?_
 refine W.region ?_
 refine S.pure tOk zOk rfl rfl rfl ?_
 refine thenK_n ?_
 refine W.seq ?_
 refine W.region ?_
 refine S.pure tOk zOk rfl rfl rfl ?_
 refine S.pure tOk zOk rfl rfl rfl ?_
 refine S.pure tOk zOk rfl rfl rfl ?_
 refine S.pure tOk zOk rfl rfl rfl ?_
 refine S.pureG tOk zOk rfl rfl tg (fun _ => rfl) rfl ?_
 refine S.pureG tOk zOk rfl rfl tg (fun _ => rfl) rfl ?_
 refine S.pureG tOk zOk rfl rfl tg (fun _ => rfl) rfl ?_
 refine S.pickOr tOk zOk rfl rfl tg ?_
 refine S.pure tOk zOk rfl rfl rfl ?_
 refine thenK_n ?_
 refine W.ret ?_
 exact ⟨_, rfl, rfl, LeV.refl _⟩
theorem pc_isSum (s : List UInt8) (hs : s.length ≤ 4294967000) :
  PureCall Tryz.prog J 113 [.one (.d (.str s))] (.one (.d (.bool (isSumB s)))) := by
 refine PureCall.of_body tOk (fn := Tryz.f113) Tryz.func113 (by kernel_rfl) rfl (Nat.le_of_ble_eq_true rfl) (fun E => ?_)
 refine W.seq ?_
 refine W.region ?_
 refine S.pure tOk zOk rfl rfl rfl ?_
 refine thenK_n ?_
 refine W.seq ?_
 refine W.seq ?_
 refine W.region ?_
 refine S.pure tOk zOk rfl rfl rfl ?_
 refine thenK_n ?_
 refine W.block ?_
 refine W.loop (fun k st => ∃ i : Nat, i ≤ s.length ∧ (s.take i).all hexCh = true ∧ k = s.length - i ∧ ∃ t b2 r2 m2, st = ⟨t, [] ++ b2, [] ++ r2, [] ++ m2⟩ ∧ holdsL t [(0, .one (.d (.str s))), (3, .one (.d (.int .i64 (i : Int))))]) (s.length) ⟨0, Nat.zero_le _, by simp, rfl, _, _, _, _, rfl, rfl, rfl, trivial⟩ ?_
 rintro k0 _ ⟨i, f0_0, f0_1, rfl, t0, bb0, rr0, mm0, rfl, hh0⟩
 refine W.keepR _ _ _ _ _ _ _ hh0 rfl ?_
 refine W.seq ?_
 refine W.seq ?_
 refine W.region ?_
 refine S.pure tOk zOk rfl rfl rfl ?_
 refine S.pure tOk zOk rfl rfl rfl ?_
 refine S.pure tOk zOk rfl rfl rfl ?_
 refine S.pure tOk zOk rfl rfl rfl ?_
 refine thenK_n ?_
 refine W.cond rfl (fun c1 => ?_) (fun c1 => ?_)
 ·skip
  have hi : i < s.length := by simpa using c1
  refine W.skip ?_
  refine thenK_n ?_
  refine W.seq ?_
  refine W.block ?_
  refine W.seq ?_
  refine W.region ?_
  refine S.pure tOk zOk rfl rfl rfl ?_
  refine S.pure tOk zOk rfl rfl rfl ?_
  refine S.pure tOk zOk rfl (str_ok hi) rfl ?_
  refine S.pure tOk zOk rfl rfl rfl ?_
  refine S.pure tOk zOk rfl rfl rfl ?_
  refine S.pureG tOk zOk rfl rfl tg (fun _ => rfl) rfl ?_
  refine S.pureG tOk zOk rfl rfl tg (fun _ => rfl) rfl ?_
  refine S.pureG tOk zOk rfl rfl tg (fun h => str_ok hi) rfl ?_
  refine S.pureG tOk zOk rfl rfl tg (fun _ => rfl) rfl ?_
  refine S.pickAnd tOk zOk rfl rfl tg ?_
  refine S.pure tOk zOk rfl rfl rfl ?_
  refine S.pureG tOk zOk rfl rfl tg (fun _ => rfl) rfl ?_
  refine S.pureG tOk zOk rfl rfl tg (fun _ => rfl) rfl ?_
  refine S.pureG tOk zOk rfl rfl tg (fun h => str_ok hi) rfl ?_
  refine S.pureG tOk zOk rfl rfl tg (fun _ => rfl) rfl ?_
  refine S.pureG tOk zOk rfl rfl tg (fun _ => rfl) rfl ?_
  refine S.pureG tOk zOk rfl rfl tg (fun _ => rfl) rfl ?_
  refine S.pureG tOk zOk rfl rfl tg (fun _ => rfl) rfl ?_
  refine S.pureG tOk zOk rfl rfl tg (fun h => str_ok hi) rfl ?_
  refine S.pureG tOk zOk rfl rfl tg (fun _ => rfl) rfl ?_
  refine S.pickAndG tOk zOk rfl rfl rfl tg tg ?_
  refine S.pickOr tOk zOk rfl rfl tg ?_
  refine S.pure tOk zOk rfl rfl rfl ?_
  refine thenK_n ?_
  refine W.cond rfl (fun c2 => ?_) (fun c2 => ?_)
  ·skip
   have hf : hexCh (s.getD i 0) = false := by
    have h : (!(hexCh (s.getD i 0))) = true := c2
    simpa using h
   refine W.seq ?_
   refine W.region ?_
   refine S.pure tOk zOk rfl rfl rfl ?_
   refine thenK_n ?_
   refine W.ret ?_
   refine blockK_r ?_
   refine thenK_r ?_
   refine thenK_r ?_
   refine blockK_r ?_
   refine thenK_r ?_
   exact ⟨_, rfl, rfl, LeV.of_force rfl (by rw [isSumB, all_false_of (d := 0) hi hf]; rfl)⟩
  ·skip
   have hg : hexCh (s.getD i 0) = true := by
    have h : (!(hexCh (s.getD i 0))) = false := c2
    simpa using h
   refine W.skip ?_
   refine blockK_n ?_
   refine thenK_n ?_
   refine W.region ?_
   refine S.pure tOk zOk rfl rfl rfl ?_
   refine S.pure tOk zOk rfl rfl rfl ?_
   refine S.pure tOk zOk rfl rfl rfl ?_
   refine loop_n (s.length - (i + 1)) (by omega) ⟨i + 1, hi, all_take_succ (d := 0) hi f0_1 hg, rfl, _, _, _, _, rfl, rfl, inc_i64 (by omega), trivial⟩
 ·skip
  have hi : s.length ≤ i := by simpa using c1
  refine W.exit ?_
  refine thenK_e ?_
  refine thenK_e ?_
  refine blockK_x ?_
  refine thenK_n ?_
  refine W.seq ?_
  refine W.region ?_
  refine S.pure tOk zOk rfl rfl rfl ?_
  refine S.pure tOk zOk rfl rfl rfl ?_
  refine S.pure tOk zOk rfl rfl rfl ?_
  refine S.pure tOk zOk rfl rfl rfl ?_
  refine thenK_n ?_
  refine W.ret ?_
  exact ⟨_, rfl, rfl, LeV.of_force rfl (by rw [isSumB, all_of_take hi f0_1]; rfl)⟩
theorem pc_offerFault (o : Ofr) (ho : OfrOk o) :
  PureCall Tryz.prog J 64 [ofrV o] (.one (.d (.int .i64 (offerE o)))) := by
 refine PureCall.of_body tOk (fn := Tryz.f64) Tryz.func64 (by kernel_rfl) rfl (Nat.le_of_ble_eq_true rfl) (fun E => ?_)
 refine W.seq ?_
 refine W.region ?_
 refine S.box rfl rfl rfl rfl ?_
 refine S.pure tOk zOk rfl rfl rfl ?_
 refine thenK_n ?_
 refine W.seq ?_
 refine W.seq ?_
 refine W.region ?_
 refine S.pure tOk zOk rfl rfl rfl ?_
 refine S.pure tOk zOk rfl rfl rfl ?_
 refine S.call rfl rfl rfl rfl rfl (pc_ver_IsName o.n (by have := ho.n; omega)) ?_
 refine S.pure tOk zOk rfl rfl rfl ?_
 refine thenK_n ?_
 refine W.cond rfl (fun c1 => ?_) (fun c1 => ?_)
 ·skip
  refine W.seq ?_
  refine W.region ?_
  refine S.pure tOk zOk rfl rfl rfl ?_
  refine thenK_n ?_
  refine W.ret ?_
  refine thenK_r ?_
  exact ⟨_, rfl, rfl, LeV.of_force rfl (by (try simp only [List.toList_toArray, Int.toNat_zero] at c1); simp only [offerE, c1, Bool.false_eq_true, if_false, if_true, reduceIte] <;> rfl)⟩
 ·skip
  refine W.skip ?_
  refine thenK_n ?_
  refine W.seq ?_
  refine W.seq ?_
  refine W.region ?_
  refine S.pure tOk zOk rfl rfl rfl ?_
  refine S.pure tOk zOk rfl rfl rfl ?_
  refine S.call rfl rfl rfl rfl rfl (pc_ver_Check o.v (by have := ho.e; omega)) ?_
  refine S.pure tOk zOk rfl rfl rfl ?_
  refine thenK_n ?_
  refine W.seq ?_
  refine W.region ?_
  refine S.pure tOk zOk rfl rfl rfl ?_
  refine S.pure tOk zOk rfl rfl rfl ?_
  refine thenK_n ?_
  refine W.cond rfl (fun c2 => ?_) (fun c2 => ?_)
  ·skip
   refine W.seq ?_
   refine W.region ?_
   refine S.pure tOk zOk rfl rfl rfl ?_
   refine S.pure tOk zOk rfl rfl rfl ?_
   refine thenK_n ?_
   refine W.ret ?_
   refine thenK_r ?_
   exact ⟨_, rfl, rfl, LeV.of_force rfl (by (try simp only [List.toList_toArray, Int.toNat_zero] at c1 c2); simp only [offerE, c1, c2, Bool.false_eq_true, if_false, if_true, reduceIte] <;> rfl)⟩
  ·skip
   refine W.skip ?_
   refine thenK_n ?_
   refine W.seq ?_
   refine W.seq ?_
   refine W.region ?_
   refine S.pure tOk zOk rfl rfl rfl ?_
   refine S.pure tOk zOk rfl rfl rfl ?_
   refine S.call rfl rfl rfl rfl rfl (pc_isSum o.sm (by have := ho.sm; omega)) ?_
   refine S.pure tOk zOk rfl rfl rfl ?_
   refine thenK_n ?_
   refine W.cond rfl (fun c3 => ?_) (fun c3 => ?_)
   ·skip
    refine W.seq ?_
    refine W.region ?_
    refine S.pure tOk zOk rfl rfl rfl ?_
    refine thenK_n ?_
    refine W.ret ?_
    refine thenK_r ?_
    exact ⟨_, rfl, rfl, LeV.of_force rfl (by (try simp only [List.toList_toArray, Int.toNat_zero] at c1 c2 c3); simp only [offerE, c1, c2, c3, Bool.false_eq_true, if_false, if_true, reduceIte] <;> rfl)⟩
   ·skip
    refine W.skip ?_
    refine thenK_n ?_
    refine W.seq ?_
    refine W.seq ?_
    refine W.region ?_
    refine S.pure tOk zOk rfl rfl rfl ?_
    refine S.pure tOk zOk rfl rfl rfl ?_
    refine S.call rfl rfl rfl rfl rfl (pc_ver_CheckRange o.f (ofr_fl ho) ho.fs) ?_
    refine S.pure tOk zOk rfl rfl rfl ?_
    refine thenK_n ?_
    refine W.seq ?_
    refine W.region ?_
    refine S.pure tOk zOk rfl rfl rfl ?_
    refine S.pure tOk zOk rfl rfl rfl ?_
    refine thenK_n ?_
    refine W.cond rfl (fun c4 => ?_) (fun c4 => ?_)
    ·skip
     refine W.seq ?_
     refine W.region ?_
     refine S.pure tOk zOk rfl rfl rfl ?_
     refine S.pure tOk zOk rfl rfl rfl ?_
     refine thenK_n ?_
     refine W.ret ?_
     refine thenK_r ?_
     exact ⟨_, rfl, rfl, LeV.of_force rfl (by (try simp only [List.toList_toArray, Int.toNat_zero] at c1 c2 c3 c4); simp only [offerE, c1, c2, c3, c4, Bool.false_eq_true, if_false, if_true, reduceIte] <;> rfl)⟩
    ·skip
     refine W.skip ?_
     refine thenK_n ?_
     refine W.seq ?_
     refine W.seq ?_
     refine W.region ?_
     refine S.pure tOk zOk rfl rfl rfl ?_
     refine S.pure tOk zOk rfl rfl rfl ?_
     refine S.call rfl rfl rfl rfl rfl (pc_ver_CheckCond o.w ho.w) ?_
     refine S.pure tOk zOk rfl rfl rfl ?_
     refine thenK_n ?_
     refine W.seq ?_
     refine W.region ?_
     refine S.pure tOk zOk rfl rfl rfl ?_
     refine S.pure tOk zOk rfl rfl rfl ?_
     refine thenK_n ?_
     refine W.cond rfl (fun c5 => ?_) (fun c5 => ?_)
     ·skip
      refine W.seq ?_
      refine W.region ?_
      refine S.pure tOk zOk rfl rfl rfl ?_
      refine S.pure tOk zOk rfl rfl rfl ?_
      refine thenK_n ?_
      refine W.ret ?_
      refine thenK_r ?_
      exact ⟨_, rfl, rfl, LeV.of_force rfl (by (try simp only [List.toList_toArray, Int.toNat_zero] at c1 c2 c3 c4 c5); simp only [offerE, c1, c2, c3, c4, c5, Bool.false_eq_true, if_false, if_true, reduceIte] <;> rfl)⟩
     ·skip
      refine W.skip ?_
      refine thenK_n ?_
      refine W.seq ?_
      refine W.seq ?_
      refine W.region ?_
      refine S.pure tOk zOk rfl rfl rfl ?_
      refine S.pure tOk zOk rfl rfl rfl ?_
      refine S.call rfl rfl rfl rfl rfl (pc_feed_outside _ _ _) ?_
      refine S.pure tOk zOk rfl rfl rfl ?_
      refine S.pureG tOk zOk rfl rfl tg (fun _ => rfl) rfl ?_
      refine S.pureG tOk zOk rfl rfl tg (fun _ => rfl) rfl ?_
      refine S.callG rfl rfl rfl rfl tg rfl rfl (fun h => pc_feed_outside _ _ _) ?_
      refine S.pickOr tOk zOk rfl rfl tg ?_
      refine S.pure tOk zOk rfl rfl rfl ?_
      refine S.pureG tOk zOk rfl rfl tg (fun _ => rfl) rfl ?_
      refine S.pureG tOk zOk rfl rfl tg (fun _ => rfl) rfl ?_
      refine S.callG rfl rfl rfl rfl tg rfl rfl (fun h => pc_feed_outside _ _ _) ?_
      refine S.pickOr tOk zOk rfl rfl tg ?_
      refine thenK_n ?_
      refine W.cond rfl (fun c6 => ?_) (fun c6 => ?_)
      ·skip
       refine W.seq ?_
       refine W.region ?_
       refine S.pure tOk zOk rfl rfl rfl ?_
       refine thenK_n ?_
       refine W.ret ?_
       refine thenK_r ?_
       exact ⟨_, rfl, rfl, LeV.of_force rfl (by (try simp only [List.toList_toArray, Int.toNat_zero] at c1 c2 c3 c4 c5 c6); simp only [offerE, c1, c2, c3, c4, c5, c6, Bool.false_eq_true, if_false, if_true, reduceIte] <;> rfl)⟩
      ·skip
       refine W.skip ?_
       refine thenK_n ?_
       refine W.seq ?_
       refine W.region ?_
       refine S.pure tOk zOk rfl rfl rfl ?_
       refine thenK_n ?_
       refine W.ret ?_
       exact ⟨_, rfl, rfl, LeV.of_force rfl (by (try simp only [List.toList_toArray, Int.toNat_zero] at c1 c2 c3 c4 c5 c6); simp only [offerE, c1, c2, c3, c4, c5, c6, Bool.false_eq_true, if_false, if_true, reduceIte] <;> rfl)⟩
theorem pc_timed (o : Ofr) (ho : OfrOk o) (t : Int) :
  PureCall Tryz.prog J 59 [ofrV o, .one (.d (.int .i64 t))] (.one (.d (.int .i64 (timedB o t)))) := by
 refine PureCall.of_body tOk (fn := Tryz.f59) Tryz.func59 (by kernel_rfl) rfl (Nat.le_of_ble_eq_true rfl) (fun E => ?_)
 refine W.seq ?_
 refine W.region ?_
 refine S.box rfl rfl rfl rfl ?_
 refine S.pure tOk zOk rfl rfl rfl ?_
 refine thenK_n ?_
 refine W.seq ?_
 refine W.seq ?_
 refine W.region ?_
 refine S.pure tOk zOk rfl rfl rfl ?_
 refine S.call rfl rfl rfl rfl rfl (pc_offerFault o ho) ?_
 refine S.pure tOk zOk rfl rfl rfl ?_
 refine thenK_n ?_
 refine W.seq ?_
 refine W.region ?_
 refine S.pure tOk zOk rfl rfl rfl ?_
 refine S.pure tOk zOk rfl rfl rfl ?_
 refine thenK_n ?_
 refine W.cond rfl (fun c1 => ?_) (fun c1 => ?_)
 ·skip
  refine W.seq ?_
  refine W.region ?_
  refine S.pure tOk zOk rfl rfl rfl ?_
  refine S.pure tOk zOk rfl rfl rfl ?_
  refine thenK_n ?_
  refine W.ret ?_
  refine thenK_r ?_
  exact ⟨_, rfl, rfl, LeV.of_force rfl (by (try simp only [List.toList_toArray, Int.toNat_zero] at c1); simp only [timedB, c1, Bool.false_eq_true, if_false, if_true, reduceIte] <;> rfl)⟩
 ·skip
  refine W.skip ?_
  refine thenK_n ?_
  refine W.seq ?_
  refine W.seq ?_
  refine W.region ?_
  refine S.pure tOk zOk rfl rfl rfl ?_
  refine S.call rfl rfl rfl rfl rfl (pc_feed_outside _ _ _) ?_
  refine thenK_n ?_
  refine W.cond rfl (fun c2 => ?_) (fun c2 => ?_)
  ·skip
   refine W.seq ?_
   refine W.region ?_
   refine S.pure tOk zOk rfl rfl rfl ?_
   refine thenK_n ?_
   refine W.ret ?_
   refine thenK_r ?_
   exact ⟨_, rfl, rfl, LeV.of_force rfl (by (try simp only [List.toList_toArray, Int.toNat_zero] at c1 c2); simp only [timedB, c1, c2, Bool.false_eq_true, if_false, if_true, reduceIte] <;> rfl)⟩
  ·skip
   refine W.skip ?_
   refine thenK_n ?_
   refine W.seq ?_
   refine W.region ?_
   refine S.pure tOk zOk rfl rfl rfl ?_
   refine thenK_n ?_
   refine W.ret ?_
   exact ⟨_, rfl, rfl, LeV.of_force rfl (by (try simp only [List.toList_toArray, Int.toNat_zero] at c1 c2); simp only [timedB, c1, c2, Bool.false_eq_true, if_false, if_true, reduceIte] <;> rfl)⟩
theorem pc_shareAt (o : Ofr) (t : Int) :
  PureCall Tryz.prog J 60 [ofrV o, .one (.d (.int .i64 t))] (.one (.d (.int .i64 (shareB o t)))) := by
 refine PureCall.of_body tOk (fn := Tryz.f60) Tryz.func60 (by kernel_rfl) rfl (Nat.le_of_ble_eq_true rfl) (fun E => ?_)
 refine W.seq ?_
 refine W.region ?_
 refine S.box rfl rfl rfl rfl ?_
 refine S.pure tOk zOk rfl rfl rfl ?_
 refine thenK_n ?_
 refine W.seq ?_
 refine W.block ?_
 refine W.seq ?_
 refine W.region ?_
 refine S.pure tOk zOk rfl rfl rfl ?_
 refine S.pure tOk zOk rfl rfl rfl ?_
 refine S.pure tOk zOk rfl rfl rfl ?_
 refine S.pure tOk zOk rfl rfl rfl ?_
 refine S.pure tOk zOk rfl rfl rfl ?_
 refine S.pureG tOk zOk rfl rfl tg (fun _ => rfl) rfl ?_
 refine S.pureG tOk zOk rfl rfl tg (fun _ => rfl) rfl ?_
 refine S.pickOr tOk zOk rfl rfl tg ?_
 refine S.pure tOk zOk rfl rfl rfl ?_
 refine thenK_n ?_
 refine W.cond rfl (fun c1 => ?_) (fun c1 => ?_)
 ·skip
  refine W.seq ?_
  refine W.region ?_
  refine S.pure tOk zOk rfl rfl rfl ?_
  refine thenK_n ?_
  refine W.ret ?_
  refine blockK_r ?_
  refine thenK_r ?_
  exact ⟨_, rfl, rfl, LeV.of_force rfl (by (try simp only [List.toList_toArray, Int.toNat_zero] at c1); simp only [shareB, share_min, shX, c1, Bool.false_eq_true, if_false, if_true, reduceIte] <;> rfl)⟩
 ·skip
  refine W.seq ?_
  refine W.region ?_
  refine S.pure tOk zOk rfl rfl rfl ?_
  refine S.pure tOk zOk rfl rfl rfl ?_
  refine S.pure tOk zOk rfl rfl rfl ?_
  refine thenK_n ?_
  refine W.cond rfl (fun c2 => ?_) (fun c2 => ?_)
  ·skip
   refine W.seq ?_
   refine W.region ?_
   refine S.pure tOk zOk rfl rfl rfl ?_
   refine thenK_n ?_
   refine W.ret ?_
   refine blockK_r ?_
   refine thenK_r ?_
   exact ⟨_, rfl, rfl, LeV.of_force rfl (by (try simp only [List.toList_toArray, Int.toNat_zero] at c1 c2); simp only [shareB, share_min, shX, c1, c2, Bool.false_eq_true, if_false, if_true, reduceIte] <;> rfl)⟩
  ·skip
   refine W.skip ?_
   refine blockK_n ?_
   refine thenK_n ?_
   refine W.seq ?_
   refine W.region ?_
   refine S.pure tOk zOk rfl rfl rfl ?_
   refine S.pure tOk zOk rfl rfl rfl ?_
   refine S.pure tOk zOk rfl rfl rfl ?_
   refine S.pure tOk zOk rfl rfl rfl ?_
   refine S.pure tOk zOk rfl rfl rfl ?_
   refine S.pure tOk zOk rfl rfl rfl ?_
   refine S.pure tOk zOk rfl rfl rfl ?_
   refine S.pure tOk zOk rfl rfl rfl ?_
   refine S.pure tOk zOk rfl rfl rfl ?_
   refine S.pure tOk zOk rfl rfl rfl ?_
   refine S.pure tOk zOk rfl rfl rfl ?_
   refine S.pure tOk zOk rfl rfl rfl ?_
   refine S.pure tOk zOk rfl rfl rfl ?_
   refine thenK_n ?_
   refine W.ret ?_
   exact ⟨_, rfl, rfl, LeV.of_force rfl (by (try simp only [List.toList_toArray, Int.toNat_zero] at c1 c2); simp only [shareB, share_min, shX, c1, c2, Bool.false_eq_true, if_false, if_true, reduceIte] <;> rfl)⟩
theorem pc_ShareOf (o : Ofr) (t : Int) :
  PureCall Tryz.prog J 25 [ofrV o, .one (.d (.int .i64 t))] (.one (.d (.int .i64 (shareB o t)))) := by
 refine PureCall.of_body tOk (fn := Tryz.f25) Tryz.func25 (by kernel_rfl) rfl (Nat.le_of_ble_eq_true rfl) (fun E => ?_)
 refine W.seq ?_
 refine W.region ?_
 refine S.box rfl rfl rfl rfl ?_
 refine S.pure tOk zOk rfl rfl rfl ?_
 refine thenK_n ?_
 refine W.seq ?_
 refine W.block ?_
 refine W.seq ?_
 refine W.region ?_
 refine S.pure tOk zOk rfl rfl rfl ?_
 refine S.pure tOk zOk rfl rfl rfl ?_
 refine S.pure tOk zOk rfl rfl rfl ?_
 refine S.pure tOk zOk rfl rfl rfl ?_
 refine S.pure tOk zOk rfl rfl rfl ?_
 refine S.pureG tOk zOk rfl rfl tg (fun _ => rfl) rfl ?_
 refine S.pureG tOk zOk rfl rfl tg (fun _ => rfl) rfl ?_
 refine S.pickOr tOk zOk rfl rfl tg ?_
 refine S.pure tOk zOk rfl rfl rfl ?_
 refine thenK_n ?_
 refine W.cond rfl (fun c1 => ?_) (fun c1 => ?_)
 ·skip
  refine W.seq ?_
  refine W.region ?_
  refine S.pure tOk zOk rfl rfl rfl ?_
  refine thenK_n ?_
  refine W.ret ?_
  refine blockK_r ?_
  refine thenK_r ?_
  exact ⟨_, rfl, rfl, LeV.of_force rfl (by (try simp only [List.toList_toArray, Int.toNat_zero] at c1); simp only [shareB, shX, c1, Bool.false_eq_true, if_false, if_true, reduceIte] <;> rfl)⟩
 ·skip
  refine W.seq ?_
  refine W.region ?_
  refine S.pure tOk zOk rfl rfl rfl ?_
  refine S.pure tOk zOk rfl rfl rfl ?_
  refine S.pure tOk zOk rfl rfl rfl ?_
  refine thenK_n ?_
  refine W.cond rfl (fun c2 => ?_) (fun c2 => ?_)
  ·skip
   refine W.seq ?_
   refine W.region ?_
   refine S.pure tOk zOk rfl rfl rfl ?_
   refine thenK_n ?_
   refine W.ret ?_
   refine blockK_r ?_
   refine thenK_r ?_
   exact ⟨_, rfl, rfl, LeV.of_force rfl (by (try simp only [List.toList_toArray, Int.toNat_zero] at c1 c2); simp only [shareB, shX, c1, c2, Bool.false_eq_true, if_false, if_true, reduceIte] <;> rfl)⟩
  ·skip
   refine W.skip ?_
   refine blockK_n ?_
   refine thenK_n ?_
   refine W.seq ?_
   refine W.region ?_
   refine S.pure tOk zOk rfl rfl rfl ?_
   refine S.pure tOk zOk rfl rfl rfl ?_
   refine S.pure tOk zOk rfl rfl rfl ?_
   refine S.pure tOk zOk rfl rfl rfl ?_
   refine S.pure tOk zOk rfl rfl rfl ?_
   refine S.pure tOk zOk rfl rfl rfl ?_
   refine S.pure tOk zOk rfl rfl rfl ?_
   refine S.pure tOk zOk rfl rfl rfl ?_
   refine S.pure tOk zOk rfl rfl rfl ?_
   refine S.pure tOk zOk rfl rfl rfl ?_
   refine S.pure tOk zOk rfl rfl rfl ?_
   refine S.pure tOk zOk rfl rfl rfl ?_
   refine S.pure tOk zOk rfl rfl rfl ?_
   refine thenK_n ?_
   refine W.ret ?_
   exact ⟨_, rfl, rfl, LeV.of_force rfl (by (try simp only [List.toList_toArray, Int.toNat_zero] at c1 c2); simp only [shareB, shX, c1, c2, Bool.false_eq_true, if_false, if_true, reduceIte] <;> rfl)⟩
theorem pc_Share (o : Ofr) (ho : OfrOk o) (t : Int) :
  PureCall Tryz.prog J 23 [ofrV o, .one (.d (.int .i64 t))] (.tup [.one (.d (.int .i64 (ShareP o t).1)), .one (.d (.int .i64 (ShareP o t).2))]) := by
 refine PureCall.of_body tOk (fn := Tryz.f23) Tryz.func23 (by kernel_rfl) rfl (Nat.le_of_ble_eq_true rfl) (fun E => ?_)
 refine W.seq ?_
 refine W.region ?_
 refine S.box rfl rfl rfl rfl ?_
 refine S.pure tOk zOk rfl rfl rfl ?_
 refine S.pure tOk zOk rfl rfl rfl ?_
 refine thenK_n ?_
 refine W.seq ?_
 refine W.seq ?_
 refine W.region ?_
 refine S.pure tOk zOk rfl rfl rfl ?_
 refine S.pure tOk zOk rfl rfl rfl ?_
 refine S.call rfl rfl rfl rfl rfl (pc_timed o ho t) ?_
 refine S.pure tOk zOk rfl rfl rfl ?_
 refine thenK_n ?_
 refine W.seq ?_
 refine W.region ?_
 refine S.pure tOk zOk rfl rfl rfl ?_
 refine S.pure tOk zOk rfl rfl rfl ?_
 refine thenK_n ?_
 refine W.cond rfl (fun c1 => ?_) (fun c1 => ?_)
 ·skip
  refine W.seq ?_
  refine W.region ?_
  refine S.pure tOk zOk rfl rfl rfl ?_
  refine S.pure tOk zOk rfl rfl rfl ?_
  refine S.pure tOk zOk rfl rfl rfl ?_
  refine thenK_n ?_
  refine W.ret ?_
  refine thenK_r ?_
  exact ⟨_, rfl, rfl, LeV.of_force rfl (by (try simp only [List.toList_toArray, Int.toNat_zero] at c1); simp only [ShareP, c1, Bool.false_eq_true, if_false, if_true, reduceIte] <;> rfl)⟩
 ·skip
  refine W.skip ?_
  refine thenK_n ?_
  refine W.seq ?_
  refine W.region ?_
  refine S.pure tOk zOk rfl rfl rfl ?_
  refine S.pure tOk zOk rfl rfl rfl ?_
  refine S.call rfl rfl rfl rfl rfl (pc_shareAt o t) ?_
  refine S.pure tOk zOk rfl rfl rfl ?_
  refine S.pure tOk zOk rfl rfl rfl ?_
  refine thenK_n ?_
  refine W.ret ?_
  exact ⟨_, rfl, rfl, LeV.of_force rfl (by (try simp only [List.toList_toArray, Int.toNat_zero] at c1); simp only [ShareP, c1, Bool.false_eq_true, if_false, if_true, reduceIte] <;> rfl)⟩
theorem pc_place (m n : List UInt8) (v : Ver) (hm : m.length ≤ 2000000) (hn : n.length ≤ 2000000) (hv : VerOk v) (he : v.e.length ≤ 2000000) :
  PureCall Tryz.prog J 55 [.one (.d (.str m)), .one (.d (.str n)), verV v] (.one (.d (.int .i64 (plcP m n v)))) := by
 have hpl := printB_len hv
 have htl := textB_len hv
 refine PureCall.of_body tOk (fn := Tryz.f55) Tryz.func55 (by kernel_rfl) rfl (Nat.le_of_ble_eq_true rfl) (fun E => ?_)
 refine W.seq ?_
 refine W.region ?_
 refine S.box rfl rfl rfl rfl ?_
 refine S.pure tOk zOk rfl rfl rfl ?_
 refine thenK_n ?_
 refine W.seq ?_
 refine W.region ?_
 refine S.pure tOk zOk rfl rfl rfl ?_
 refine S.call rfl rfl rfl rfl rfl (pc_ver_Print v (by omega) hv) ?_
 refine S.pure tOk zOk rfl rfl rfl ?_
 refine S.pure tOk zOk rfl rfl rfl ?_
 refine S.pure tOk zOk rfl rfl rfl ?_
 refine S.pure tOk zOk rfl rfl rfl ?_
 refine S.pure tOk zOk rfl rfl rfl ?_
 refine thenK_n ?_
 refine W.seq ?_
 refine W.region ?_
 refine S.pure tOk zOk rfl rfl rfl ?_
 refine S.pure tOk zOk rfl (cat_ok (by simp [-List.getD_eq_getElem?_getD]; omega)) rfl ?_
 refine S.pure tOk zOk rfl rfl rfl ?_
 refine S.pure tOk zOk rfl (cat_ok (by simp [-List.getD_eq_getElem?_getD]; omega)) rfl ?_
 refine S.pure tOk zOk rfl (cat_ok (by simp [-List.getD_eq_getElem?_getD]; omega)) rfl ?_
 refine S.pure tOk zOk rfl rfl rfl ?_
 refine S.pure tOk zOk rfl (cat_ok (by simp [-List.getD_eq_getElem?_getD]; omega)) rfl ?_
 refine S.call rfl rfl rfl rfl rfl (pc_disk_SumOf (plcT m n (printB v).1) (by unfold plcT; simp; omega)) ?_
 refine S.pureE tOk zOk rfl (sl_okT (l := 0) (h := 8) rfl rfl (by decide) (by decide) (by rw [sumT_len]; omega)) (take8 _) rfl ?_
 refine S.call rfl rfl rfl rfl rfl (pc_ParseUint _ (plc_digs _).1 (plc_digs _).2.1 (plc_digs _).2.2) ?_
 refine S.pure tOk zOk rfl rfl rfl ?_
 refine S.pure tOk zOk rfl rfl rfl ?_
 refine S.pure tOk zOk rfl rfl rfl ?_
 refine S.pure tOk zOk rfl rfl rfl ?_
 refine S.pure tOk zOk rfl rfl rfl ?_
 refine thenK_n ?_
 refine W.seq ?_
 refine W.seq ?_
 refine W.region ?_
 refine S.pure tOk zOk rfl rfl rfl ?_
 refine S.pure tOk zOk rfl rfl rfl ?_
 refine thenK_n ?_
 refine W.condF rfl rfl ?_
 refine W.skip ?_
 refine thenK_n ?_
 refine W.seq ?_
 refine W.region ?_
 refine S.pure tOk zOk rfl rfl rfl ?_
 refine S.pure tOk zOk rfl rfl rfl ?_
 refine S.pure tOk zOk rfl rfl rfl ?_
 refine S.pure tOk zOk rfl rfl rfl ?_
 refine thenK_n ?_
 refine W.ret ?_
 exact ⟨_, rfl, rfl, LeV.refl _⟩
theorem pc_PlaceOf (m n : List UInt8) (v : Ver) (hm : m.length ≤ 2000000) (hn : n.length ≤ 2000000) (hv : VerOk v) (he : v.e.length ≤ 2000000) :
  PureCall Tryz.prog J 22 [.one (.d (.str m)), .one (.d (.str n)), verV v] (.one (.d (.int .i64 (plcR m n v)))) := by
 have hpl := printB_len hv
 have htl := textB_len hv
 refine PureCall.of_body tOk (fn := Tryz.f22) Tryz.func22 (by kernel_rfl) rfl (Nat.le_of_ble_eq_true rfl) (fun E => ?_)
 refine W.seq ?_
 refine W.region ?_
 refine S.box rfl rfl rfl rfl ?_
 refine S.pure tOk zOk rfl rfl rfl ?_
 refine thenK_n ?_
 refine W.seq ?_
 refine W.region ?_
 refine S.pure tOk zOk rfl rfl rfl ?_
 refine S.pure tOk zOk rfl (cat_ok (by simp [-List.getD_eq_getElem?_getD]; omega)) rfl ?_
 refine S.pure tOk zOk rfl rfl rfl ?_
 refine S.pure tOk zOk rfl (cat_ok (by simp [-List.getD_eq_getElem?_getD]; omega)) rfl ?_
 refine S.pure tOk zOk rfl (cat_ok (by simp [-List.getD_eq_getElem?_getD]; omega)) rfl ?_
 refine S.pure tOk zOk rfl rfl rfl ?_
 refine S.call rfl rfl rfl rfl rfl (pc_outref2_VersionText v (by omega) hv) ?_
 refine S.pure tOk zOk rfl (cat_ok (by simp [-List.getD_eq_getElem?_getD]; omega)) rfl ?_
 refine S.call rfl rfl rfl rfl rfl (pc_outref2_SumOf (plcT m n (textB v.a v.b v.c v.e)) (by unfold plcT; simp; omega)) ?_
 refine S.pureE tOk zOk rfl (sl_okT (l := 0) (h := 8) rfl rfl (by decide) (by decide) (by rw [sumT_len]; omega)) (take8 _) rfl ?_
 refine S.call rfl rfl rfl rfl rfl (pc_ParseUint _ (plc_digs _).1 (plc_digs _).2.1 (plc_digs _).2.2) ?_
 refine S.pure tOk zOk rfl rfl rfl ?_
 refine S.pure tOk zOk rfl rfl rfl ?_
 refine S.pure tOk zOk rfl rfl rfl ?_
 refine S.pure tOk zOk rfl rfl rfl ?_
 refine S.pure tOk zOk rfl rfl rfl ?_
 refine thenK_n ?_
 refine W.seq ?_
 refine W.region ?_
 refine S.pure tOk zOk rfl rfl rfl ?_
 refine S.pure tOk zOk rfl rfl rfl ?_
 refine S.pure tOk zOk rfl rfl rfl ?_
 refine S.pure tOk zOk rfl rfl rfl ?_
 refine thenK_n ?_
 refine W.ret ?_
 exact ⟨_, rfl, rfl, LeV.refl _⟩
theorem pc_Place (m n : List UInt8) (v : Ver) (hm : m.length ≤ 2000000) (hn : n.length ≤ 2000000) (hv : VerOk v) (he : v.e.length ≤ 2000000) :
  PureCall Tryz.prog J 19 [.one (.d (.str m)), .one (.d (.str n)), verV v] (.tup [.one (.d (.int .i64 (PlaceP m n v).1)), .one (.d (.int .i64 (PlaceP m n v).2))]) := by
 refine PureCall.of_body tOk (fn := Tryz.f19) Tryz.func19 (by kernel_rfl) rfl (Nat.le_of_ble_eq_true rfl) (fun E => ?_)
 refine W.seq ?_
 refine W.region ?_
 refine S.box rfl rfl rfl rfl ?_
 refine S.pure tOk zOk rfl rfl rfl ?_
 refine S.pure tOk zOk rfl rfl rfl ?_
 refine thenK_n ?_
 refine W.seq ?_
 refine W.seq ?_
 refine W.region ?_
 refine S.pure tOk zOk rfl rfl rfl ?_
 refine S.call rfl rfl rfl rfl rfl (pc_ver_IsName m (by omega)) ?_
 refine S.pure tOk zOk rfl rfl rfl ?_
 refine S.pure tOk zOk rfl rfl rfl ?_
 refine S.pureG tOk zOk rfl rfl tg (fun _ => rfl) rfl ?_
 refine S.callG rfl rfl rfl rfl tg rfl rfl (fun h => pc_ver_IsName n (by omega)) ?_
 refine S.pureG tOk zOk rfl rfl tg (fun _ => rfl) rfl ?_
 refine S.pickOr tOk zOk rfl rfl tg ?_
 refine thenK_n ?_
 refine W.cond rfl (fun c1 => ?_) (fun c1 => ?_)
 ·skip
  refine W.seq ?_
  refine W.region ?_
  refine S.pure tOk zOk rfl rfl rfl ?_
  refine S.pure tOk zOk rfl rfl rfl ?_
  refine thenK_n ?_
  refine W.ret ?_
  refine thenK_r ?_
  exact ⟨_, rfl, rfl, LeV.of_force rfl (by (try simp only [List.toList_toArray, Int.toNat_zero] at c1); simp only [PlaceP, c1, Bool.false_eq_true, if_false, if_true, reduceIte] <;> rfl)⟩
 ·skip
  refine W.skip ?_
  refine thenK_n ?_
  refine W.seq ?_
  refine W.seq ?_
  refine W.region ?_
  refine S.pure tOk zOk rfl rfl rfl ?_
  refine S.call rfl rfl rfl rfl rfl (pc_ver_Check v (by omega)) ?_
  refine S.pure tOk zOk rfl rfl rfl ?_
  refine thenK_n ?_
  refine W.seq ?_
  refine W.region ?_
  refine S.pure tOk zOk rfl rfl rfl ?_
  refine S.pure tOk zOk rfl rfl rfl ?_
  refine thenK_n ?_
  refine W.cond rfl (fun c2 => ?_) (fun c2 => ?_)
  ·skip
   refine W.seq ?_
   refine W.region ?_
   refine S.pure tOk zOk rfl rfl rfl ?_
   refine S.pure tOk zOk rfl rfl rfl ?_
   refine S.pure tOk zOk rfl rfl rfl ?_
   refine thenK_n ?_
   refine W.ret ?_
   refine thenK_r ?_
   exact ⟨_, rfl, rfl, LeV.of_force rfl (by (try simp only [List.toList_toArray, Int.toNat_zero] at c1 c2); simp only [PlaceP, c1, c2, Bool.false_eq_true, if_false, if_true, reduceIte] <;> rfl)⟩
  ·skip
   refine W.skip ?_
   refine thenK_n ?_
   refine W.seq ?_
   refine W.region ?_
   refine S.pure tOk zOk rfl rfl rfl ?_
   refine S.pure tOk zOk rfl rfl rfl ?_
   refine S.pure tOk zOk rfl rfl rfl ?_
   refine S.call rfl rfl rfl rfl rfl (pc_place m n v hm hn hv he) ?_
   refine S.pure tOk zOk rfl rfl rfl ?_
   refine S.pure tOk zOk rfl rfl rfl ?_
   refine thenK_n ?_
   refine W.ret ?_
   exact ⟨_, rfl, rfl, LeV.of_force rfl (by (try simp only [List.toList_toArray, Int.toNat_zero] at c1 c2); simp only [PlaceP, c1, c2, Bool.false_eq_true, if_false, if_true, reduceIte] <;> rfl)⟩
theorem pc_reach1 (m : List UInt8) (hm : m.length ≤ 2000000) :
  PureCall Tryz.prog J 63 [.one (.d (.str m))] (.one (.d (.bool (!nameB m)))) := by
 refine PureCall.of_body tOk (fn := Tryz.f63) Tryz.func63 (by kernel_rfl) rfl (Nat.le_of_ble_eq_true rfl) (fun E => ?_)
 refine W.seq ?_
 refine W.region ?_
 refine S.pure tOk zOk rfl rfl rfl ?_
 refine thenK_n ?_
 refine W.seq ?_
 refine W.region ?_
 refine S.pure tOk zOk rfl rfl rfl ?_
 refine S.call rfl rfl rfl rfl rfl (pc_ver_IsName m (by omega)) ?_
 refine S.pure tOk zOk rfl rfl rfl ?_
 refine S.pure tOk zOk rfl rfl rfl ?_
 refine thenK_n ?_
 refine W.ret ?_
 exact ⟨_, rfl, rfl, LeV.refl _⟩
theorem pc_IndexFuncS (f : Nat) (φ : List UInt8 → Bool) (l : List (List UInt8)) (hl : l.length ≤ 1000000000) (hc : ∀ x ∈ l, PureCall Tryz.prog J f [.one (.d (.str x))] (.one (.d (.bool (φ x))))) :
  PureCall Tryz.prog J 112 [.one (.d (.vec 1 (l.map fun x => [.str x]))), .one (.d (.fn f))] (.one (.d (.int .i64 (idxOf φ l)))) := by
 refine PureCall.of_body tOk (fn := Tryz.f112) Tryz.func112 (by kernel_rfl) rfl (Nat.le_of_ble_eq_true rfl) (fun E => ?_)
 refine W.seq ?_
 refine W.region ?_
 refine S.pure tOk zOk rfl rfl rfl ?_
 refine thenK_n ?_
 refine W.seq ?_
 refine W.seq ?_
 refine W.region ?_
 refine S.pure tOk zOk rfl rfl rfl ?_
 refine S.pure tOk zOk rfl rfl rfl ?_
 refine S.pure tOk zOk rfl rfl rfl ?_
 refine thenK_n ?_
 refine W.block ?_
 refine W.loop (fun k st => ∃ i : Nat, i ≤ l.length ∧ (l.take i).any φ = false ∧ k = l.length - i ∧ ∃ t b2 r2 m2, st = ⟨t, [] ++ b2, [] ++ r2, [] ++ m2⟩ ∧ holdsL t [(0, .one (.d (.vec 1 (l.map fun x => [.str x])))), (1, .one (.d (.fn f))), (6, .one (.d (.vec 1 (l.map fun x => [.str x])))), (7, .one (.d (.int .i64 ((l.map fun x => ([.str x] : List D)).length : Int)))), (8, .one (.d (.int .i64 (i : Int))))]) (l.length) ⟨0, Nat.zero_le _, by simp, rfl, _, _, _, _, rfl, rfl, rfl, rfl, rfl, rfl, trivial⟩ ?_
 rintro k0 _ ⟨i, f0_0, f0_1, rfl, t0, bb0, rr0, mm0, rfl, hh0⟩
 refine W.keepR _ _ _ _ _ _ _ hh0 rfl ?_
 refine W.seq ?_
 refine W.region ?_
 refine S.pure tOk zOk rfl rfl rfl ?_
 refine thenK_n ?_
 refine W.seq ?_
 refine W.cond rfl (fun c1 => ?_) (fun c1 => ?_)
 ·skip
  have hi := row_lt c1
  refine W.skip ?_
  refine thenK_n ?_
  refine W.seq ?_
  refine W.block ?_
  refine W.seq ?_
  refine W.region ?_
  refine S.pure tOk zOk rfl rfl rfl ?_
  refine S.pure tOk zOk rfl rfl rfl ?_
  refine thenK_n ?_
  refine W.seq ?_
  refine W.region ?_
  refine S.pure tOk zOk rfl rfl rfl ?_
  refine S.pure tOk zOk rfl rfl rfl ?_
  refine S.pure tOk zOk rfl rfl rfl ?_
  refine S.pureE tOk zOk rfl (row_ok hi) (row_at [] hi) rfl ?_
  refine S.pure tOk zOk rfl rfl rfl ?_
  refine S.call rfl rfl rfl rfl rfl (hc (l.getD i []) (memS hi)) ?_
  refine thenK_n ?_
  refine W.cond rfl (fun c2 => ?_) (fun c2 => ?_)
  ·skip
   refine W.seq ?_
   refine W.region ?_
   refine S.pure tOk zOk rfl rfl rfl ?_
   refine S.pure tOk zOk rfl rfl rfl ?_
   refine thenK_n ?_
   refine W.ret ?_
   refine blockK_r ?_
   refine thenK_r ?_
   refine thenK_r ?_
   refine blockK_r ?_
   refine thenK_r ?_
   exact ⟨_, rfl, rfl, LeV.of_eq (congrArg (fun x => V.one (C.d (D.int .i64 x))) (idxOf_at (d := []) hi f0_1 c2).symm)⟩
  ·skip
   refine W.skip ?_
   refine blockK_n ?_
   refine thenK_n ?_
   refine W.region ?_
   refine S.pure tOk zOk rfl rfl rfl ?_
   refine S.pure tOk zOk rfl rfl rfl ?_
   refine loop_n (l.length - (i + 1)) (by omega) ⟨i + 1, hi, any_take (d := []) hi f0_1 c2, rfl, _, _, _, _, rfl, rfl, rfl, rfl, rfl, inc_i64 (by omega), trivial⟩
 ·skip
  have hi := row_ge c1
  refine W.exit ?_
  refine thenK_e ?_
  refine thenK_e ?_
  refine blockK_x ?_
  refine thenK_n ?_
  refine W.seq ?_
  refine W.region ?_
  refine S.pure tOk zOk rfl rfl rfl ?_
  refine thenK_n ?_
  refine W.ret ?_
  exact ⟨_, rfl, rfl, LeV.of_eq (congrArg (fun x => V.one (C.d (D.int .i64 x))) (idxOf_none (any_end hi f0_1)).symm)⟩
theorem pc_ContainsFuncS (f : Nat) (φ : List UInt8 → Bool) (l : List (List UInt8)) (hl : l.length ≤ 1000000000) (hc : ∀ x ∈ l, PureCall Tryz.prog J f [.one (.d (.str x))] (.one (.d (.bool (φ x))))) :
  PureCall Tryz.prog J 62 [.one (.d (.vec 1 (l.map fun x => [.str x]))), .one (.d (.fn f))] (.one (.d (.bool (l.any φ)))) := by
 refine PureCall.of_body tOk (fn := Tryz.f62) Tryz.func62 (by kernel_rfl) rfl (Nat.le_of_ble_eq_true rfl) (fun E => ?_)
 refine W.seq ?_
 refine W.region ?_
 refine S.pure tOk zOk rfl rfl rfl ?_
 refine thenK_n ?_
 refine W.seq ?_
 refine W.region ?_
 refine S.pure tOk zOk rfl rfl rfl ?_
 refine S.pure tOk zOk rfl rfl rfl ?_
 refine S.call rfl rfl rfl rfl rfl (pc_IndexFuncS f φ l hl hc) ?_
 refine S.pure tOk zOk rfl rfl rfl ?_
 refine S.pure tOk zOk rfl rfl rfl ?_
 refine thenK_n ?_
 refine W.ret ?_
 exact ⟨_, rfl, rfl, LeV.of_eq (congrArg (fun x => V.one (C.d (D.bool x))) idxOf_ge)⟩
theorem pc_Reached (o : Ofr) (ho : OfrOk o) (l : List (List UInt8)) (hl : l.length ≤ 2000000) (hlm : ∀ m ∈ l, m.length ≤ 2000000) (u : Int) :
  PureCall Tryz.prog J 26 [ofrV o, .one (.d (.vec 1 (l.map fun x => [.str x]))), .one (.d (.int .i64 u))] (.tup [.one (.d (.vec 1 ((ReachP o l u).1.map fun x => [.str x]))), .one (.d (.int .i64 (ReachP o l u).2))]) := by
 refine PureCall.of_body tOk (fn := Tryz.f26) Tryz.func26 (by kernel_rfl) rfl (Nat.le_of_ble_eq_true rfl) (fun E => ?_)
 refine W.seq ?_
 refine W.region ?_
 refine S.box rfl rfl rfl rfl ?_
 refine S.pure tOk zOk rfl rfl rfl ?_
 refine S.pure tOk zOk rfl rfl rfl ?_
 refine thenK_n ?_
 refine W.seq ?_
 refine W.seq ?_
 refine W.region ?_
 refine S.pure tOk zOk rfl rfl rfl ?_
 refine S.pure tOk zOk rfl rfl rfl ?_
 refine S.call rfl rfl rfl rfl rfl (pc_timed o ho u) ?_
 refine S.pure tOk zOk rfl rfl rfl ?_
 refine thenK_n ?_
 refine W.seq ?_
 refine W.region ?_
 refine S.pure tOk zOk rfl rfl rfl ?_
 refine S.pure tOk zOk rfl rfl rfl ?_
 refine thenK_n ?_
 refine W.cond rfl (fun c1 => ?_) (fun c1 => ?_)
 ·skip
  refine W.seq ?_
  refine W.region ?_
  refine S.pure tOk zOk rfl rfl rfl ?_
  refine S.pure tOk zOk rfl rfl rfl ?_
  refine S.pure tOk zOk rfl rfl rfl ?_
  refine thenK_n ?_
  refine W.ret ?_
  refine thenK_r ?_
  exact ⟨_, rfl, rfl, le_reach (rp_1 c1)⟩
 ·skip
  refine W.skip ?_
  refine thenK_n ?_
  refine W.seq ?_
  refine W.seq ?_
  refine W.region ?_
  refine S.pure tOk zOk rfl rfl rfl ?_
  refine S.pure tOk zOk rfl rfl rfl ?_
  refine S.pure tOk zOk rfl rfl rfl ?_
  refine thenK_n ?_
  refine W.cond rfl (fun c2 => ?_) (fun c2 => ?_)
  ·skip
   refine W.seq ?_
   refine W.region ?_
   refine S.pure tOk zOk rfl rfl rfl ?_
   refine S.pure tOk zOk rfl rfl rfl ?_
   refine thenK_n ?_
   refine W.ret ?_
   refine thenK_r ?_
   exact ⟨_, rfl, rfl, le_reach (rp_2 c1 c2)⟩
  ·skip
   refine W.skip ?_
   refine thenK_n ?_
   refine W.seq ?_
   refine W.seq ?_
   refine W.region ?_
   refine S.pure tOk zOk rfl rfl rfl ?_
   refine S.call rfl rfl rfl rfl rfl (pc_ContainsFuncS 63 (fun m => !nameB m) l (by omega) (fun x hx => pc_reach1 x (hlm x hx))) ?_
   refine thenK_n ?_
   refine W.cond rfl (fun c3 => ?_) (fun c3 => ?_)
   ·skip
    refine W.seq ?_
    refine W.region ?_
    refine S.pure tOk zOk rfl rfl rfl ?_
    refine S.pure tOk zOk rfl rfl rfl ?_
    refine thenK_n ?_
    refine W.ret ?_
    refine thenK_r ?_
    exact ⟨_, rfl, rfl, le_reach (rp_3 c1 c2 c3)⟩
   ·skip
    refine W.skip ?_
    refine thenK_n ?_
    refine W.seq ?_
    refine W.region ?_
    refine S.pure tOk zOk rfl rfl rfl ?_
    refine S.pure tOk zOk rfl rfl rfl ?_
    refine S.call rfl rfl rfl rfl rfl (pc_shareAt o u) ?_
    refine S.pure tOk zOk rfl rfl rfl ?_
    refine thenK_n ?_
    refine W.seq ?_
    refine W.region ?_
    refine S.pure tOk zOk rfl rfl rfl ?_
    refine thenK_n ?_
    refine W.seq ?_
    refine W.seq ?_
    refine W.region ?_
    refine S.pure tOk zOk rfl rfl rfl ?_
    refine S.pure tOk zOk rfl rfl rfl ?_
    refine S.pure tOk zOk rfl rfl rfl ?_
    refine thenK_n ?_
    refine W.newRow 10 1 9 rfl ?_
    refine W.block ?_
    refine W.loop (fun k st => ∃ i : Nat, ∃ v : Nat, ∃ al : Bool, i ≤ l.length ∧ k = l.length - i ∧ ∃ t b2 r2 m2, st = ⟨t, [(match ofrV o with | .agg cs => cs | _ => [])] ++ b2, [some ⟨al, v, 1, 9, ((reachT o u l i).map fun x => ([.str x] : List D))⟩] ++ r2, [] ++ m2⟩ ∧ holdsL t [(3, .one (.ptr 0 0)), (9, .one (.d (.int .i64 (shareB o u)))), (10, .one (.row 0 v 0 ((reachT o u l i).map fun x => ([.str x] : List D)).length)), (27, .one (.d (.vec 1 (l.map fun x => [.str x])))), (28, .one (.d (.int .i64 ((l.map fun x => ([.str x] : List D)).length : Int)))), (29, .one (.d (.int .i64 (i : Int))))]) (l.length) ⟨0, _, _, Nat.zero_le _, rfl, _, _, _, _, rfl, rfl, rfl, rfl, rfl, rfl, rfl, trivial⟩ ?_
    rintro k0 _ ⟨i, v, al, f0_0, rfl, t0, bb0, rr0, mm0, rfl, hh0⟩
    refine W.keepR _ _ _ _ _ _ _ hh0 rfl ?_
    refine W.seq ?_
    refine W.region ?_
    refine S.pure tOk zOk rfl rfl rfl ?_
    refine thenK_n ?_
    refine W.seq ?_
    refine W.cond rfl (fun c4 => ?_) (fun c4 => ?_)
    ·skip
     have hi := row_lt c4
     refine W.skip ?_
     refine thenK_n ?_
     refine W.seq ?_
     refine W.block ?_
     refine W.seq ?_
     refine W.region ?_
     refine S.pureE tOk zOk rfl (row_ok hi) (row_at [] hi) rfl ?_
     refine S.pure tOk zOk rfl rfl rfl ?_
     refine S.pure tOk zOk rfl rfl rfl ?_
     refine thenK_n ?_
     refine W.seq ?_
     refine W.region ?_
     refine S.pure tOk zOk rfl rfl rfl ?_
     refine S.pure tOk zOk rfl rfl rfl ?_
     refine S.pure tOk zOk rfl rfl rfl ?_
     refine S.pure tOk zOk rfl rfl rfl ?_
     refine S.pure tOk zOk rfl rfl rfl ?_
     refine S.call rfl rfl rfl rfl rfl (pc_place (l.getD i []) o.n o.v (hlm _ (memS hi)) ho.n ho.v ho.e) ?_
     refine S.pure tOk zOk rfl rfl rfl ?_
     refine S.pure tOk zOk rfl rfl rfl ?_
     refine thenK_n ?_
     refine W.cond rfl (fun c5 => ?_) (fun c5 => ?_)
     ·skip
      refine W.region ?_
      refine S.pure tOk zOk rfl rfl rfl ?_
      refine S.pure tOk zOk rfl rfl rfl ?_
      refine S.slice tOk rfl rfl ?_
      refine S.append tOk rfl rfl rfl rfl rfl rfl rfl rfl rfl rfl rfl rfl (by have hq := reach_le o u l i; show _ + 1 ≤ _; rw [List.length_map]; omega) rfl (reach_row hi c5) rfl ?_
      refine S.pure tOk zOk rfl rfl rfl ?_
      refine blockK_n ?_
      refine thenK_n ?_
      refine W.region ?_
      refine S.pure tOk zOk rfl rfl rfl ?_
      refine S.pure tOk zOk rfl rfl rfl ?_
      refine loop_n (l.length - (i + 1)) (by omega) ⟨i + 1, _, _, hi, rfl, _, _, _, _, rfl, rfl, rfl, rfl, rfl, rfl, inc_i64 (by omega), trivial⟩
     ·skip
      rw [reach_f hi c5]
      refine W.skip ?_
      refine blockK_n ?_
      refine thenK_n ?_
      refine W.region ?_
      refine S.pure tOk zOk rfl rfl rfl ?_
      refine S.pure tOk zOk rfl rfl rfl ?_
      refine loop_n (l.length - (i + 1)) (by omega) ⟨i + 1, _, _, hi, rfl, _, _, _, _, rfl, rfl, rfl, rfl, rfl, rfl, inc_i64 (by omega), trivial⟩
    ·skip
     have hi := row_ge c4
     obtain rfl : i = l.length := by omega
     refine W.exit ?_
     refine thenK_e ?_
     refine thenK_e ?_
     refine blockK_x ?_
     refine thenK_n ?_
     refine W.seq ?_
     refine W.freeze (ri := 0) (q := ⟨_, _, _, _, _⟩) [10] rfl (by intro k hk; simp at hk; subst hk; rfl) ?_
     refine W.region ?_
     refine S.pure tOk zOk rfl rfl rfl ?_
     refine S.pure tOk zOk rfl rfl rfl ?_
     refine S.pure tOk zOk rfl rfl rfl ?_
     refine thenK_n ?_
     refine W.ret ?_
     exact ⟨_, rfl, rfl, LeV.of_force rfl (by rw [rp_4 c1 c2 c3]; rfl)⟩
theorem pc_When (o : Ofr) (ho : OfrOk o) (m : List UInt8) (hm : m.length ≤ 2000000) :
  PureCall Tryz.prog J 28 [ofrV o, .one (.d (.str m))] (.tup [.one (.d (.int .i64 (WhenP o m).1.1)), .one (.d (.bool (WhenP o m).1.2)), .one (.d (.int .i64 (WhenP o m).2))]) := by
 refine PureCall.of_body tOk (fn := Tryz.f28) Tryz.func28 (by kernel_rfl) rfl (Nat.le_of_ble_eq_true rfl) (fun E => ?_)
 refine W.seq ?_
 refine W.region ?_
 refine S.box rfl rfl rfl rfl ?_
 refine S.pure tOk zOk rfl rfl rfl ?_
 refine S.pure tOk zOk rfl rfl rfl ?_
 refine S.pure tOk zOk rfl rfl rfl ?_
 refine thenK_n ?_
 refine W.seq ?_
 refine W.seq ?_
 refine W.region ?_
 refine S.pure tOk zOk rfl rfl rfl ?_
 refine S.call rfl rfl rfl rfl rfl (pc_offerFault o ho) ?_
 refine S.pure tOk zOk rfl rfl rfl ?_
 refine thenK_n ?_
 refine W.seq ?_
 refine W.region ?_
 refine S.pure tOk zOk rfl rfl rfl ?_
 refine S.pure tOk zOk rfl rfl rfl ?_
 refine thenK_n ?_
 refine W.cond rfl (fun c1 => ?_) (fun c1 => ?_)
 ·skip
  refine W.seq ?_
  refine W.region ?_
  refine S.pure tOk zOk rfl rfl rfl ?_
  refine S.pure tOk zOk rfl rfl rfl ?_
  refine S.pure tOk zOk rfl rfl rfl ?_
  refine S.pure tOk zOk rfl rfl rfl ?_
  refine thenK_n ?_
  refine W.ret ?_
  refine thenK_r ?_
  exact ⟨_, rfl, rfl, LeV.of_force rfl (by rw [wp_1 c1]; rfl)⟩
 ·skip
  refine W.skip ?_
  refine thenK_n ?_
  refine W.seq ?_
  refine W.seq ?_
  refine W.region ?_
  refine S.pure tOk zOk rfl rfl rfl ?_
  refine S.call rfl rfl rfl rfl rfl (pc_ver_IsName m (by omega)) ?_
  refine S.pure tOk zOk rfl rfl rfl ?_
  refine thenK_n ?_
  refine W.cond rfl (fun c2 => ?_) (fun c2 => ?_)
  ·skip
   refine W.seq ?_
   refine W.region ?_
   refine S.pure tOk zOk rfl rfl rfl ?_
   refine S.pure tOk zOk rfl rfl rfl ?_
   refine S.pure tOk zOk rfl rfl rfl ?_
   refine thenK_n ?_
   refine W.ret ?_
   refine thenK_r ?_
   exact ⟨_, rfl, rfl, LeV.of_force rfl (by rw [wp_2 c1 c2]; rfl)⟩
  ·skip
   refine W.skip ?_
   refine thenK_n ?_
   refine W.seq ?_
   refine W.regionD mixed (by kernel_rfl) ?_
   refine D.pure tOk zOk rfl rfl rfl rfl ?_
   refine D.pure tOk zOk rfl rfl rfl rfl ?_
   refine D.pure tOk zOk rfl rfl rfl rfl ?_
   refine D.pure tOk zOk rfl rfl rfl rfl ?_
   refine D.pure tOk zOk rfl rfl rfl rfl ?_
   refine D.call rfl rfl rfl rfl rfl (pc_place m o.n o.v hm ho.n ho.v ho.e) ?_
   refine D.pure tOk zOk rfl rfl rfl rfl ?_
   refine D.pure tOk zOk rfl rfl rfl rfl ?_
   refine D.pure tOk zOk rfl rfl rfl rfl ?_
   refine D.pure tOk zOk rfl rfl rfl rfl ?_
   refine D.pure tOk zOk rfl rfl rfl rfl ?_
   refine thenK_n ?_
   refine W.seq ?_
   refine W.block ?_
   refine W.seq ?_
   refine W.region ?_
   refine S.pure tOk zOk rfl rfl rfl ?_
   refine S.pure tOk zOk rfl rfl rfl ?_
   refine S.pure tOk zOk rfl rfl rfl ?_
   refine thenK_n ?_
   refine W.cond rfl (fun c3 => ?_) (fun c3 => ?_)
   ·skip
    refine W.seq ?_
    refine W.region ?_
    refine S.pure tOk zOk rfl rfl rfl ?_
    refine S.pure tOk zOk rfl rfl rfl ?_
    refine S.pure tOk zOk rfl rfl rfl ?_
    refine thenK_n ?_
    refine W.ret ?_
    refine blockK_r ?_
    refine thenK_r ?_
    exact ⟨_, rfl, rfl, LeV.of_force rfl (by rw [wp_3 c1 c2 c3]; rfl)⟩
   ·skip
    refine W.seq ?_
    refine W.region ?_
    refine S.pure tOk zOk rfl rfl rfl ?_
    refine S.pure tOk zOk rfl rfl rfl ?_
    refine S.pure tOk zOk rfl rfl rfl ?_
    refine S.pureG tOk zOk rfl rfl tg (fun _ => rfl) rfl ?_
    refine S.pureG tOk zOk rfl rfl tg (fun _ => rfl) rfl ?_
    refine S.pickOr tOk zOk rfl rfl tg ?_
    refine S.pure tOk zOk rfl rfl rfl ?_
    refine thenK_n ?_
    refine W.cond rfl (fun c4 => ?_) (fun c4 => ?_)
    ·skip
     refine W.seq ?_
     refine W.region ?_
     refine S.pure tOk zOk rfl rfl rfl ?_
     refine S.pure tOk zOk rfl rfl rfl ?_
     refine S.pure tOk zOk rfl rfl rfl ?_
     refine S.pure tOk zOk rfl rfl rfl ?_
     refine S.pure tOk zOk rfl rfl rfl ?_
     refine thenK_n ?_
     refine W.ret ?_
     refine blockK_r ?_
     refine thenK_r ?_
     exact ⟨_, rfl, rfl, LeV.of_force rfl (by rw [wp_4 c1 c2 c3 c4]; rfl)⟩
    ·skip
     refine W.seq ?_
     refine W.region ?_
     refine S.pure tOk zOk rfl rfl rfl ?_
     refine S.pure tOk zOk rfl rfl rfl ?_
     refine S.pure tOk zOk rfl rfl rfl ?_
     refine S.pure tOk zOk rfl rfl rfl ?_
     refine thenK_n ?_
     refine W.cond rfl (fun c5 => ?_) (fun c5 => ?_)
     ·skip
      refine W.seq ?_
      refine W.region ?_
      refine S.pure tOk zOk rfl rfl rfl ?_
      refine S.pure tOk zOk rfl rfl rfl ?_
      refine S.pure tOk zOk rfl rfl rfl ?_
      refine thenK_n ?_
      refine W.ret ?_
      refine blockK_r ?_
      refine thenK_r ?_
      exact ⟨_, rfl, rfl, LeV.of_force rfl (by rw [wp_5 c1 c2 c3 c4 c5]; rfl)⟩
     ·skip
      refine W.skip ?_
      refine blockK_n ?_
      refine thenK_n ?_
      refine W.seq ?_
      refine W.regionD mixed (by kernel_rfl) ?_
      refine D.pure tOk zOk rfl rfl rfl rfl ?_
      refine D.pure tOk zOk rfl rfl rfl rfl ?_
      refine D.pure tOk zOk rfl rfl rfl rfl ?_
      refine D.pure tOk zOk rfl rfl rfl rfl ?_
      refine D.pure tOk zOk rfl rfl rfl rfl ?_
      refine D.pure tOk zOk rfl rfl rfl rfl ?_
      refine D.pure tOk zOk rfl rfl rfl rfl ?_
      refine D.pure tOk zOk rfl rfl rfl rfl ?_
      refine D.pure tOk zOk rfl rfl rfl rfl ?_
      refine D.pure tOk zOk rfl rfl (show (!(o.g == 0)) = true from by rw [c5]; rfl) rfl ?_
      refine D.pure tOk zOk rfl rfl rfl rfl ?_
      refine D.pure tOk zOk rfl rfl rfl rfl ?_
      refine D.pure tOk zOk rfl rfl rfl rfl ?_
      refine thenK_n ?_
      refine W.seq ?_
      refine W.seq ?_
      refine W.region ?_
      refine S.pure tOk zOk rfl rfl rfl ?_
      refine S.pure tOk zOk rfl rfl rfl ?_
      refine thenK_n ?_
      refine W.cond rfl (fun c6 => ?_) (fun c6 => ?_)
      ·skip
       refine W.seq ?_
       refine W.region ?_
       refine S.pure tOk zOk rfl rfl rfl ?_
       refine S.pure tOk zOk rfl rfl rfl ?_
       refine S.pure tOk zOk rfl rfl rfl ?_
       refine thenK_n ?_
       refine W.ret ?_
       refine thenK_r ?_
       exact ⟨_, rfl, rfl, LeV.of_force rfl (by rw [wp_6 c1 c2 c3 c4 c5 c6]; rfl)⟩
      ·skip
       refine W.skip ?_
       refine thenK_n ?_
       refine W.seq ?_
       refine W.region ?_
       refine S.pure tOk zOk rfl rfl rfl ?_
       refine S.pure tOk zOk rfl rfl rfl ?_
       refine S.pure tOk zOk rfl rfl rfl ?_
       refine S.pure tOk zOk rfl rfl rfl ?_
       refine thenK_n ?_
       refine W.ret ?_
       exact ⟨_, rfl, rfl, LeV.of_force rfl (by rw [wp_7 c1 c2 c3 c4 c5 c6]; rfl)⟩
end Go.Proofs.YtlkhdembbogcaaaGreatDoor

/- Plain words: the law of shares. -/
set_option linter.unusedVariables false
set_option linter.unusedSimpArgs false
namespace Go.Proofs.YtlkhdembbogcaaaGreatDoor
open Go
section
variable {o : Ofr} {p : Int} {R : Int × Bool} {c : Nat} (hf : whenF o p (1002 - c) c = R)
include hf
theorem wf_end (h : 1002 ≤ c) : R = (0, false) := by
  rw [show 1002 - c = 0 by omega] at hf; exact hf.symm
variable (hc : c ≤ 1001)
include hc
theorem wf_stop (h : (decide (tAt o c > 1099511627776) || o.hd) = true) : R = (0, false) := by
  obtain ⟨f, e⟩ : ∃ f, 1002 - c = f + 1 := ⟨1001 - c, by omega⟩
  rw [e, whenF.eq_2, if_pos h] at hf; exact hf.symm
variable (h : (decide (tAt o c > 1099511627776) || o.hd) = false)
include h
theorem wf_hit (h2 : decide (p < shareB o (tAt o c)) = true) : R = (tAt o c, true) := by
  obtain ⟨f, e⟩ : ∃ f, 1002 - c = f + 1 := ⟨1001 - c, by omega⟩
  rw [e, whenF.eq_2, if_neg (by rw [h]; simp), if_pos h2] at hf; exact hf.symm
theorem wf_go (h2 : decide (p < shareB o (tAt o c)) = false) : whenF o p (1002 - (c + 1)) (c + 1) = R := by
  obtain ⟨f, e⟩ : ∃ f, 1002 - c = f + 1 := ⟨1001 - c, by omega⟩
  rw [e, whenF.eq_2, if_neg (by rw [h]; simp), if_neg (by rw [h2]; simp)] at hf
  rw [show 1002 - (c + 1) = f by omega]; exact hf
end
def timeR (t : Int) : Int := if !inB t 0 1099511627776 then 3 else 0
theorem timed_eq (o : Ofr) (t : Int) : firstNe [offerE o, timeR t] = timedB o t := by
  unfold timedB timeR
  rw [out_in]
  simp only [firstNe_c]
  cases (!inB t 0 1099511627776) <;> simp [firstNe]
def placeW (m n : List UInt8) (v : Ver) : Int := firstNe [if !nameB m || !nameB n then 5 else 0, v.check]
theorem place_w (m n : List UInt8) (v : Ver) : (PlaceP m n v).2 = placeW m n v := by
  unfold PlaceP placeW
  simp only [firstNe_c]
  cases (!nameB m || !nameB n)
  · by_cases h : v.check = 0
    · simp [h, firstNe]
    · simp [h]
  · rfl
theorem law_place (m n : List UInt8) (v : Ver) : (((!true || (PlaceP m n v).2 != placeW m n v) || (placeW m n v != 0 && (PlaceP m n v).1 != 0)) || (placeW m n v == 0 && (PlaceP m n v).1 != plcR m n v)) = false := by
  rw [place_w]
  have e : (PlaceP m n v).1 = if placeW m n v == 0 then plcR m n v else 0 := by
    rw [← place_w]
    unfold PlaceP
    cases (!nameB m || !nameB n)
    · by_cases h : v.check = 0
      · simp [h, plc_eq h]
      · simp [h]
    · simp
  rw [e]
  by_cases h : placeW m n v = 0 <;> simp [h]
theorem law_share (o : Ofr) (t : Int) : (((ShareP o t).2 != timedB o t || (timedB o t != 0 && (ShareP o t).1 != 0)) || (timedB o t == 0 && (ShareP o t).1 != shareB o t)) = false := by
  unfold ShareP
  by_cases h : timedB o t = 0 <;> simp [h]
def wTo (o : Ofr) (l : List (List UInt8)) (t : Int) : Nat → Int
  | 0 => firstNe [timedB o t, if decide ((l.length : Int) > 10000) then 4 else 0]
  | i + 1 => firstNe [wTo o l t i, if !nameB (l.getD i []) then 5 else 0]
def inTo (o : Ofr) (l : List (List UInt8)) (t : Int) : Nat → List (List UInt8)
  | 0 => []
  | i + 1 => if wTo o l t (i + 1) == 0 && decide (plcR (l.getD i []) o.n o.v < shareB o t) then inTo o l t i ++ [l.getD i []] else inTo o l t i
theorem w0_eq (o : Ofr) (l : List (List UInt8)) (t : Int) : firstNe [timedB o t, if decide (((l.map fun x => ([.str x] : List D)).length : Int) > 10000) then 4 else 0] = wTo o l t 0 := by rw [List.length_map]; rfl
theorem w0_v (o : Ofr) (l : List (List UInt8)) (t : Int) : V.one (.d (.int .i64 (firstNe [timedB o t, if decide (((l.map fun x => ([.str x] : List D)).length : Int) > 10000) then 4 else 0]))) = V.one (.d (.int .i64 (wTo o l t 0))) := by rw [w0_eq]
theorem wTo_s (o : Ofr) (l : List (List UInt8)) (t : Int) (i : Nat) : V.one (.d (.int .i64 (firstNe [wTo o l t i, if !nameB (l.getD i []) then 5 else 0]))) = V.one (.d (.int .i64 (wTo o l t (i + 1)))) := rfl
theorem wTo_c (o : Ofr) (l : List (List UInt8)) (t : Int) (i : Nat) : (wTo o l t (i + 1) == 0 && decide (plcR (l.getD i []) o.n o.v < shareB o t)) = (firstNe [wTo o l t i, if !nameB (l.getD i []) then 5 else 0] == 0 && decide (plcR (l.getD i []) o.n o.v < shareB o t)) := rfl
theorem inTo_row {o : Ofr} {l : List (List UInt8)} {t : Int} {i : Nat} (h : (wTo o l t (i + 1) == 0 && decide (plcR (l.getD i []) o.n o.v < shareB o t)) = true) : ((inTo o l t i).map fun x => ([.str x] : List D)) ++ [[D.str (l.getD i [])]] = (inTo o l t (i + 1)).map fun x => ([.str x] : List D) := by
  rw [show inTo o l t (i + 1) = inTo o l t i ++ [l.getD i []] from if_pos h, List.map_append]; rfl
theorem inTo_no {o : Ofr} {l : List (List UInt8)} {t : Int} {i : Nat} (h : (wTo o l t (i + 1) == 0 && decide (plcR (l.getD i []) o.n o.v < shareB o t)) = false) : inTo o l t i = inTo o l t (i + 1) := (if_neg (by rw [h]; simp)).symm
theorem inTo_le (o : Ofr) (l : List (List UInt8)) (t : Int) : ∀ i, (inTo o l t i).length ≤ i
  | 0 => Nat.le_refl _
  | i + 1 => by
    have := inTo_le o l t i
    unfold inTo; split
    · simp; omega
    · omega
theorem first2' (a b : Int) : firstNe [a, b] = if a != 0 then a else b := by
  simp only [firstNe_c]
  by_cases h : a = 0
  · by_cases h2 : b = 0 <;> simp [h, h2, firstNe]
  · simp [h]
theorem wTo_eq {o : Ofr} {l : List (List UInt8)} {t : Int} : ∀ i, i ≤ l.length → wTo o l t i = if timedB o t != 0 then timedB o t else if decide ((l.length : Int) > 10000) then 4 else if (l.take i).any (fun m => !nameB m) then 5 else 0
  | 0, _ => by
    unfold wTo
    rw [first2']; simp
  | i + 1, hi => by
    unfold wTo
    rw [first2', wTo_eq i (by omega), take_getD (d := []) (by omega), List.any_append]
    by_cases h1 : timedB o t = 0
    · simp only [h1, bne_self_eq_false, Bool.false_eq_true, if_false]
      cases decide ((l.length : Int) > 10000)
      · cases (l.take i).any (fun m => !nameB m) <;> simp
      · simp
    · have : (timedB o t != 0) = true := by simpa using h1
      simp [this]
theorem reach_w {o : Ofr} {l : List (List UInt8)} {t : Int} : (ReachP o l t).2 = wTo o l t l.length := by
  rw [wTo_eq l.length (Nat.le_refl _), List.take_length]
  unfold ReachP
  split
  · rfl
  · split
    · rfl
    · split <;> rfl
theorem timed_0 {o : Ofr} {t : Int} (h : timedB o t = 0) : offerE o = 0 := by
  unfold timedB at h
  by_cases h1 : offerE o = 0
  · exact h1
  · have : (offerE o != 0) = true := by simpa using h1
    rw [this, if_pos rfl] at h; exact h
theorem wTo_0 {o : Ofr} {l : List (List UInt8)} {t : Int} {i : Nat} (hi : i ≤ l.length) (h : wTo o l t l.length = 0) : wTo o l t i = 0 ∧ timedB o t = 0 := by
  rw [wTo_eq _ (Nat.le_refl _), List.take_length] at h
  rw [wTo_eq i hi]
  by_cases h1 : timedB o t = 0
  · refine ⟨?_, h1⟩
    rw [h1] at h ⊢
    simp only [bne_self_eq_false, Bool.false_eq_true, if_false] at h ⊢
    cases h2 : decide ((l.length : Int) > 10000)
    · rw [h2] at h
      simp only [Bool.false_eq_true, if_false] at h ⊢
      cases h3 : l.any (fun m => !nameB m)
      · have : (l.take i).any (fun m => !nameB m) = false := by
          rw [List.any_eq_false] at h3 ⊢
          exact fun x hx => h3 x (List.mem_of_mem_take hx)
        rw [this]; rfl
      · rw [h3] at h; cases h
    · rw [h2] at h; cases h
  · have : (timedB o t != 0) = true := by simpa using h1
    rw [this, if_pos rfl] at h; exact (h1 h).elim
theorem in_eq {o : Ofr} {l : List (List UInt8)} {t : Int} (h : wTo o l t l.length = 0) : ∀ i, i ≤ l.length → inTo o l t i = reachT o t l i
  | 0, _ => rfl
  | i + 1, hi => by
    have ih := in_eq h i (by omega)
    have h1 := wTo_0 (i := i + 1) hi h
    have hv := (offer_in (timed_0 h1.2)).2.2.2.1
    have hp : plcR (l.getD i []) o.n o.v = plcP (l.getD i []) o.n o.v := (plc_eq hv).symm
    unfold inTo
    rw [h1.1, hp, ih]
    cases hd : decide (plcP (l.getD i []) o.n o.v < shareB o t)
    · exact reach_f (by omega) hd
    · exact reach_t (by omega) hd
theorem reach_in {o : Ofr} {l : List (List UInt8)} {t : Int} (h : (wTo o l t l.length == 0) = true) : (ReachP o l t).1 = inTo o l t l.length := by
  have h0 : wTo o l t l.length = 0 := by simpa using h
  rw [in_eq h0 _ (Nat.le_refl _)]
  have h1 := wTo_eq (o := o) (l := l) (t := t) l.length (Nat.le_refl _)
  rw [h0, List.take_length] at h1
  unfold ReachP
  have ht := (wTo_0 (Nat.le_refl _) h0).2
  rw [ht] at h1 ⊢
  simp only [bne_self_eq_false, Bool.false_eq_true, if_false] at h1 ⊢
  cases h2 : decide ((l.length : Int) > 10000)
  · rw [h2] at h1
    simp only [Bool.false_eq_true, if_false] at h1 ⊢
    cases h3 : l.any (fun m => !nameB m)
    · rfl
    · rw [h3] at h1; cases h1
  · rw [h2] at h1; cases h1
theorem reach_no {o : Ofr} {l : List (List UInt8)} {t : Int} (h : (wTo o l t l.length == 0) = false) : (ReachP o l t).1 = [] := by
  have hw := reach_w (o := o) (l := l) (t := t)
  unfold ReachP at hw ⊢
  split
  · rfl
  · rename_i h1
    rw [if_neg h1] at hw
    split
    · rfl
    · rename_i h2
      rw [if_neg h2] at hw
      split
      · rfl
      · rename_i h3
        rw [if_neg h3] at hw
        simp at hw
        rw [← hw] at h; cases h
theorem law_reach (o : Ofr) (l : List (List UInt8)) (t : Int) : (((ReachP o l t).2 != wTo o l t l.length || (wTo o l t l.length != 0 && decide ((((ReachP o l t).1.map fun x => ([.str x] : List D)).length : Int) > 0))) || (wTo o l t l.length == 0 && !true)) = false := by
  rw [reach_w]
  cases h : (wTo o l t l.length == 0)
  · rw [reach_no h]; simp
  · have h0 : wTo o l t l.length = 0 := by simpa using h
    simp [h0]
def whenW (o : Ofr) (m : List UInt8) : Int := firstNe [offerE o, if !nameB m then 5 else 0]
theorem law_when1 {o : Ofr} {m : List UInt8} (h : (whenW o m != 0) = true) : ((((WhenP o m).1.1 == 0 && !(WhenP o m).1.2)) && (WhenP o m).2 == whenW o m) = true := by
  unfold whenW at h ⊢
  rw [first2'] at h ⊢
  unfold WhenP
  by_cases h1 : offerE o = 0
  · rw [h1] at h ⊢
    simp only [bne_self_eq_false, Bool.false_eq_true, if_false] at h ⊢
    cases h2 : (!nameB m)
    · rw [h2] at h; simp at h
    · rfl
  · have : (offerE o != 0) = true := by simpa using h1
    rw [this]; simp
theorem law_when2 {o : Ofr} {m : List UInt8} (h : (whenW o m != 0) = false) : (((WhenP o m).2 == 0 && (WhenP o m).1.1 == (whenR o (plcR m o.n o.v)).1) && (WhenP o m).1.2 == (whenR o (plcR m o.n o.v)).2) = true := by
  unfold whenW at h
  rw [first2'] at h
  by_cases h1 : offerE o = 0
  · have hv := (offer_in h1).2.2.2.1
    rw [h1] at h
    simp only [bne_self_eq_false, Bool.false_eq_true, if_false] at h
    cases h2 : (!nameB m)
    · rw [wp_w (by rw [h1]; rfl) h2, plc_eq hv, when_eq h1 (show 0 ≤ plcR m o.n o.v ∧ plcR m o.n o.v < 1000 from plc_in _)]
      simp
    · rw [h2] at h; simp at h
  · have : (offerE o != 0) = true := by simpa using h1
    rw [this] at h; simp [this] at h
end Go.Proofs.YtlkhdembbogcaaaGreatDoor

set_option linter.unusedVariables false
set_option linter.unusedSimpArgs false
set_option maxRecDepth 100000
set_option maxHeartbeats 4000000
namespace Go.Proofs.YtlkhdembbogcaaaGreatDoor
open Go
open Go.RowKit
attribute [local irreducible] sumN sumT fnvTo hexTo hexV fmtU rangeE checkP errR Ver.check printB visit visits plcR plcP shareB offerE ReachP PlaceP ShareP WhenP whenF whenR timedB firstNe
theorem pc_OfferError (o : Ofr) (ho : OfrOk o) :
  PureCall Tryz.prog J 18 [ofrV o] (.one (.d (.int .i64 (offerE o)))) := by
 refine PureCall.of_body tOk (fn := Tryz.f18) Tryz.func18 (by kernel_rfl) rfl (Nat.le_of_ble_eq_true rfl) (fun E => ?_)
 refine W.seq ?_
 refine W.region ?_
 refine S.box rfl rfl rfl rfl ?_
 refine S.pure tOk zOk rfl rfl rfl ?_
 refine thenK_n ?_
 refine W.seq ?_
 refine W.region ?_
 refine S.pure tOk zOk rfl rfl rfl ?_
 refine S.pure tOk zOk rfl rfl rfl ?_
 refine S.pure tOk zOk rfl rfl rfl ?_
 refine S.pure tOk zOk rfl rfl rfl ?_
 refine S.pure tOk zOk rfl rfl rfl ?_
 refine S.pureG tOk zOk rfl rfl tg (fun _ => rfl) rfl ?_
 refine S.pureG tOk zOk rfl rfl tg (fun _ => rfl) rfl ?_
 refine S.callG rfl rfl rfl rfl tg rfl rfl (fun h => pc_outref2_Of o.sm hexD (by decide) (by decide) (by have := ho.sm; omega)) ?_
 refine S.pickAnd tOk zOk rfl rfl tg ?_
 refine S.pure tOk zOk rfl rfl rfl ?_
 refine thenK_n ?_
 refine W.seq ?_
 refine W.regionD mixed (by kernel_rfl) ?_
 refine D.pure tOk zOk rfl rfl rfl rfl ?_
 refine D.pure tOk zOk rfl rfl rfl rfl ?_
 refine D.call rfl rfl rfl rfl rfl (pc_outref2_NameOf o.n (by have := ho.n; omega)) ?_
 refine D.pure tOk zOk rfl rfl rfl rfl ?_
 refine D.call rfl rfl rfl rfl rfl (pc_outref2_When _ 5) ?_
 refine D.pure tOk zOk rfl rfl rfl rfl ?_
 refine D.pure tOk zOk rfl rfl rfl rfl ?_
 refine D.slice tOk rfl rfl ?_
 refine D.call rfl rfl rfl rfl rfl (pc_verr1 o.v (by have := ho.e; omega)) ?_
 refine D.pure tOk zOk rfl rfl rfl rfl ?_
 refine D.pure tOk zOk rfl rfl rfl rfl ?_
 refine D.call rfl rfl rfl rfl rfl (pc_outref2_When _ 2) ?_
 refine D.pure tOk zOk rfl rfl rfl rfl ?_
 refine D.pure tOk zOk rfl rfl rfl rfl ?_
 refine D.call rfl rfl rfl rfl rfl (pc_outref2_RangeError o.f (ofr_fl ho) ho.fs) ?_
 refine D.pure tOk zOk rfl rfl rfl rfl ?_
 refine D.pure tOk zOk rfl rfl rfl rfl ?_
 refine D.call rfl rfl rfl rfl rfl (pc_CondErr o.w ho.w) ?_
 refine D.pure tOk zOk rfl rfl rfl rfl ?_
 refine D.pure tOk zOk rfl rfl rfl rfl ?_
 refine D.call rfl rfl rfl rfl rfl (pc_outref2_In _ _ _) ?_
 refine D.pure tOk zOk rfl rfl rfl rfl ?_
 refine D.pure tOk zOk rfl rfl rfl rfl ?_
 refine D.pureG tOk zOk rfl rfl rfl tg (fun _ => rfl) rfl ?_
 refine D.pureG tOk zOk rfl rfl rfl tg (fun _ => rfl) rfl ?_
 refine D.callG rfl rfl rfl rfl tg rfl rfl (fun h => pc_outref2_In _ _ _) ?_
 refine D.pureG tOk zOk rfl rfl rfl tg (fun _ => rfl) rfl ?_
 refine D.pickOr tOk zOk rfl rfl tg ?_
 refine D.pure tOk zOk rfl rfl rfl rfl ?_
 refine D.pureG tOk zOk rfl rfl rfl tg (fun _ => rfl) rfl ?_
 refine D.pureG tOk zOk rfl rfl rfl tg (fun _ => rfl) rfl ?_
 refine D.callG rfl rfl rfl rfl tg rfl rfl (fun h => pc_outref2_In _ _ _) ?_
 refine D.pureG tOk zOk rfl rfl rfl tg (fun _ => rfl) rfl ?_
 refine D.pickOr tOk zOk rfl rfl tg ?_
 refine D.call rfl rfl rfl rfl rfl (pc_outref2_When _ 3) ?_
 refine D.slice tOk rfl rfl ?_
 refine D.call rfl rfl rfl rfl rfl (pc_outref2_First [if !nameB o.n then 5 else 0, o.v.check, if !sumOk o.sm then 2 else 0, rangeE o.f, errR o.w, if (!inB o.b 0 1099511627776 || !inB o.s 0 1000) || !inB o.g 0 1000 then 3 else 0] (by simp)) ?_
 refine D.pure tOk zOk rfl rfl rfl rfl ?_
 refine thenK_n ?_
 refine W.ret ?_
 exact ⟨_, rfl, rfl, LeV.of_force rfl (by show V.one (C.d (D.int .i64 (offerR o))) = _; rw [offer_eq ho.ww])⟩
theorem pc_timeE (t : Int) :
  PureCall Tryz.prog J 61 [.one (.d (.int .i64 t))] (.one (.d (.int .i64 (timeR t)))) := by
 refine PureCall.of_body tOk (fn := Tryz.f61) Tryz.func61 (by kernel_rfl) rfl (Nat.le_of_ble_eq_true rfl) (fun E => ?_)
 refine W.seq ?_
 refine W.region ?_
 refine S.pure tOk zOk rfl rfl rfl ?_
 refine thenK_n ?_
 refine W.seq ?_
 refine W.region ?_
 refine S.pure tOk zOk rfl rfl rfl ?_
 refine S.call rfl rfl rfl rfl rfl (pc_outref2_In _ _ _) ?_
 refine S.pure tOk zOk rfl rfl rfl ?_
 refine S.call rfl rfl rfl rfl rfl (pc_outref2_When _ 3) ?_
 refine S.pure tOk zOk rfl rfl rfl ?_
 refine thenK_n ?_
 refine W.ret ?_
 exact ⟨_, rfl, rfl, LeV.refl _⟩
theorem pc_TimeE (t : Int) :
  PureCall Tryz.prog J 24 [.one (.d (.int .i64 t))] (.one (.d (.int .i64 (timeR t)))) := by
 refine PureCall.of_body tOk (fn := Tryz.f24) Tryz.func24 (by kernel_rfl) rfl (Nat.le_of_ble_eq_true rfl) (fun E => ?_)
 refine W.seq ?_
 refine W.region ?_
 refine S.pure tOk zOk rfl rfl rfl ?_
 refine thenK_n ?_
 refine W.seq ?_
 refine W.region ?_
 refine S.pure tOk zOk rfl rfl rfl ?_
 refine S.call rfl rfl rfl rfl rfl (pc_timeE t) ?_
 refine S.pure tOk zOk rfl rfl rfl ?_
 refine thenK_n ?_
 refine W.ret ?_
 exact ⟨_, rfl, rfl, LeV.refl _⟩
theorem pc_WhenOf (o : Ofr) (ho : OfrOk o) (m : List UInt8) (hm : m.length ≤ 2000000) :
  PureCall Tryz.prog J 29 [ofrV o, .one (.d (.str m))] (.tup [.one (.d (.int .i64 (whenR o (plcR m o.n o.v)).1)), .one (.d (.bool (whenR o (plcR m o.n o.v)).2))]) := by
 refine PureCall.of_body tOk (fn := Tryz.f29) Tryz.func29 (by kernel_rfl) rfl (Nat.le_of_ble_eq_true rfl) (fun E => ?_)
 refine W.seq ?_
 refine W.region ?_
 refine S.box rfl rfl rfl rfl ?_
 refine S.pure tOk zOk rfl rfl rfl ?_
 refine S.pure tOk zOk rfl rfl rfl ?_
 refine thenK_n ?_
 refine W.seq ?_
 refine W.region ?_
 refine S.pure tOk zOk rfl rfl rfl ?_
 refine S.pure tOk zOk rfl rfl rfl ?_
 refine S.pure tOk zOk rfl rfl rfl ?_
 refine S.pure tOk zOk rfl rfl rfl ?_
 refine S.pure tOk zOk rfl rfl rfl ?_
 refine S.call rfl rfl rfl rfl rfl (pc_PlaceOf m o.n o.v hm ho.n ho.v ho.e) ?_
 refine S.pure tOk zOk rfl rfl rfl ?_
 refine thenK_n ?_
 refine W.seq ?_
 refine W.seq ?_
 refine W.region ?_
 refine S.pure tOk zOk rfl rfl rfl ?_
 refine thenK_n ?_
 refine W.block ?_
 refine W.loop (fun k st => ∃ c : Nat, c ≤ 1002 ∧ whenF o (plcR m o.n o.v) (1002 - c) c = whenR o (plcR m o.n o.v) ∧ k = 1002 - c ∧ ∃ t b2 r2 m2, st = ⟨t, [(match ofrV o with | .agg cs => cs | _ => [])] ++ b2, [] ++ r2, [] ++ m2⟩ ∧ holdsL t [(2, .one (.ptr 0 0)), (6, .one (.d (.int .i64 (plcR m o.n o.v)))), (7, .one (.d (.int .i64 (c : Int))))]) (1002) ⟨0, Nat.zero_le _, (by unfold whenR; rfl), rfl, _, _, _, _, rfl, rfl, rfl, rfl, trivial⟩ ?_
 rintro k0 _ ⟨c, f0_0, f0_1, rfl, t0, bb0, rr0, mm0, rfl, hh0⟩
 refine W.keepR _ _ _ _ _ _ _ hh0 rfl ?_
 refine W.seq ?_
 refine W.seq ?_
 refine W.region ?_
 refine S.pure tOk zOk rfl rfl rfl ?_
 refine S.pure tOk zOk rfl rfl rfl ?_
 refine thenK_n ?_
 refine W.cond rfl (fun c1 => ?_) (fun c1 => ?_)
 ·skip
  have hc : c ≤ 1001 := by have := of_decide_eq_true c1; omega
  refine W.skip ?_
  refine thenK_n ?_
  refine W.seq ?_
  refine W.block ?_
  refine W.seq ?_
  refine W.region ?_
  refine S.pure tOk zOk rfl rfl rfl ?_
  refine S.pure tOk zOk rfl rfl rfl ?_
  refine S.pure tOk zOk rfl rfl rfl ?_
  refine S.pure tOk zOk rfl rfl rfl ?_
  refine S.pure tOk zOk rfl rfl rfl ?_
  refine S.pure tOk zOk rfl rfl rfl ?_
  refine thenK_n ?_
  refine W.seq ?_
  refine W.seq ?_
  refine W.region ?_
  refine S.pure tOk zOk rfl rfl rfl ?_
  refine S.pure tOk zOk rfl rfl rfl ?_
  refine S.pure tOk zOk rfl rfl rfl ?_
  refine S.pureG tOk zOk rfl rfl tg (fun _ => rfl) rfl ?_
  refine S.pureG tOk zOk rfl rfl tg (fun _ => rfl) rfl ?_
  refine S.pickOr tOk zOk rfl rfl tg ?_
  refine thenK_n ?_
  refine W.cond rfl (fun c2 => ?_) (fun c2 => ?_)
  ·skip
   refine W.exit ?_
   refine thenK_e ?_
   refine blockK_e rfl ?_
   refine thenK_e ?_
   refine thenK_e ?_
   refine blockK_x ?_
   refine thenK_n ?_
   refine W.seq ?_
   refine W.region ?_
   refine S.pure tOk zOk rfl rfl rfl ?_
   refine S.pure tOk zOk rfl rfl rfl ?_
   refine thenK_n ?_
   refine W.ret ?_
   exact ⟨_, rfl, rfl, LeV.of_force rfl (by rw [wf_stop f0_1 hc c2]; rfl)⟩
  ·skip
   refine W.skip ?_
   refine thenK_n ?_
   refine W.seq ?_
   refine W.region ?_
   refine S.pure tOk zOk rfl rfl rfl ?_
   refine S.pure tOk zOk rfl rfl rfl ?_
   refine S.pure tOk zOk rfl rfl rfl ?_
   refine S.call rfl rfl rfl rfl rfl (pc_ShareOf o (tAt o c)) ?_
   refine S.pure tOk zOk rfl rfl rfl ?_
   refine thenK_n ?_
   refine W.cond rfl (fun c3 => ?_) (fun c3 => ?_)
   ·skip
    refine W.seq ?_
    refine W.region ?_
    refine S.pure tOk zOk rfl rfl rfl ?_
    refine S.pure tOk zOk rfl rfl rfl ?_
    refine S.pure tOk zOk rfl rfl rfl ?_
    refine thenK_n ?_
    refine W.ret ?_
    refine blockK_r ?_
    refine thenK_r ?_
    refine thenK_r ?_
    refine blockK_r ?_
    refine thenK_r ?_
    exact ⟨_, rfl, rfl, LeV.of_force rfl (by rw [wf_hit f0_1 hc c2 c3]; rfl)⟩
   ·skip
    refine W.skip ?_
    refine blockK_n ?_
    refine thenK_n ?_
    refine W.region ?_
    refine S.pure tOk zOk rfl rfl rfl ?_
    refine S.pure tOk zOk rfl rfl rfl ?_
    refine S.pure tOk zOk rfl rfl rfl ?_
    refine loop_n (1002 - (c + 1)) (by omega) ⟨c + 1, (by omega), wf_go f0_1 hc c2 c3, rfl, _, _, _, _, rfl, rfl, rfl, inc_i64 (by omega), trivial⟩
 ·skip
  have hc : 1002 ≤ c := by have := of_decide_eq_false c1; omega
  refine W.exit ?_
  refine thenK_e ?_
  refine thenK_e ?_
  refine blockK_x ?_
  refine thenK_n ?_
  refine W.seq ?_
  refine W.region ?_
  refine S.pure tOk zOk rfl rfl rfl ?_
  refine S.pure tOk zOk rfl rfl rfl ?_
  refine thenK_n ?_
  refine W.ret ?_
  exact ⟨_, rfl, rfl, LeV.of_force rfl (by rw [wf_end f0_1 hc]; rfl)⟩
theorem pc_MergeNil  :
  PureCall Tryz.prog J 6 [.one (.d .nilsl)] (.tup [.agg [.d (.str []), .d (.int .i64 0), .d (.int .i64 0), .d .nilsl], .one (.d (.int .i64 9))]) := by
 refine PureCall.of_body tOk (fn := Tryz.f6) Tryz.func6 (by kernel_rfl) rfl (Nat.le_of_ble_eq_true rfl) (fun E => ?_)
 refine W.seq ?_
 refine W.region ?_
 refine S.alloc tOk rfl rfl rfl rfl ?_
 refine S.pure tOk zOk rfl rfl rfl ?_
 refine thenK_n ?_
 refine W.seq ?_
 refine W.seq ?_
 refine W.region ?_
 refine S.pure tOk zOk rfl rfl rfl ?_
 refine S.pure tOk zOk rfl rfl rfl ?_
 refine S.pure tOk zOk rfl rfl rfl ?_
 refine thenK_n ?_
 refine W.condT rfl rfl ?_
 refine W.seq ?_
 refine W.region ?_
 refine S.pure tOk zOk rfl rfl rfl ?_
 refine S.store tOk rfl rfl rfl rfl rfl rfl rfl rfl ?_
 refine S.pure tOk zOk rfl rfl rfl ?_
 refine thenK_n ?_
 refine W.ret ?_
 refine thenK_r ?_
 exact ⟨_, rfl, rfl, LeV.refl _⟩
theorem pc_CheckZ  :
  PureCall Tryz.prog J 40 [.agg [.d (.str []), .d (.int .i64 0), .d (.int .i64 0), .d .nilsl]] (.one (.d (.int .i64 5))) := by
 refine PureCall.of_body tOk (fn := Tryz.f40) Tryz.func40 (by kernel_rfl) rfl (Nat.le_of_ble_eq_true rfl) (fun E => ?_)
 refine W.seq ?_
 refine W.region ?_
 refine S.box rfl rfl rfl rfl ?_
 refine S.pure tOk zOk rfl rfl rfl ?_
 refine thenK_n ?_
 refine W.seq ?_
 refine W.block ?_
 refine W.seq ?_
 refine W.region ?_
 refine S.pure tOk zOk rfl rfl rfl ?_
 refine S.pure tOk zOk rfl rfl rfl ?_
 refine S.call rfl rfl rfl rfl rfl (pc_ver_IsName [] (by decide)) ?_
 refine S.pure tOk zOk rfl rfl rfl ?_
 refine S.pure tOk zOk rfl rfl rfl ?_
 refine thenK_n ?_
 refine W.cond rfl (fun c1 => ?_) (fun c1 => ?_)
 ·skip
  refine W.seq ?_
  refine W.region ?_
  refine S.pure tOk zOk rfl rfl rfl ?_
  refine thenK_n ?_
  refine W.ret ?_
  refine blockK_r ?_
  refine thenK_r ?_
  exact ⟨_, rfl, rfl, LeV.refl _⟩
 · exact absurd c1 (by decide)
theorem pc_outlaw2_feeds  :
  PureCall Tryz.prog J 10 [] (.one (.d (.bool true))) := by
 refine PureCall.of_body tOk (fn := Tryz.f10) Tryz.func10 (by kernel_rfl) rfl (Nat.le_of_ble_eq_true rfl) (fun E => ?_)
 refine W.seq ?_
 refine W.region ?_
 refine S.pure tOk zOk rfl rfl rfl ?_
 refine thenK_n ?_
 refine W.seq ?_
 refine W.region ?_
 refine S.call rfl rfl rfl rfl rfl (pc_MergeNil) ?_
 refine S.pure tOk zOk rfl rfl rfl ?_
 refine S.pure tOk zOk rfl rfl rfl ?_
 refine S.pure tOk zOk rfl rfl rfl ?_
 refine S.alloc tOk rfl rfl rfl rfl ?_
 refine S.store tOk rfl rfl rfl rfl rfl rfl rfl rfl ?_
 refine S.pure tOk zOk rfl rfl rfl ?_
 refine thenK_n ?_
 refine W.seq ?_
 refine W.region ?_
 refine S.pure tOk zOk rfl rfl rfl ?_
 refine S.pure tOk zOk rfl rfl rfl ?_
 refine S.pure tOk zOk rfl rfl rfl ?_
 refine S.pureG tOk zOk rfl rfl tg (fun _ => rfl) rfl ?_
 refine S.callG rfl rfl rfl rfl tg rfl rfl (fun h => pc_CheckZ) ?_
 refine S.pureG tOk zOk rfl rfl tg (fun _ => rfl) rfl ?_
 refine S.pickAnd tOk zOk rfl rfl tg ?_
 refine S.pure tOk zOk rfl rfl rfl ?_
 refine thenK_n ?_
 refine W.ret ?_
 exact ⟨_, rfl, rfl, LeV.refl _⟩
theorem pc_EqualS (l : List (List UInt8)) (hl : l.length ≤ 1000000000) :
  PureCall Tryz.prog J 27 [.one (.d (.vec 1 (l.map fun x => [.str x]))), .one (.d (.vec 1 (l.map fun x => [.str x])))] (.one (.d (.bool true))) := by
 refine PureCall.of_body tOk (fn := Tryz.f27) Tryz.func27 (by kernel_rfl) rfl (Nat.le_of_ble_eq_true rfl) (fun E => ?_)
 refine W.seq ?_
 refine W.region ?_
 refine S.pure tOk zOk rfl rfl rfl ?_
 refine thenK_n ?_
 refine W.seq ?_
 refine W.seq ?_
 refine W.region ?_
 refine S.pure tOk zOk rfl rfl rfl ?_
 refine S.pure tOk zOk rfl rfl rfl ?_
 refine S.pure tOk zOk rfl rfl rfl ?_
 refine S.pure tOk zOk rfl rfl rfl ?_
 refine S.pure tOk zOk rfl rfl rfl ?_
 refine thenK_n ?_
 refine W.cond rfl (fun c1 => ?_) (fun c1 => ?_)
 · exact absurd c1 (by simp)
 ·skip
  refine W.skip ?_
  refine thenK_n ?_
  refine W.seq ?_
  refine W.seq ?_
  refine W.region ?_
  refine S.pure tOk zOk rfl rfl rfl ?_
  refine S.pure tOk zOk rfl rfl rfl ?_
  refine S.pure tOk zOk rfl rfl rfl ?_
  refine thenK_n ?_
  refine W.block ?_
  refine W.loop (fun k st => ∃ i : Nat, i ≤ l.length ∧ k = l.length - i ∧ ∃ t b2 r2 m2, st = ⟨t, [] ++ b2, [] ++ r2, [] ++ m2⟩ ∧ holdsL t [(0, .one (.d (.vec 1 (l.map fun x => [.str x])))), (1, .one (.d (.vec 1 (l.map fun x => [.str x])))), (12, .one (.d (.int .i64 ((l.map fun x => ([.str x] : List D)).length : Int)))), (13, .one (.d (.int .i64 (i : Int))))]) (l.length) ⟨0, Nat.zero_le _, rfl, _, _, _, _, rfl, rfl, rfl, rfl, rfl, trivial⟩ ?_
  rintro k0 _ ⟨i, f0_0, rfl, t0, bb0, rr0, mm0, rfl, hh0⟩
  refine W.keepR _ _ _ _ _ _ _ hh0 rfl ?_
  refine W.seq ?_
  refine W.region ?_
  refine S.pure tOk zOk rfl rfl rfl ?_
  refine thenK_n ?_
  refine W.seq ?_
  refine W.cond rfl (fun c2 => ?_) (fun c2 => ?_)
  ·skip
   have hi := row_lt c2
   refine W.skip ?_
   refine thenK_n ?_
   refine W.seq ?_
   refine W.block ?_
   refine W.seq ?_
   refine W.region ?_
   refine S.pure tOk zOk rfl rfl rfl ?_
   refine S.pure tOk zOk rfl rfl rfl ?_
   refine thenK_n ?_
   refine W.seq ?_
   refine W.regionD mixed (by kernel_rfl) ?_
   refine D.pure tOk zOk rfl rfl rfl rfl ?_
   refine D.pure tOk zOk rfl rfl rfl rfl ?_
   refine D.pureE tOk zOk rfl rfl (row_ok hi) (row_at [] hi) rfl ?_
   refine D.pure tOk zOk rfl rfl rfl rfl ?_
   refine D.pure tOk zOk rfl rfl rfl rfl ?_
   refine D.pure tOk zOk rfl rfl rfl rfl ?_
   refine D.pureE tOk zOk rfl rfl (row_ok hi) (row_at [] hi) rfl ?_
   refine D.pure tOk zOk rfl rfl rfl rfl ?_
   refine D.pure tOk zOk rfl rfl rfl rfl ?_
   refine thenK_n ?_
   refine W.cond rfl (fun c3 => ?_) (fun c3 => ?_)
   · exact absurd c3 (by simp)
   ·skip
    refine W.skip ?_
    refine blockK_n ?_
    refine thenK_n ?_
    refine W.region ?_
    refine S.pure tOk zOk rfl rfl rfl ?_
    refine S.pure tOk zOk rfl rfl rfl ?_
    refine loop_n (l.length - (i + 1)) (by omega) ⟨i + 1, hi, rfl, _, _, _, _, rfl, rfl, rfl, rfl, inc_i64 (by omega), trivial⟩
  ·skip
   refine W.exit ?_
   refine thenK_e ?_
   refine thenK_e ?_
   refine blockK_x ?_
   refine thenK_n ?_
   refine W.seq ?_
   refine W.region ?_
   refine S.pure tOk zOk rfl rfl rfl ?_
   refine thenK_n ?_
   refine W.ret ?_
   exact ⟨_, rfl, rfl, LeV.refl _⟩
theorem pc_outlaw2_SharesMatch (o : Ofr) (ho : OfrOk o) (m : List UInt8) (hm : m.length ≤ 2000000) (l : List (List UInt8)) (hl : l.length ≤ 2000000) (hlm : ∀ m ∈ l, m.length ≤ 2000000) (u : Int) :
  PureCall Tryz.prog J 4 [ofrV o, .one (.d (.str m)), .one (.d (.vec 1 (l.map fun x => [.str x]))), .one (.d (.int .i64 u))] (.one (.d (.bool true))) := by
 refine PureCall.of_body tOk (fn := Tryz.f4) Tryz.func4 (by kernel_rfl) rfl (Nat.le_of_ble_eq_true rfl) (fun E => ?_)
 refine W.seq ?_
 refine W.region ?_
 refine S.box rfl rfl rfl rfl ?_
 refine S.pure tOk zOk rfl rfl rfl ?_
 refine thenK_n ?_
 refine W.seq ?_
 refine W.region ?_
 refine S.pure tOk zOk rfl rfl rfl ?_
 refine S.call rfl rfl rfl rfl rfl (pc_OfferError o ho) ?_
 refine S.pure tOk zOk rfl rfl rfl ?_
 refine thenK_n ?_
 refine W.seq ?_
 refine W.region ?_
 refine S.pure tOk zOk rfl rfl rfl ?_
 refine S.pure tOk zOk rfl rfl rfl ?_
 refine S.pure tOk zOk rfl rfl rfl ?_
 refine S.pure tOk zOk rfl rfl rfl ?_
 refine S.pure tOk zOk rfl rfl rfl ?_
 refine S.call rfl rfl rfl rfl rfl (pc_Place m o.n o.v hm ho.n ho.v ho.e) ?_
 refine S.pure tOk zOk rfl rfl rfl ?_
 refine S.pure tOk zOk rfl rfl rfl ?_
 refine S.pure tOk zOk rfl rfl rfl ?_
 refine S.pure tOk zOk rfl rfl rfl ?_
 refine S.pure tOk zOk rfl rfl rfl ?_
 refine thenK_n ?_
 refine W.seq ?_
 refine W.regionD mixed (by kernel_rfl) ?_
 refine D.pure tOk zOk rfl rfl rfl rfl ?_
 refine D.call rfl rfl rfl rfl rfl (pc_outref2_NameOf m (by omega)) ?_
 refine D.pure tOk zOk rfl rfl rfl rfl ?_
 refine D.pure tOk zOk rfl rfl rfl rfl ?_
 refine D.pureG tOk zOk rfl rfl rfl tg (fun _ => rfl) rfl ?_
 refine D.pureG tOk zOk rfl rfl rfl tg (fun _ => rfl) rfl ?_
 refine D.callG rfl rfl rfl rfl tg rfl rfl (fun h => pc_outref2_NameOf o.n (by have := ho.n; omega)) ?_
 refine D.pureG tOk zOk rfl rfl rfl tg (fun _ => rfl) rfl ?_
 refine D.pickOr tOk zOk rfl rfl tg ?_
 refine D.call rfl rfl rfl rfl rfl (pc_outref2_When _ 5) ?_
 refine D.pure tOk zOk rfl rfl rfl rfl ?_
 refine D.pure tOk zOk rfl rfl rfl rfl ?_
 refine D.slice tOk rfl rfl ?_
 refine D.call rfl rfl rfl rfl rfl (pc_verr1 o.v (by have := ho.e; omega)) ?_
 refine D.slice tOk rfl rfl ?_
 refine D.call rfl rfl rfl rfl rfl (pc_outref2_First [if !nameB m || !nameB o.n then 5 else 0, o.v.check] (by simp)) ?_
 refine D.pure tOk zOk rfl rfl rfl rfl ?_
 refine thenK_n ?_
 refine W.seq ?_
 refine W.seq ?_
 refine W.region ?_
 refine S.call rfl rfl rfl rfl rfl (pc_outlaw2_feeds) ?_
 refine S.pure tOk zOk rfl rfl rfl ?_
 refine S.pure tOk zOk rfl rfl rfl ?_
 refine S.pureG tOk zOk rfl rfl tg (fun _ => rfl) rfl ?_
 refine S.pureG tOk zOk rfl rfl tg (fun _ => rfl) rfl ?_
 refine S.pureG tOk zOk rfl rfl tg (fun _ => rfl) rfl ?_
 refine S.pickOr tOk zOk rfl rfl tg ?_
 refine S.pure tOk zOk rfl rfl rfl ?_
 refine S.pureG tOk zOk rfl rfl tg (fun _ => rfl) rfl ?_
 refine S.pureG tOk zOk rfl rfl tg (fun _ => rfl) rfl ?_
 refine S.pureG tOk zOk rfl rfl tg (fun _ => rfl) rfl ?_
 refine S.pureG tOk zOk rfl rfl tg (fun _ => rfl) rfl ?_
 refine S.pureG tOk zOk rfl rfl tg (fun _ => rfl) rfl ?_
 refine S.pickAndG tOk zOk rfl rfl rfl tg tg ?_
 refine S.pickOr tOk zOk rfl rfl tg ?_
 refine S.pure tOk zOk rfl rfl rfl ?_
 refine S.pureG tOk zOk rfl rfl tg (fun _ => rfl) rfl ?_
 refine S.pureG tOk zOk rfl rfl tg (fun _ => rfl) rfl ?_
 refine S.pureG tOk zOk rfl rfl tg (fun _ => rfl) rfl ?_
 refine S.pureG tOk zOk rfl rfl tg (fun _ => rfl) rfl ?_
 refine S.pureG tOk zOk rfl rfl tg (fun _ => rfl) rfl ?_
 refine S.pureG tOk zOk rfl rfl tg (fun _ => rfl) rfl ?_
 refine S.pureG tOk zOk rfl rfl tg (fun _ => rfl) rfl ?_
 refine S.pureG tOk zOk rfl rfl tg (fun _ => rfl) rfl ?_
 refine S.pureG tOk zOk rfl rfl tg (fun _ => rfl) rfl ?_
 refine S.callG rfl rfl rfl rfl tg rfl rfl (fun h => pc_PlaceOf m o.n o.v hm ho.n ho.v ho.e) ?_
 refine S.pureG tOk zOk rfl rfl tg (fun _ => rfl) rfl ?_
 refine S.pickAndG tOk zOk rfl rfl rfl tg tg ?_
 refine S.pickOr tOk zOk rfl rfl tg ?_
 refine thenK_n ?_
 refine W.cond rfl (fun c1 => ?_) (fun c1 => ?_)
 · exact absurd c1 (Bool.eq_false_iff.1 (law_place m o.n o.v))
 ·skip
  refine W.skip ?_
  refine thenK_n ?_
  refine W.seq ?_
  refine W.region ?_
  refine S.pure tOk zOk rfl rfl rfl ?_
  refine S.pure tOk zOk rfl rfl rfl ?_
  refine S.call rfl rfl rfl rfl rfl (pc_Share o ho u) ?_
  refine S.pure tOk zOk rfl rfl rfl ?_
  refine S.pure tOk zOk rfl rfl rfl ?_
  refine S.pure tOk zOk rfl rfl rfl ?_
  refine S.pure tOk zOk rfl rfl rfl ?_
  refine S.pure tOk zOk rfl rfl rfl ?_
  refine thenK_n ?_
  refine W.seq ?_
  refine W.region ?_
  refine S.pure tOk zOk rfl rfl rfl ?_
  refine S.pure tOk zOk rfl rfl rfl ?_
  refine S.call rfl rfl rfl rfl rfl (pc_TimeE u) ?_
  refine S.slice tOk rfl rfl ?_
  refine S.call rfl rfl rfl rfl rfl (pc_outref2_First [offerE o, timeR u] (by simp)) ?_
  refine S.pure tOk zOk rfl rfl rfl ?_
  refine thenK_n ?_
  refine W.seq ?_
  refine W.seq ?_
  rw [timed_eq]
  refine W.region ?_
  refine S.pure tOk zOk rfl rfl rfl ?_
  refine S.pure tOk zOk rfl rfl rfl ?_
  refine S.pure tOk zOk rfl rfl rfl ?_
  refine S.pure tOk zOk rfl rfl rfl ?_
  refine S.pureG tOk zOk rfl rfl tg (fun _ => rfl) rfl ?_
  refine S.pureG tOk zOk rfl rfl tg (fun _ => rfl) rfl ?_
  refine S.pureG tOk zOk rfl rfl tg (fun _ => rfl) rfl ?_
  refine S.pureG tOk zOk rfl rfl tg (fun _ => rfl) rfl ?_
  refine S.pureG tOk zOk rfl rfl tg (fun _ => rfl) rfl ?_
  refine S.pickAndG tOk zOk rfl rfl rfl tg tg ?_
  refine S.pickOr tOk zOk rfl rfl tg ?_
  refine S.pure tOk zOk rfl rfl rfl ?_
  refine S.pureG tOk zOk rfl rfl tg (fun _ => rfl) rfl ?_
  refine S.pureG tOk zOk rfl rfl tg (fun _ => rfl) rfl ?_
  refine S.pureG tOk zOk rfl rfl tg (fun _ => rfl) rfl ?_
  refine S.pureG tOk zOk rfl rfl tg (fun _ => rfl) rfl ?_
  refine S.pureG tOk zOk rfl rfl tg (fun _ => rfl) rfl ?_
  refine S.pureG tOk zOk rfl rfl tg (fun _ => rfl) rfl ?_
  refine S.callG rfl rfl rfl rfl tg rfl rfl (fun h => pc_ShareOf o u) ?_
  refine S.pureG tOk zOk rfl rfl tg (fun _ => rfl) rfl ?_
  refine S.pickAndG tOk zOk rfl rfl rfl tg tg ?_
  refine S.pickOr tOk zOk rfl rfl tg ?_
  refine thenK_n ?_
  refine W.cond rfl (fun c2 => ?_) (fun c2 => ?_)
  · exact absurd c2 (Bool.eq_false_iff.1 (law_share o u))
  ·skip
   refine W.skip ?_
   refine thenK_n ?_
   refine W.seq ?_
   refine W.region ?_
   refine S.pure tOk zOk rfl rfl rfl ?_
   refine S.pure tOk zOk rfl rfl rfl ?_
   refine S.pure tOk zOk rfl rfl rfl ?_
   refine S.call rfl rfl rfl rfl rfl (pc_Reached o ho l hl hlm u) ?_
   refine S.pure tOk zOk rfl rfl rfl ?_
   refine S.pure tOk zOk rfl rfl rfl ?_
   refine S.pure tOk zOk rfl rfl rfl ?_
   refine S.pure tOk zOk rfl rfl rfl ?_
   refine S.pure tOk zOk rfl rfl rfl ?_
   refine thenK_n ?_
   refine W.seq ?_
   refine W.region ?_
   refine S.pure tOk zOk rfl rfl rfl ?_
   refine S.pure tOk zOk rfl rfl rfl ?_
   refine S.pure tOk zOk rfl rfl rfl ?_
   refine S.pure tOk zOk rfl rfl rfl ?_
   refine S.call rfl rfl rfl rfl rfl (pc_outref2_When _ 4) ?_
   refine S.slice tOk rfl rfl ?_
   refine S.call rfl rfl rfl rfl rfl (pc_outref2_First [timedB o u, if decide (((l.map fun x => ([.str x] : List D)).length : Int) > 10000) then 4 else 0] (by simp)) ?_
   refine S.pure tOk zOk rfl rfl rfl ?_
   refine thenK_n ?_
   refine W.seq ?_
   refine W.region ?_
   refine S.pure tOk zOk rfl rfl rfl ?_
   refine thenK_n ?_
   refine W.seq ?_
   refine W.seq ?_
   refine W.region ?_
   refine S.pure tOk zOk rfl rfl rfl ?_
   refine S.pure tOk zOk rfl rfl rfl ?_
   refine S.pure tOk zOk rfl rfl rfl ?_
   refine thenK_n ?_
   refine W.newRow 16 1 9 rfl ?_
   refine W.block ?_
   refine W.loop (fun k st => ∃ i : Nat, ∃ v : Nat, ∃ al : Bool, i ≤ l.length ∧ k = l.length - i ∧ ∃ t b2 r2 m2, st = ⟨t, [(match ofrV o with | .agg cs => cs | _ => [])] ++ b2, [some ⟨al, v, 1, 9, ((inTo o l u i).map fun x => ([.str x] : List D))⟩] ++ r2, [] ++ m2⟩ ∧ holdsL t [(1, .one (.d (.str m))), (3, .one (.d (.int .i64 u))), (4, .one (.ptr 0 0)), (9, .one (.d (.int .i64 (offerE o)))), (11, .one (.d (.int .i64 (ReachP o l u).2))), (12, .one (.d (.int .i64 (wTo o l u i)))), (15, .one (.d (.vec 1 ((ReachP o l u).1.map fun x => [.str x])))), (16, .one (.row 0 v 0 ((inTo o l u i).map fun x => ([.str x] : List D)).length)), (127, .one (.d (.vec 1 (l.map fun x => [.str x])))), (128, .one (.d (.int .i64 ((l.map fun x => ([.str x] : List D)).length : Int)))), (129, .one (.d (.int .i64 (i : Int))))]) (l.length) ⟨0, _, _, Nat.zero_le _, rfl, _, _, _, _, rfl, rfl, rfl, rfl, rfl, rfl, (w0_v o l u), rfl, rfl, rfl, rfl, rfl, trivial⟩ ?_
   rintro k0 _ ⟨i, v, al, f0_0, rfl, t0, bb0, rr0, mm0, rfl, hh0⟩
   refine W.keepR _ _ _ _ _ _ _ hh0 rfl ?_
   refine W.seq ?_
   refine W.region ?_
   refine S.pure tOk zOk rfl rfl rfl ?_
   refine thenK_n ?_
   refine W.seq ?_
   refine W.cond rfl (fun c3 => ?_) (fun c3 => ?_)
   ·skip
    have hi := row_lt c3
    refine W.skip ?_
    refine thenK_n ?_
    refine W.seq ?_
    refine W.block ?_
    refine W.seq ?_
    refine W.region ?_
    refine S.pureE tOk zOk rfl (row_ok hi) (row_at [] hi) rfl ?_
    refine S.pure tOk zOk rfl rfl rfl ?_
    refine S.pure tOk zOk rfl rfl rfl ?_
    refine thenK_n ?_
    refine W.seq ?_
    refine W.region ?_
    refine S.pure tOk zOk rfl rfl rfl ?_
    refine S.pure tOk zOk rfl rfl rfl ?_
    refine S.call rfl rfl rfl rfl rfl (pc_outref2_NameOf (l.getD i []) (by have := hlm (l.getD i []) (memS hi); omega)) ?_
    refine S.pure tOk zOk rfl rfl rfl ?_
    refine S.call rfl rfl rfl rfl rfl (pc_outref2_When _ 5) ?_
    refine S.slice tOk rfl rfl ?_
    refine S.call rfl rfl rfl rfl rfl (pc_outref2_First [wTo o l u i, if !nameB (l.getD i []) then 5 else 0] (by simp)) ?_
    refine S.pure tOk zOk rfl rfl rfl ?_
    refine thenK_n ?_
    refine W.seq ?_
    refine W.regionD mixed (by kernel_rfl) ?_
    refine D.pure tOk zOk rfl rfl rfl rfl ?_
    refine D.pure tOk zOk rfl rfl rfl rfl ?_
    refine D.pure tOk zOk rfl rfl rfl rfl ?_
    refine D.pureG tOk zOk rfl rfl rfl tg (fun _ => rfl) rfl ?_
    refine D.pureG tOk zOk rfl rfl rfl tg (fun _ => rfl) rfl ?_
    refine D.pureG tOk zOk rfl rfl rfl tg (fun _ => rfl) rfl ?_
    refine D.pureG tOk zOk rfl rfl rfl tg (fun _ => rfl) rfl ?_
    refine D.pureG tOk zOk rfl rfl rfl tg (fun _ => rfl) rfl ?_
    refine D.callG rfl rfl rfl rfl tg rfl rfl (fun h => pc_PlaceOf (l.getD i []) o.n o.v (hlm _ (memS hi)) ho.n ho.v ho.e) ?_
    refine D.pureG tOk zOk rfl rfl rfl tg (fun _ => rfl) rfl ?_
    refine D.pureG tOk zOk rfl rfl rfl tg (fun _ => rfl) rfl ?_
    refine D.callG rfl rfl rfl rfl tg rfl rfl (fun h => pc_ShareOf o u) ?_
    refine D.pureG tOk zOk rfl rfl rfl tg (fun _ => rfl) rfl ?_
    refine D.pickAnd tOk zOk rfl rfl tg ?_
    refine thenK_n ?_
    refine W.cond rfl (fun c4 => ?_) (fun c4 => ?_)
    ·skip
     have c4' : (wTo o l u (i + 1) == 0 && decide (plcR (l.getD i []) o.n o.v < shareB o u)) = true := (wTo_c o l u i).trans c4
     refine W.region ?_
     refine S.pure tOk zOk rfl rfl rfl ?_
     refine S.pure tOk zOk rfl rfl rfl ?_
     refine S.slice tOk rfl rfl ?_
     refine S.append tOk rfl rfl rfl rfl rfl rfl rfl rfl rfl rfl rfl rfl (by have hq := inTo_le o l u i; show _ + 1 ≤ _; rw [List.length_map]; omega) rfl (inTo_row c4') rfl ?_
     refine S.pure tOk zOk rfl rfl rfl ?_
     refine blockK_n ?_
     refine thenK_n ?_
     refine W.region ?_
     refine S.pure tOk zOk rfl rfl rfl ?_
     refine S.pure tOk zOk rfl rfl rfl ?_
     refine loop_n (l.length - (i + 1)) (by omega) ⟨i + 1, _, _, hi, rfl, _, _, _, _, rfl, rfl, rfl, rfl, rfl, rfl, (wTo_s o l u i), rfl, rfl, rfl, rfl, inc_i64 (by omega), trivial⟩
    ·skip
     rw [inTo_no ((wTo_c o l u i).trans c4)]
     refine W.skip ?_
     refine blockK_n ?_
     refine thenK_n ?_
     refine W.region ?_
     refine S.pure tOk zOk rfl rfl rfl ?_
     refine S.pure tOk zOk rfl rfl rfl ?_
     refine loop_n (l.length - (i + 1)) (by omega) ⟨i + 1, _, _, hi, rfl, _, _, _, _, rfl, rfl, rfl, rfl, rfl, rfl, (wTo_s o l u i), rfl, rfl, rfl, rfl, inc_i64 (by omega), trivial⟩
   ·skip
    have hi := row_ge c3
    obtain rfl : i = l.length := by omega
    refine W.exit ?_
    refine thenK_e ?_
    refine thenK_e ?_
    refine blockK_x ?_
    refine thenK_n ?_
    refine W.seq ?_
    refine W.seq ?_
    refine W.freeze (ri := 0) (q := ⟨_, _, _, _, _⟩) [16] rfl (by intro k hk; simp at hk; subst hk; rfl) ?_
    refine W.region ?_
    refine S.pure tOk zOk rfl rfl rfl ?_
    refine S.pure tOk zOk rfl rfl rfl ?_
    refine S.pure tOk zOk rfl rfl rfl ?_
    refine S.pure tOk zOk rfl rfl rfl ?_
    refine S.pureG tOk zOk rfl rfl tg (fun _ => rfl) rfl ?_
    refine S.pureG tOk zOk rfl rfl tg (fun _ => rfl) rfl ?_
    refine S.pureG tOk zOk rfl rfl tg (fun _ => rfl) rfl ?_
    refine S.pureG tOk zOk rfl rfl tg (fun _ => rfl) rfl ?_
    refine S.pureG tOk zOk rfl rfl tg (fun _ => rfl) rfl ?_
    refine S.pureG tOk zOk rfl rfl tg (fun _ => rfl) rfl ?_
    refine S.pickAndG tOk zOk rfl rfl rfl tg tg ?_
    refine S.pickOr tOk zOk rfl rfl tg ?_
    refine S.pure tOk zOk rfl rfl rfl ?_
    refine S.pureG tOk zOk rfl rfl tg (fun _ => rfl) rfl ?_
    refine S.pureG tOk zOk rfl rfl tg (fun _ => rfl) rfl ?_
    refine S.pureG tOk zOk rfl rfl tg (fun _ => rfl) rfl ?_
    refine S.pureG tOk zOk rfl rfl tg (fun _ => rfl) rfl ?_
    refine S.pureG tOk zOk rfl rfl tg (fun _ => rfl) rfl ?_
    refine S.callG rfl rfl rfl rfl tg rfl rfl (fun h => (by rw [reach_in (Bool.and_eq_true_iff.1 h).2]; exact pc_EqualS (inTo o l u l.length) (by have := inTo_le o l u l.length; omega))) ?_
    refine S.pureG tOk zOk rfl rfl tg (fun _ => rfl) rfl ?_
    refine S.pickAndG tOk zOk rfl rfl rfl tg tg ?_
    refine S.pickOr tOk zOk rfl rfl tg ?_
    refine thenK_n ?_
    refine W.cond rfl (fun c5 => ?_) (fun c5 => ?_)
    · exact absurd c5 (Bool.eq_false_iff.1 (law_reach o l u))
    ·skip
     refine W.skip ?_
     refine thenK_n ?_
     refine W.seq ?_
     refine W.region ?_
     refine S.pure tOk zOk rfl rfl rfl ?_
     refine S.pure tOk zOk rfl rfl rfl ?_
     refine S.call rfl rfl rfl rfl rfl (pc_When o ho m hm) ?_
     refine S.pure tOk zOk rfl rfl rfl ?_
     refine S.pure tOk zOk rfl rfl rfl ?_
     refine S.pure tOk zOk rfl rfl rfl ?_
     refine S.pure tOk zOk rfl rfl rfl ?_
     refine S.pure tOk zOk rfl rfl rfl ?_
     refine S.pure tOk zOk rfl rfl rfl ?_
     refine S.pure tOk zOk rfl rfl rfl ?_
     refine thenK_n ?_
     refine W.seq ?_
     refine W.seq ?_
     refine W.region ?_
     refine S.pure tOk zOk rfl rfl rfl ?_
     refine S.pure tOk zOk rfl rfl rfl ?_
     refine S.call rfl rfl rfl rfl rfl (pc_outref2_NameOf m (by omega)) ?_
     refine S.pure tOk zOk rfl rfl rfl ?_
     refine S.call rfl rfl rfl rfl rfl (pc_outref2_When _ 5) ?_
     refine S.slice tOk rfl rfl ?_
     refine S.call rfl rfl rfl rfl rfl (pc_outref2_First [offerE o, if !nameB m then 5 else 0] (by simp)) ?_
     refine S.pure tOk zOk rfl rfl rfl ?_
     refine thenK_n ?_
     refine W.seq ?_
     refine W.region ?_
     refine S.pure tOk zOk rfl rfl rfl ?_
     refine S.pure tOk zOk rfl rfl rfl ?_
     refine thenK_n ?_
     refine W.cond rfl (fun c6 => ?_) (fun c6 => ?_)
     ·skip
      refine W.seq ?_
      refine W.region ?_
      refine S.pure tOk zOk rfl rfl rfl ?_
      refine S.pure tOk zOk rfl rfl rfl ?_
      refine S.pure tOk zOk rfl rfl rfl ?_
      refine S.pureG tOk zOk rfl rfl tg (fun _ => rfl) rfl ?_
      refine S.pureG tOk zOk rfl rfl tg (fun _ => rfl) rfl ?_
      refine S.pickAnd tOk zOk rfl rfl tg ?_
      refine S.pure tOk zOk rfl rfl rfl ?_
      refine S.pureG tOk zOk rfl rfl tg (fun _ => rfl) rfl ?_
      refine S.pureG tOk zOk rfl rfl tg (fun _ => rfl) rfl ?_
      refine S.pureG tOk zOk rfl rfl tg (fun _ => rfl) rfl ?_
      refine S.pickAnd tOk zOk rfl rfl tg ?_
      refine S.pure tOk zOk rfl rfl rfl ?_
      refine thenK_n ?_
      refine W.ret ?_
      refine thenK_r ?_
      exact ⟨_, rfl, rfl, LeV.of_eq (congrArg (fun x => V.one (C.d (D.bool x))) (law_when1 c6))⟩
     ·skip
      refine W.skip ?_
      refine thenK_n ?_
      refine W.seq ?_
      refine W.region ?_
      refine S.pure tOk zOk rfl rfl rfl ?_
      refine S.pure tOk zOk rfl rfl rfl ?_
      refine S.call rfl rfl rfl rfl rfl (pc_WhenOf o ho m hm) ?_
      refine S.pure tOk zOk rfl rfl rfl ?_
      refine S.pure tOk zOk rfl rfl rfl ?_
      refine S.pure tOk zOk rfl rfl rfl ?_
      refine S.pure tOk zOk rfl rfl rfl ?_
      refine S.pure tOk zOk rfl rfl rfl ?_
      refine thenK_n ?_
      refine W.seq ?_
      refine W.region ?_
      refine S.pure tOk zOk rfl rfl rfl ?_
      refine S.pure tOk zOk rfl rfl rfl ?_
      refine S.pure tOk zOk rfl rfl rfl ?_
      refine S.pureG tOk zOk rfl rfl tg (fun _ => rfl) rfl ?_
      refine S.pureG tOk zOk rfl rfl tg (fun _ => rfl) rfl ?_
      refine S.pureG tOk zOk rfl rfl tg (fun _ => rfl) rfl ?_
      refine S.pickAnd tOk zOk rfl rfl tg ?_
      refine S.pure tOk zOk rfl rfl rfl ?_
      refine S.pureG tOk zOk rfl rfl tg (fun _ => rfl) rfl ?_
      refine S.pureG tOk zOk rfl rfl tg (fun _ => rfl) rfl ?_
      refine S.pureG tOk zOk rfl rfl tg (fun _ => rfl) rfl ?_
      refine S.pickAnd tOk zOk rfl rfl tg ?_
      refine S.pure tOk zOk rfl rfl rfl ?_
      refine thenK_n ?_
      refine W.ret ?_
      exact ⟨_, rfl, rfl, LeV.of_eq (congrArg (fun x => V.one (C.d (D.bool x))) (law_when2 c6))⟩
end Go.Proofs.YtlkhdembbogcaaaGreatDoor

/- From a row's argument to pure data: decoders, put together type by type. -/
set_option linter.unusedVariables false
set_option linter.unusedSimpArgs false
namespace Go.Proofs.YtlkhdembbogcaaaGreatDoor
open Go Go.RowKit Go.ChangeShapes
/-- Cells that hold these data, all blocks of the world being left as they are. -/
def RDs (w : World) (cs : List Value) (ds : List D) : Prop :=
  cs.length = ds.length ∧ ∀ (i : Nat) (c : Value) (d : D), cs[i]? = some c → ds[i]? = some d → RD (fun b => b < w.heap.size) w d c
theorem RDs.one {w : World} {c : Value} {d : D} (h : RD (fun b => b < w.heap.size) w d c) : RDs w [c] [d] :=
  ⟨rfl, fun i a b h1 h2 => by
    match i with
    | 0 => simp at h1 h2; subst h1; subst h2; exact h
    | i + 1 => simp at h1⟩
theorem RDs.append {w : World} {a b : List Value} {x y : List D} (h1 : RDs w a x) (h2 : RDs w b y) : RDs w (a ++ b) (x ++ y) := by
  refine ⟨by simp [h1.1, h2.1], fun i c d hc hd => ?_⟩
  by_cases hi : i < a.length
  · rw [List.getElem?_append_left hi] at hc
    rw [List.getElem?_append_left (by rw [← h1.1]; exact hi)] at hd
    exact h1.2 i c d hc hd
  · rw [List.getElem?_append_right (by omega)] at hc
    rw [List.getElem?_append_right (by rw [← h1.1]; omega)] at hd
    rw [← h1.1] at hd
    exact h2.2 _ c d hc hd
/-- A decoder of a type: the data that its cells hold; what is known of it, where the reading's bulk is N. -/
structure Dec (P : Program) (t : TypeId) (α : Type) where
  ds : α → List D
  wf : Nat → α → Prop
  up : ∀ (m n : Nat) (x : α), m ≤ n → wf m x → wf n x
  lim : Nat → Bool
  wt : α → Nat
  ok : ∀ {H : Type} {enc : TypeId × Value → H} {w : World} {fuel : Nat} {cs : List Value} {d : DataW H} {ps : List MemPlace}, lim fuel = true → DataW.trod enc P w 0 (fun _ => true) true fuel t cs = some (d, ps) →
    ∃ x : α, RDs w cs (ds x) ∧ wf (Rows.uptoBulk d) x ∧ wt x ≤ Rows.uptoBulk d
theorem trod_int {H : Type} {enc : TypeId × Value → H} {P : Program} {w : World} {fuel : Nat} {t : TypeId} {cs : List Value} {x : DataW H × List MemPlace} {k : IntKind} (ht : P.underlying t = some (.int k)) (h : DataW.trod enc P w 0 (fun _ => true) true fuel t cs = some x) :
    ∃ n, cs = [.int k n] ∧ (Lit.int k n).wf = true := by
  cases fuel with
  | zero => simp [DataW.trod] at h
  | succ fuel =>
    unfold DataW.trod at h
    rw [ht] at h
    split at h <;> first
      | (rename_i k1 k2 n he1 he2
         simp only [Option.some.injEq, TypeDesc.int.injEq] at he1
         subst he1
         split at h
         · rename_i hk; exact ⟨n, by rw [hk.1], hk.2⟩
         · cases h)
      | (simp_all; done)
theorem trod_bool' {H : Type} {enc : TypeId × Value → H} {P : Program} {w : World} {fuel : Nat} {t : TypeId} {cs : List Value} {x : DataW H × List MemPlace} (ht : P.underlying t = some .bool) (h : DataW.trod enc P w 0 (fun _ => true) true fuel t cs = some x) :
    ∃ b, cs = [.bool b] := by
  cases fuel with
  | zero => simp [DataW.trod] at h
  | succ fuel =>
    unfold DataW.trod at h
    rw [ht] at h
    split at h <;> first
      | exact ⟨_, rfl⟩
      | (simp_all; done)
theorem trod_str {H : Type} {enc : TypeId × Value → H} {P : Program} {w : World} {fuel : Nat} {t : TypeId} {cs : List Value} {x : DataW H × List MemPlace} (ht : P.underlying t = some .string) (h : DataW.trod enc P w 0 (fun _ => true) true fuel t cs = some x) :
    ∃ s : ByteArray, cs = [.string s] ∧ x.1 = .lit (.string s.data.toList) := by
  cases fuel with
  | zero => simp [DataW.trod] at h
  | succ fuel =>
    unfold DataW.trod at h
    rw [ht] at h
    split at h <;> first
      | (split at h
         · cases h; exact ⟨_, rfl, rfl⟩
         · cases h)
      | (simp_all; done)
def Dec.int {P : Program} {t : TypeId} (k : IntKind) (ht : P.underlying t = some (.int k)) : Dec P t Int where
  ds n := [.int k n]
  wf _ n := (Lit.int k n).wf = true
  up _ _ _ _ h := h
  lim _ := true
  wt _ := 0
  ok _ h := by
    obtain ⟨n, rfl, hw⟩ := trod_int ht h
    exact ⟨n, .one (.int _ _), hw, Nat.zero_le _⟩
def Dec.bool {P : Program} {t : TypeId} (ht : P.underlying t = some .bool) : Dec P t Bool where
  ds n := [.bool n]
  wf _ n := True
  up _ _ _ _ h := h
  lim _ := true
  wt _ := 0
  ok _ h := by
    obtain ⟨n, rfl⟩ := trod_bool' ht h
    exact ⟨n, .one (.bool _), trivial, Nat.zero_le _⟩
def Dec.str {P : Program} {t : TypeId} (ht : P.underlying t = some .string) : Dec P t (List UInt8) where
  ds s := [.str s]
  wf N s := s.length < N
  up _ _ _ h1 h := Nat.lt_of_lt_of_le h h1
  lim _ := true
  wt _ := 0
  ok _ h := by
    obtain ⟨s, rfl, hx⟩ := trod_str ht h
    refine ⟨s.data.toList, .one (.str s.data.toList), ?_, Nat.zero_le _⟩
    simp only at hx
    rw [hx]
    simp [Rows.uptoBulk]
theorem mapM_len {α β : Type} {f : α → Option β} : ∀ {l : List α} {r : List β}, l.mapM f = some r → r.length = l.length
  | [], r, h => by simp at h; subst h; rfl
  | a :: l, r, h => by
    simp only [List.mapM_cons, Option.bind_eq_bind, Option.bind_eq_some_iff, Option.pure_def, Option.some.injEq] at h
    obtain ⟨b, hb, r', hr', rfl⟩ := h
    simp [mapM_len hr']
/-- The fields of a struct, one behind the other. -/
structure DecF (P : Program) (fs : List Field) (off tot : Nat) (α : Type) where
  ds : α → List D
  wf : Nat → α → Prop
  up : ∀ (m n : Nat) (x : α), m ≤ n → wf m x → wf n x
  lim : Nat → Bool
  wt : α → Nat
  ok : ∀ {H : Type} {enc : TypeId × Value → H} {w : World} {fuel : Nat} {cs : List Value} {xs : List (DataW H × List MemPlace)}, lim fuel = true → cs.length = tot →
    fs.mapM (fun f => DataW.trod enc P w 0 (fun _ => true) true fuel f.type ((cs.drop f.offset).take (P.cellsOf f.type))) = some xs →
    ∃ x : α, RDs w (cs.drop off) (ds x) ∧ wf (Rows.uptoBulkAll (xs.map (·.1))) x ∧ wt x ≤ Rows.uptoBulkAll (xs.map (·.1))
def DecF.nil {P : Program} (tot : Nat) : DecF P [] tot tot Unit where
  ds _ := []
  wf _ _ := True
  up _ _ _ _ h := h
  lim _ := true
  wt _ := 0
  ok _ hl h := ⟨(), ⟨by simp [hl], fun i c d h1 h2 => by simp at h2⟩, trivial, Nat.zero_le _⟩
def DecF.cons {P : Program} {f : Field} {fs : List Field} {off tot n : Nat} {α β : Type} (de : Dec P f.type α) (ho : f.offset = off) (hn : P.cellsOf f.type = n) (r : DecF P fs (off + n) tot β) : DecF P (f :: fs) off tot (α × β) where
  ds x := de.ds x.1 ++ r.ds x.2
  wf N x := de.wf N x.1 ∧ r.wf N x.2
  up m n x h hx := ⟨de.up m n x.1 h hx.1, r.up m n x.2 h hx.2⟩
  lim f := de.lim f && r.lim f
  wt x := de.wt x.1 + r.wt x.2
  ok {H enc w fuel cs xs} hq hl h := by
    have hq := Bool.and_eq_true_iff.1 hq
    simp only [List.mapM_cons, Option.bind_eq_bind, Option.bind_eq_some_iff, Option.pure_def, Option.some.injEq] at h
    obtain ⟨b, hb, r', hr', rfl⟩ := h
    obtain ⟨x, h1, h2, h5⟩ := de.ok (d := b.1) (ps := b.2) hq.1 hb
    obtain ⟨y, h3, h4, h6⟩ := r.ok hq.2 hl hr'
    refine ⟨(x, y), ?_, ⟨de.up _ _ _ ?_ h2, r.up _ _ _ ?_ h4⟩, ?_⟩
    · have e : cs.drop off = (cs.drop f.offset).take (P.cellsOf f.type) ++ cs.drop (off + n) := by
        rw [ho, hn, ← List.drop_drop, List.take_append_drop]
      rw [e]; exact h1.append h3
    · simp only [List.map_cons, Rows.uptoBulkAll]; omega
    · simp only [List.map_cons, Rows.uptoBulkAll]; omega
    · simp only [List.map_cons, Rows.uptoBulkAll]; omega
def Dec.struct {P : Program} {t : TypeId} {fs : Array Field} {tot : Nat} {α : Type} (ht : P.underlying t = some (.struct fs)) (hc : P.cellsOf t = tot) (r : DecF P fs.toList 0 tot α) : Dec P t α where
  ds := r.ds
  wf := r.wf
  up := r.up
  lim f := r.lim (f - 1)
  wt x := r.wt x + 1
  ok {H enc w fuel cs d ps} hq h := by
    cases fuel with
    | zero => simp [DataW.trod] at h
    | succ fuel =>
      unfold DataW.trod at h
      rw [ht] at h
      split at h <;> first
        | (rename_i he1
           simp only [Option.some.injEq, TypeDesc.struct.injEq] at he1
           subst he1
           split at h
           · rename_i hl
             simp only [Option.map_eq_some_iff] at h
             obtain ⟨xs, hx, he⟩ := h
             obtain ⟨x, h1, h2, h3⟩ := r.ok hq (hl.trans hc) hx
             cases he
             exact ⟨x, h1, r.up _ _ _ (by simp only [Rows.uptoBulk]; omega) h2, by simp only [Rows.uptoBulk]; omega⟩
           · cases h)
        | (simp_all; done)
def Dec.iso {P : Program} {t : TypeId} {α β : Type} (d : Dec P t α) (f : α → β) (ds : β → List D) (wf : Nat → β → Prop) (up : ∀ (m n : Nat) (x : β), m ≤ n → wf m x → wf n x) (hd : ∀ a, d.ds a = ds (f a)) (hw : ∀ N a, d.wf N a → d.wt a ≤ N → wf N (f a)) (wt : β → Nat := fun _ => 0) (hwt : ∀ a, wt (f a) ≤ d.wt a := by intro _; exact Nat.zero_le _) : Dec P t β where
  ds := ds
  wf := wf
  up := up
  lim := d.lim
  wt := wt
  ok hq h := by
    obtain ⟨x, h1, h2, h3⟩ := d.ok hq h
    exact ⟨f x, hd x ▸ h1, hw _ _ h2 h3, Nat.le_trans (hwt x) h3⟩
theorem choose_list {α : Type} {Q : Nat → α → Prop} : ∀ (n : Nat), (∀ i, i < n → ∃ x, Q i x) → ∃ xs : List α, xs.length = n ∧ ∀ i x, xs[i]? = some x → Q i x
  | 0, _ => ⟨[], rfl, fun i x h => by simp at h⟩
  | n + 1, h => by
    obtain ⟨xs, h1, h2⟩ := choose_list n (fun i hi => h i (by omega))
    obtain ⟨x, hx⟩ := h n (by omega)
    refine ⟨xs ++ [x], by simp [h1], fun i y hy => ?_⟩
    by_cases hi : i < xs.length
    · rw [List.getElem?_append_left hi] at hy; exact h2 i y hy
    · rw [List.getElem?_append_right (by omega)] at hy
      have e : i = n := by
        apply Decidable.byContradiction; intro hne
        rw [List.getElem?_eq_none (by simp; omega)] at hy; cases hy
      subst e
      rw [h1] at hy
      simp at hy; subst hy; exact hx
theorem cells_at {w : World} {a : Addr} {n : Nat} {cs : List Value} (h : w.cells? 0 a n = some cs) : cs.length = n ∧ ∀ j, j < n → w.cell? (a.add j) = cs[j]? := by
  unfold World.cells? at h
  rw [if_pos (Nat.zero_le _)] at h
  have hl := mapM_len h
  simp at hl
  refine ⟨hl, fun j hj => ?_⟩
  obtain ⟨b, h1, h2⟩ := Lib.mapM_at h j j (by simp [hj])
  rw [h1, h2]
theorem spot_none {w : World} {a : Addr} {v : Value} (h : w.cell? a = some v) : a.spot = none := by
  unfold World.cell? at h
  split at h
  · split at h
    · cases h
    · rename_i hs; simpa using hs
  · cases h
theorem bulk_mem {H : Type} {x : DataW H} : ∀ {l : List (DataW H)}, x ∈ l → Rows.uptoBulk x ≤ Rows.uptoBulkAll l
  | [], h => by cases h
  | a :: l, h => by
    simp only [Rows.uptoBulkAll]
    rcases List.mem_cons.1 h with rfl | h
    · omega
    · have := bulk_mem h; omega
theorem bulk_pos {H : Type} (d : DataW H) : 1 ≤ Rows.uptoBulk d := by
  cases d with
  | lit l => cases l <;> simp [Rows.uptoBulk]
  | _ => simp [Rows.uptoBulk]
theorem bulk_len {H : Type} : ∀ (l : List (DataW H)), l.length ≤ Rows.uptoBulkAll l
  | [] => by simp
  | a :: l => by
    have h1 := bulk_pos a
    have h2 := bulk_len l
    simp only [Rows.uptoBulkAll, List.length_cons]; omega
theorem bulk_sum {H : Type} {α : Type} {f : α → Nat} : ∀ {xs : List α} {l : List (DataW H)}, xs.length = l.length → (∀ (i : Nat) (x : α) (d : DataW H), xs[i]? = some x → l[i]? = some d → f x ≤ Rows.uptoBulk d) → (xs.map f).sum ≤ Rows.uptoBulkAll l
  | [], l, _, _ => Nat.zero_le _
  | x :: xs, [], h, _ => by simp at h
  | x :: xs, d :: l, h, hx => by
    have h1 := hx 0 x d rfl rfl
    have h2 := bulk_sum (f := f) (xs := xs) (l := l) (by simpa using h) (fun i y e h3 h4 => hx (i + 1) y e h3 h4)
    simp only [List.map_cons, List.sum_cons, Rows.uptoBulkAll]; omega
def Dec.slice {P : Program} {t e : TypeId} {sz : Nat} {α : Type} (ht : P.underlying t = some (.slice e)) (hc : P.cellsOf e = sz) (h0 : 0 < sz) (de : Dec P e α) : Dec P t (List α) where
  ds xs := [.vec sz (xs.map de.ds)]
  wf N xs := xs.length < N ∧ ∀ x ∈ xs, de.wf N x
  up m n xs h hx := ⟨by omega, fun x hm => de.up m n x h (hx.2 x hm)⟩
  lim f := de.lim (f - 1)
  wt xs := (xs.map de.wt).sum
  ok {H enc w fuel cs d ps} hq h := by
    rcases DataW.trod_slice ht h with h1 | ⟨a, len, cap, elems, rest, n, hfu, rfl, hx, hb, hl, hm, hlen, hel, hsp, hns⟩
    · obtain ⟨rfl, h2⟩ := h1
      cases h2
      exact ⟨[], .one (.empty _ _ _), ⟨by simp [Rows.uptoBulk], by simp⟩, Nat.zero_le _⟩
    · have key : ∀ i, i < len → ∃ x, ∃ cs' : List Value, ∃ y, elems[i]? = some y ∧ w.cells? 0 (a.add (i * sz)) sz = some cs' ∧ RDs w cs' (de.ds x) ∧ de.wf (Rows.uptoBulk y.1) x ∧ de.wt x ≤ Rows.uptoBulk y.1 := fun i hi => by
        have h1 := hel i hi
        have h2 : elems[i]? = some (elems[i]'(by omega)) := List.getElem?_eq_getElem _
        rw [h2, hc, Option.bind_eq_some_iff] at h1
        obtain ⟨cs', h3, h4⟩ := h1
        obtain ⟨x, h5, h6, h7⟩ := de.ok (d := (elems[i]'(by omega)).1) (ps := (elems[i]'(by omega)).2) (by have := hq; rw [hfu] at this; exact this) h4
        exact ⟨x, cs', _, h2, h3, h5, h6, h7⟩
      obtain ⟨xs, hxl, hxs⟩ := choose_list len key
      cases hx
      refine ⟨xs, .one ?_, ⟨?_, fun x hx => ?_⟩, ?_⟩
      · by_cases hne : xs = []
        · subst hne
          simp at hxl
          rw [← hxl]
          exact .empty _ _ _
        · have hpos : 0 < len := by
            cases xs with
            | nil => exact absurd rfl hne
            | cons x l => rw [← hxl]; simp
          have hs : a.spot = none := by
            obtain ⟨x, cs', y, _, h3, _⟩ := key 0 hpos
            obtain ⟨h4, h5⟩ := cells_at h3
            have h6 := h5 0 h0
            have h7 : cs'[0]? = some (cs'[0]'(by omega)) := List.getElem?_eq_getElem _
            rw [h7] at h6
            simp only [Addr.add, Nat.zero_mul, if_true] at h6
            exact spot_none h6
          have hadd : ∀ i j, (a.add (i * sz)).add j = ⟨a.block, a.off + i * sz + j, none⟩ := fun i j => by
            cases a with
            | mk b o s =>
              simp only at hs; subst hs
              unfold Addr.add
              by_cases h1 : i * sz = 0 <;> by_cases h2 : j = 0 <;> simp [h1, h2]
          have hat : ∀ (i j : Nat) (x : List D) (d : D), (xs.map de.ds)[i]? = some x → x[j]? = some d → ∃ v, w.cell? ⟨a.block, a.off + i * sz + j, none⟩ = some v ∧ RD (fun b => b < w.heap.size) w d v := fun i j x d h1 h2 => by
            simp only [List.getElem?_map, Option.map_eq_some_iff] at h1
            obtain ⟨x', h1, rfl⟩ := h1
            obtain ⟨cs', y, _, h3, h4, _⟩ := hxs i x' h1
            obtain ⟨h5, h6⟩ := cells_at h3
            have hj : j < sz := by
              have := (List.getElem?_eq_some_iff.1 h2).1
              rw [← h4.1, h5] at this; exact this
            have h7 : cs'[j]? = some (cs'[j]'(by omega)) := List.getElem?_eq_getElem _
            have h8 := h6 j hj
            rw [hadd, h7] at h8
            exact ⟨_, h8, h4.2 j _ d h7 h2⟩
          have hal : a = ⟨a.block, a.off, none⟩ := by cases a; simp only at hs; subst hs; rfl
          have hlen' : len = (xs.map de.ds).length := by simp [hxl]
          rw [hal, hlen']
          refine RD.vec sz (xs.map de.ds) a.block a.off cap (fun i j => (w.cell? ⟨a.block, a.off + i * sz + j, none⟩).getD undef) (by simpa using hne) (by rw [← hlen']; exact hl) ?_ ?_ ?_ ?_
          · obtain ⟨x, cs', y, _, h3, _⟩ := key 0 hpos
            obtain ⟨h4, h5⟩ := cells_at h3
            have h6 := h5 0 h0
            have h7 : cs'[0]? = some (cs'[0]'(by omega)) := List.getElem?_eq_getElem _
            rw [h7, hadd] at h6
            apply Decidable.byContradiction; intro hn
            unfold World.cell? at h6
            rw [Array.getElem?_eq_none (by simp only at hn ⊢; omega)] at h6
            cases h6
          · intro x hx
            simp only [List.mem_map] at hx
            obtain ⟨x', hx', rfl⟩ := hx
            obtain ⟨i, hi⟩ := List.getElem?_of_mem hx'
            obtain ⟨cs', y, _, h3, h4, _⟩ := hxs i x' hi
            rw [← h4.1]; exact (cells_at h3).1
          · intro i j x d h1 h2
            obtain ⟨v, h3, _⟩ := hat i j x d h1 h2
            rw [h3]; rfl
          · intro i j x d h1 h2
            obtain ⟨v, h3, h4⟩ := hat i j x d h1 h2
            simp only [h3, Option.getD_some]; exact h4
      · have h1 := bulk_len (elems.map (·.1))
        simp only [Rows.uptoBulk, List.length_map] at h1 ⊢; omega
      · obtain ⟨i, hi⟩ := List.getElem?_of_mem hx
        obtain ⟨cs', y, h2, _, _, h4, _⟩ := hxs i x hi
        refine de.up _ _ _ ?_ h4
        have := bulk_mem (x := y.1) (l := elems.map (·.1)) (List.mem_map.2 ⟨y, List.mem_of_getElem? h2, rfl⟩)
        simp only [Rows.uptoBulk]; omega
      · have := bulk_sum (f := de.wt) (xs := xs) (l := elems.map (·.1)) (by simp; omega) (fun i x d h1 h2 => by
          obtain ⟨cs', y, h3, _, _, _, h4⟩ := hxs i x h1
          rw [List.getElem?_map, h3] at h2
          cases h2; exact h4)
        simp only [Rows.uptoBulk]; omega
end Go.Proofs.YtlkhdembbogcaaaGreatDoor

/- From a pure call to a row's statement. -/
set_option linter.unusedVariables false
set_option linter.unusedSimpArgs false
namespace Go.Proofs.YtlkhdembbogcaaaGreatDoor
open Go Go.RowKit Go.ChangeShapes Go.WideShapes Go.ChangeAt
theorem Below.trodAll {H : Type} {enc : TypeId × Value → H} {P : Program} (hl : laidOutB P = true) {W W' : World} (hb : Below W.heap.size W W') : ∀ {ts : List TypeId} {vs : List Value} {ds : List (DataW H)} {ps : List MemPlace},
    ts.all (fun t => P.readableRec t && decide (t < P.types.size)) = true → DataW.TrodAll enc P W 0 (fun _ => true) true ts vs ds ps → (∀ x ∈ ps, x.block < W.heap.size) → DataW.TrodAll enc P W' 0 (fun b => decide (b < W.heap.size)) true ts vs ds ps
  | [], [], [], _, _, h, _ => h
  | [], [], _ :: _, _, _, h, _ => h.elim
  | [], _ :: _, _, _, _, h, _ => h.elim
  | _ :: _, [], _, _, _, h, _ => h.elim
  | _ :: _, _ :: _, [], _, _, h, _ => h.elim
  | t :: ts, v :: vs, d :: ds, ps, ha, h, hp => by
    simp only [List.all_cons, Bool.and_eq_true, decide_eq_true_eq] at ha
    obtain ⟨p, q, h1, h2, rfl⟩ := h
    exact ⟨p, q, Below.trod hl ha.1.1 ha.1.2 h1 hb (fun x hx => hp x (List.mem_append.2 (.inl hx))), Below.trodAll hl hb (by simpa using ha.2) h2 (fun x hx => hp x (List.mem_append.2 (.inr hx))), rfl⟩
theorem law_post {P : Program} {J : Inv} {f : FuncId} {fn : Func} {s : ChangeSpec} {tb : TypeId} (hl : laidOutB P = true) (hts : fn.params.toList.all (fun t => P.readableRec t && decide (t < P.types.size)) = true)
    (hv : s.vars = []) (hres : fn.resultTypes = #[tb]) (htb : P.underlying tb = some .bool) {H : Type} {enc : TypeId × Value → H} {W : World} {args : Array Value} {ds gs : List (DataW H)} {before : List MemPlace}
    (hW : DataW.Whole enc P fn.params.toList s.vars false W args.toList ds gs before) (hs : (s.fn H (ds ++ gs)).results = [.lit (.bool true)] ∧ (s.fn H (ds ++ gs)).args = ds ∧ (s.fn H (ds ++ gs)).vars = [])
    {us : List V} (pc : PureCall P J f us (.one (.d (.bool true)))) (hJ : J.I W) (hn : args.size = us.length) (hx : ∀ (i : Nat) (u : V) (v : Value), us[i]? = some u → args[i]? = some v → RV (noGh fun b => b < W.heap.size) noSh W u v) :
    Calls P f args W fun e W' => ∃ v, e = .returned v ∧ s.post enc P fn false true false false W args v W' := by
  have h := pc.calls (fun b => b < W.heap.size) W args.toList hJ (fun b hb => hb) (by simpa using hn) (fun i u v h1 h2 => hx i u v h1 (by simpa using h2))
  have h' : Calls P f args W _ := h
  refine h'.mono fun e W' ⟨v, im', he, hB, _, _, _, hr⟩ => ⟨v, he, ?_⟩
  obtain rfl : v = .bool true := by
    cases hr with | one _ _ h => cases h with | d _ _ h => cases h with | bool => rfl
  have hlt : ∀ x ∈ before, x.block < W.heap.size := fun x hx => by simpa using hW.lt x hx
  have hW' := hW
  obtain ⟨p, q, hA, hV, rfl, _, _⟩ := hW
  rw [hv] at hV
  have hgs : gs = [] ∧ q = [] := by
    cases gs with
    | nil => exact ⟨rfl, hV⟩
    | cons g gs => exact hV.elim
  obtain ⟨rfl, rfl⟩ := hgs
  refine ⟨ds, [], p ++ [], [], p, [], hW', ?_, ?_, ?_, hB.frame _, fun h => by cases h⟩
  · rw [hs.1, hres]
    exact trodAll_cons_mk (shut_bool htb true) trodAll_mk0
  · rw [hs.2.1]
    exact Below.trodAll hl hB hts hA (fun x hx => hlt x (by simp [hx]))
  · rw [hs.2.2, hv]; rfl
/-- An argument that is a struct or an array; one that is not. -/
theorem arg_agg {P : Program} {t : TypeId} {α : Type} (de : Dec P t α) {W : World} {r : Reach} {base : Nat} {v : Value} (ht : (match P.underlying t with | some (.struct _) | some (.array _ _) => true | _ => false) = true) (hv : Value.okWide P W r base t v)
    {H : Type} {enc : TypeId × Value → H} {d : DataW H} {ps : List MemPlace} (h : DataW.Trod enc P W 0 (fun _ => true) true t v d ps) (hlim : ∀ f, de.lim f = true := by intro _; rfl) : ∃ x : α, RV (noGh fun b => b < W.heap.size) noSh W (.agg ((de.ds x).map .d)) v ∧ de.wf (Rows.uptoBulk d) x := by
  obtain ⟨fuel, h⟩ := h
  obtain ⟨x, h1, h2, _⟩ := de.ok (hlim _) h
  refine ⟨x, ?_, h2⟩
  have hc : ∃ cs, v = .agg cs := by
    unfold Value.okWide at hv
    split at hv
    · exact ⟨_, hv.choose_spec.1⟩
    · exact ⟨_, hv.choose_spec.1⟩
    · rename_i h3 h4
      split at ht
      · rename_i fs h5; exact absurd h5 (h3 _)
      · rename_i n e h5; exact absurd h5 (h4 _ _)
      · cases ht
  obtain ⟨cs, rfl⟩ := hc
  have h3 : RDs W cs.toList (de.ds x) := h1
  have := RV.agg (g := noGh fun b => b < W.heap.size) (h := noSh) (w := W) ((de.ds x).map .d) cs.toList (by simp [h3.1]) (fun i c v hc hv => by
    simp only [List.getElem?_map, Option.map_eq_some_iff] at hc
    obtain ⟨d, hd, rfl⟩ := hc
    exact .d _ _ (h3.2 i v d hv hd))
  simpa using this
theorem arg_one {P : Program} {t : TypeId} {α : Type} (de : Dec P t α) {W : World} {r : Reach} {base : Nat} {v : Value} (ht : (match P.underlying t with | some .bool | some (.int _) | some .string | some (.slice _) | some (.pointer _) | some (.map _ _) => true | _ => false) = true) (hv : Value.okWide P W r base t v)
    {H : Type} {enc : TypeId × Value → H} {d : DataW H} {ps : List MemPlace} (h : DataW.Trod enc P W 0 (fun _ => true) true t v d ps) (hlim : ∀ f, de.lim f = true := by intro _; rfl) : ∃ x : α, (∀ e, de.ds x = [e] → RV (noGh fun b => b < W.heap.size) noSh W (.one (.d e)) v) ∧ de.wf (Rows.uptoBulk d) x := by
  obtain ⟨fuel, h⟩ := h
  obtain ⟨x, h1, h2, _⟩ := de.ok (hlim _) h
  refine ⟨x, fun e he => ?_, h2⟩
  have hc : v.cells.toList = [v] := by
    cases v with
    | agg cs =>
      exfalso
      unfold Value.okWide Cell.okWide Cell.ok at hv
      split at ht <;> simp_all
    | _ => rfl
  rw [hc, he] at h1
  exact .one _ _ (.d _ _ (h1.2 0 v e rfl rfl))
end Go.Proofs.YtlkhdembbogcaaaGreatDoor

/- The world in which a row's call begins: what the listed variables give; a world for the witness. -/
set_option linter.unusedVariables false
set_option linter.unusedSimpArgs false
set_option maxRecDepth 100000
namespace Go.Proofs.YtlkhdembbogcaaaGreatDoor
open Go Go.RowKit Go.ChangeShapes Go.WideShapes Go.ChangeAt
theorem trod_iface {H : Type} {enc : TypeId × Value → H} {P : Program} {w : World} {fuel : Nat} {t : TypeId} {cs : List Value} {nm : String} {x : DataW H} {p : List MemPlace} {ms : Array (String × TypeId)} (ht : P.underlying t = some (.interface ms))
    (h : DataW.trod enc P w 0 (fun _ => true) false fuel t cs = some (.iface nm x, p)) : ∃ u v, cs = [.iface u v] := by
  cases fuel with
  | zero => simp [DataW.trod] at h
  | succ fuel =>
    unfold DataW.trod at h
    rw [ht] at h
    split at h <;> first
      | exact ⟨_, _, rfl⟩
      | (simp_all; done)
theorem err_of {P : Program} {W : World} {n : String} {nm : String} {d : DataW Unit} {g : Nat} {t : TypeId} {ms : Array (String × TypeId)} (hg : P.globalNamed n = some g) (hty : (P.globals[g]?).map (·.type) = some t) (ht : P.underlying t = some (.interface ms))
    (h : Lib.VarReads P W n (.iface nm d)) : ∃ t p, W.var? P n = some #[.iface t p] := by
  obtain ⟨g', t', cs, fuel, p, hg', ht', hvar, hd⟩ := h
  obtain rfl := Option.some.inj (hg.symm.trans hg')
  obtain rfl := Option.some.inj (hty.symm.trans ht')
  obtain ⟨u, v, hc⟩ := trod_iface ht hd
  exact ⟨u, v, by rw [hvar]; congr 1; exact Array.ext' (by simpa using hc)⟩
theorem pow_of {W : World} (h : Lib.VarReads Tryz.prog W "internal/strconv.uint64pow10" Rows.laid_internal_strconv_uint64pow10) : Lib.TabIs Tryz.prog W "internal/strconv.uint64pow10" .u64 Lib.pow10Tab := by
  obtain ⟨g', t', cs, fuel, p, hg', ht', hvar, hd⟩ := h
  obtain rfl := Option.some.inj ((show Tryz.prog.globalNamed "internal/strconv.uint64pow10" = some 3 by kernel_rfl).symm.trans hg')
  obtain rfl := Option.some.inj ((show (Tryz.prog.globals[3]?).map (·.type) = some 248 by kernel_rfl).symm.trans ht')
  unfold Lib.TabIs
  rw [hvar, ← Lib.cells_of_tab (k := .u64) (zs := Lib.pow10Tab) Tryz.underlying248 Tryz.underlying106 (by kernel_rfl) (by kernel_rfl) hd]
theorem db_of {W : World} (h : Lib.VarReads Tryz.prog W "math/bits.deBruijn64tab" Rows.laid_math_bits_deBruijn64tab) : Lib.TabIs Tryz.prog W "math/bits.deBruijn64tab" .u8 (List.map (fun n : Nat => (n : Int)) Lib.deBruijn64tab) := by
  obtain ⟨g', t', cs, fuel, p, hg', ht', hvar, hd⟩ := h
  obtain rfl := Option.some.inj ((show Tryz.prog.globalNamed "math/bits.deBruijn64tab" = some 7 by kernel_rfl).symm.trans hg')
  obtain rfl := Option.some.inj ((show (Tryz.prog.globals[7]?).map (·.type) = some 270 by kernel_rfl).symm.trans ht')
  unfold Lib.TabIs
  rw [hvar, ← Lib.cells_of_tab (k := .u8) (zs := List.map (fun n : Nat => (n : Int)) Lib.deBruijn64tab) Tryz.underlying270 Tryz.underlying5 (by kernel_rfl) (by kernel_rfl) hd]
theorem base_of {W : World} {l : List (String × DataW Unit)} (hl : laidMet Tryz.prog l W) (h1 : ("internal/strconv.uint64pow10", Rows.laid_internal_strconv_uint64pow10) ∈ l) (h2 : ("strconv.ErrSyntax", Rows.laid_strconv_ErrSyntax) ∈ l)
    (h3 : ("strconv.ErrRange", Rows.laid_strconv_ErrRange) ∈ l) (h4 : ("math/bits.deBruijn64tab", Rows.laid_math_bits_deBruijn64tab) ∈ l) (hS : W.ShapedOpen Tryz.prog) : J.I W where
  max := cell_of_shapedOpen_int (t := 3) (zero := #[.int .i64 0]) hS (of_decide_eq_true (by kernel_rfl)) (by kernel_rfl) rfl (by kernel_rfl) (by kernel_rfl) Tryz.underlying3
  pow := pow_of (Lib.laidMet.reads hl h1)
  esyn := err_of (g := 1) (by kernel_rfl) (by kernel_rfl) Tryz.underlying96 (Lib.laidMet.reads hl h2)
  eran := err_of (g := 2) (by kernel_rfl) (by kernel_rfl) Tryz.underlying96 (Lib.laidMet.reads hl h3)
  db := db_of (Lib.laidMet.reads hl h4)
mutual
def dcells : DataW Unit → List Value
  | .lit (.int k n) => [.int k n]
  | .agg ds => dcellsL ds
  | _ => []
def dcellsL : List (DataW Unit) → List Value
  | [] => []
  | d :: ds => dcells d ++ dcellsL ds
end
def putCs (cs : List Value) : Obj → Obj
  | .cells _ t fr => .cells cs.toArray t fr
  | o => o
def errText : DataW Unit → ByteArray
  | .iface _ (.ptr (.agg [.lit (.string s)])) => ⟨s.toArray⟩
  | _ => ByteArray.empty
def errCell (b : Nat) : List Value := [.iface 244 (.pointer (some ⟨b, 0, none⟩))]
/-- The settled world, the listed variables holding what their initialisers lay. -/
noncomputable def laidWorld (os : Os) : World :=
  { World.holding Tryz.prog os ⟨#[], #[], []⟩ with heap :=
    let h := (World.holding Tryz.prog os ⟨#[], #[], []⟩).heap
    let h := h.modify 3 (putCs (dcells Rows.laid_internal_strconv_uint64pow10))
    let h := h.modify 4 (putCs (dcells Rows.laid_unicode_utf8_first))
    let h := h.modify 5 (putCs (dcells Rows.laid_unicode_utf8_acceptRanges))
    let h := h.modify 6 (putCs (dcells Rows.laid_math_bits_deBruijn32tab))
    let h := h.modify 7 (putCs (dcells Rows.laid_math_bits_deBruijn64tab))
    let n := h.size
    let h := h.modify 1 (putCs (errCell n))
    let h := h.modify 2 (putCs (errCell (n + 1)))
    (h.push (.cells #[.string (errText Rows.laid_strconv_ErrSyntax)] 246 (0, 0))).push (.cells #[.string (errText Rows.laid_strconv_ErrRange)] 246 (0, 0)) }
end Go.Proofs.YtlkhdembbogcaaaGreatDoor

/- Decoders of the seat's types. -/
set_option linter.unusedVariables false
namespace Go.Proofs.YtlkhdembbogcaaaGreatDoor
open Go Go.RowKit
noncomputable def decVer : Dec Tryz.prog 35 Ver :=
  Dec.iso (Dec.struct Tryz.underlying35 (tot := 4) (by kernel_rfl)
    (DecF.cons (Dec.int .i64 Tryz.underlying3) rfl (n := 1) (by kernel_rfl) (DecF.cons (Dec.int .i64 Tryz.underlying3) rfl (n := 1) (by kernel_rfl) (DecF.cons (Dec.int .i64 Tryz.underlying3) rfl (n := 1) (by kernel_rfl) (DecF.cons (Dec.str Tryz.underlying9) rfl (n := 1) (by kernel_rfl) (DecF.nil 4))))))
    (fun x => (⟨x.1, x.2.1, x.2.2.1, x.2.2.2.1⟩ : Ver)) verD (fun N v => VerOk v ∧ v.e.length < N) (fun m n v h hv => ⟨hv.1, Nat.lt_of_lt_of_le hv.2 h⟩) (fun _ => rfl)
    (fun N x hx _ => by
      obtain ⟨h1, h2, h3, h4, _⟩ := hx
      have b1 := bounds_i64 h1
      have b2 := bounds_i64 h2
      have b3 := bounds_i64 h3
      exact ⟨⟨b1.1, b1.2, b2.1, b2.2, b3.1, b3.2⟩, h4⟩)
end Go.Proofs.YtlkhdembbogcaaaGreatDoor

/- Decoders of spans and ranges. -/
set_option linter.unusedVariables false
namespace Go.Proofs.YtlkhdembbogcaaaGreatDoor
open Go Go.RowKit
noncomputable def decSp : Dec Tryz.prog 135 Sp :=
  Dec.iso (Dec.struct Tryz.underlying135 (tot := 10) (by kernel_rfl)
    (DecF.cons (Dec.bool Tryz.underlying4) rfl (n := 1) (by kernel_rfl) (DecF.cons (Dec.bool Tryz.underlying4) rfl (n := 1) (by kernel_rfl) (DecF.cons decVer rfl (n := 4) (by kernel_rfl) (DecF.cons decVer rfl (n := 4) (by kernel_rfl) (DecF.nil 10))))))
    (fun x => (⟨x.1, x.2.1, x.2.2.1, x.2.2.2.1⟩ : Sp)) spD (fun N s => SpOk s ∧ s.f.e.length < N ∧ s.t.e.length < N) (fun m n s h hs => ⟨hs.1, Nat.lt_of_lt_of_le hs.2.1 h, Nat.lt_of_lt_of_le hs.2.2 h⟩) (fun _ => rfl)
    (fun N x hx _ => ⟨⟨hx.2.2.1.1, hx.2.2.2.1.1⟩, hx.2.2.1.2, hx.2.2.2.1.2⟩)
noncomputable def decRg : Dec Tryz.prog 38 (List Sp) :=
  Dec.iso (Dec.struct Tryz.underlying38 (tot := 1) (by kernel_rfl) (DecF.cons (Dec.slice Tryz.underlying36 (sz := 10) (by kernel_rfl) (by decide) decSp) rfl (n := 1) (by kernel_rfl) (DecF.nil 1)))
    (fun x => x.1) (fun ss => [.vec 10 (ss.map spD)]) (fun N ss => ss.length < N ∧ ∀ s ∈ ss, SpOk s ∧ s.f.e.length < N ∧ s.t.e.length < N)
    (fun m n ss h hs => ⟨Nat.lt_of_lt_of_le hs.1 h, fun s hm => ⟨(hs.2 s hm).1, Nat.lt_of_lt_of_le (hs.2 s hm).2.1 h, Nat.lt_of_lt_of_le (hs.2 s hm).2.2 h⟩⟩) (fun _ => rfl) (fun N x hx _ => hx.1)
end Go.Proofs.YtlkhdembbogcaaaGreatDoor

/- Decoders of conditions: a type that holds itself. -/
set_option linter.unusedVariables false
set_option maxRecDepth 100000
namespace Go.Proofs.YtlkhdembbogcaaaGreatDoor
open Go Go.RowKit
/-- A condition whose texts and lists are shorter than N. -/
inductive CtIn (N : Nat) : CT → Prop where
  | mk (k : Int) (n v : List UInt8) (l : List CT) (h1 : n.length < N) (h2 : v.length < N) (h3 : ∀ a ∈ l, CtIn N a) (h4 : l.length < N) (h5 : -9223372036854775808 ≤ k ∧ k ≤ 9223372036854775807) : CtIn N (.mk k n v l)
theorem CtIn.up {m n : Nat} (h : m ≤ n) : ∀ {c : CT}, CtIn m c → CtIn n c := fun hc => by
  induction hc with
  | mk k nn v l h1 h2 h3 h4 h5 ih => exact .mk k nn v l (by omega) (by omega) ih (by omega) h5
theorem CtIn.big {N : Nat} (hN : N ≤ 4294967000) : ∀ {c : CT}, CtIn N c → CtBig c := fun hc => by
  induction hc with
  | mk k nn v l h1 h2 h3 h4 h5 ih => exact .mk k nn v l (by omega) (by omega) ih (by omega)
def CtWf (N : Nat) (c : CT) : Prop := CtIn N c ∧ c.w ≤ N
theorem CtWf.up {m n : Nat} {c : CT} (h : m ≤ n) (hc : CtWf m c) : CtWf n c := ⟨CtIn.up h hc.1, Nat.le_trans hc.2 h⟩
theorem ws_sum : ∀ (l : List CT), CT.ws l = (l.map CT.w).sum
  | [] => rfl
  | c :: l => by
    show c.w + CT.ws l = _
    rw [ws_sum l]; rfl
/-- Conditions, read with so much fuel. -/
theorem condOk : ∀ (n : Nat) {H : Type} {enc : TypeId × Value → H} {w : World} {fuel : Nat} {cs : List Value} {d : DataW H} {ps : List MemPlace}, fuel ≤ n → DataW.trod enc Tryz.prog w 0 (fun _ => true) true fuel 41 cs = some (d, ps) →
    ∃ x : CT, RDs w cs (CT.d x) ∧ CtWf (Rows.uptoBulk d) x ∧ x.w ≤ Rows.uptoBulk d
  | 0, H, enc, w, fuel, cs, d, ps, hf, h => by
    obtain rfl : fuel = 0 := by omega
    simp [DataW.trod] at h
  | n + 1, H, enc, w, fuel, cs, d, ps, hf, h => by
    let e : Dec Tryz.prog 41 CT := { ds := CT.d, wf := CtWf, up := fun _ _ _ h hx => CtWf.up h hx, lim := fun f => decide (f ≤ n), wt := CT.w, ok := fun hl h => condOk n (of_decide_eq_true hl) h }
    let D0 := Dec.iso (Dec.struct Tryz.underlying41 (tot := 4) (by kernel_rfl)
      (DecF.cons (Dec.int .i64 Tryz.underlying3) rfl (n := 1) (by kernel_rfl) (DecF.cons (Dec.str Tryz.underlying9) rfl (n := 1) (by kernel_rfl) (DecF.cons (Dec.str Tryz.underlying9) rfl (n := 1) (by kernel_rfl)
        (DecF.cons (Dec.slice Tryz.underlying39 (sz := 4) (by kernel_rfl) (by decide) e) rfl (n := 1) (by kernel_rfl) (DecF.nil 4))))))
      (fun x => CT.mk x.1 x.2.1 x.2.2.1 x.2.2.2.1) CT.d CtWf (fun _ _ _ h hx => CtWf.up h hx) (fun x => by rw [ct_d]; show _ = [_, _, _, D.vec 4 (CT.ds x.2.2.2.1)]; rw [ds_map]; rfl)
      (fun N x hx hw => by
        obtain ⟨h1, h2, h3, h4, _⟩ := hx
        refine ⟨.mk _ _ _ _ h2 h3 (fun a ha => (h4.2 a ha).1) h4.1 (bounds_i64 h1), ?_⟩
        show CT.ws x.2.2.2.1 + 1 ≤ N
        have hw : (0 + (0 + (0 + ((x.2.2.2.1.map CT.w).sum + 0)))) + 1 ≤ N := hw
        rw [ws_sum]; omega) CT.w (fun x => by
        show CT.ws x.2.2.2.1 + 1 ≤ (0 + (0 + (0 + ((x.2.2.2.1.map CT.w).sum + 0)))) + 1
        rw [ws_sum]; omega)
    refine D0.ok ?_ h
    show (true && (true && (true && (decide (fuel - 1 - 1 ≤ n) && true)))) = true
    simp; omega
noncomputable def decCT : Dec Tryz.prog 41 CT where
  ds := CT.d
  wf := CtWf
  up _ _ _ h hx := CtWf.up h hx
  lim _ := true
  wt := CT.w
  ok _ h := condOk _ (Nat.le_refl _) h
end Go.Proofs.YtlkhdembbogcaaaGreatDoor

/- Decoders of offers. -/
set_option linter.unusedVariables false
set_option maxRecDepth 100000
namespace Go.Proofs.YtlkhdembbogcaaaGreatDoor
open Go Go.RowKit
structure OfrWf (N : Nat) (o : Ofr) : Prop where
  n : o.n.length < N
  v : VerOk o.v ∧ o.v.e.length < N
  sm : o.sm.length < N
  f : o.f.length < N ∧ ∀ s ∈ o.f, SpOk s ∧ s.f.e.length < N ∧ s.t.e.length < N
  w : CtWf N o.w
theorem OfrWf.up {m n : Nat} (h : m ≤ n) {o : Ofr} (ho : OfrWf m o) : OfrWf n o :=
  ⟨Nat.lt_of_lt_of_le ho.n h, ⟨ho.v.1, Nat.lt_of_lt_of_le ho.v.2 h⟩, Nat.lt_of_lt_of_le ho.sm h, ⟨Nat.lt_of_lt_of_le ho.f.1 h, fun s hs => ⟨(ho.f.2 s hs).1, Nat.lt_of_lt_of_le (ho.f.2 s hs).2.1 h, Nat.lt_of_lt_of_le (ho.f.2 s hs).2.2 h⟩⟩, CtWf.up h ho.w⟩
theorem OfrWf.ok {N : Nat} (hN : N ≤ 1048576) {o : Ofr} (h : OfrWf N o) : OfrOk o where
  n := by have := h.n; omega
  v := h.v.1
  e := by have := h.v.2; omega
  sm := by have := h.sm; omega
  fl := by have := h.f.1; omega
  fs s hs := by have := h.f.2 s hs; unfold SpLen; omega
  w := CtIn.big (by omega) h.w.1
  ww := by have := h.w.2; omega
theorem rg_ds (x : List Sp) : decRg.ds x = [D.vec 10 (x.map spD)] := rfl
noncomputable def decOfr : Dec Tryz.prog 43 Ofr :=
  Dec.iso (Dec.struct Tryz.underlying43 (tot := 18) (by kernel_rfl)
    (DecF.cons (Dec.str Tryz.underlying9) rfl (n := 1) (by kernel_rfl) (DecF.cons decVer rfl (n := 4) (by kernel_rfl) (DecF.cons (Dec.str Tryz.underlying9) rfl (n := 1) (by kernel_rfl) (DecF.cons decRg rfl (n := 1) (by kernel_rfl)
      (DecF.cons (Dec.bool Tryz.underlying4) rfl (n := 1) (by kernel_rfl) (DecF.cons decCT rfl (n := 4) (by kernel_rfl) (DecF.cons (Dec.int .i64 Tryz.underlying3) rfl (n := 1) (by kernel_rfl) (DecF.cons (Dec.int .i64 Tryz.underlying3) rfl (n := 1) (by kernel_rfl)
        (DecF.cons (Dec.int .i64 Tryz.underlying3) rfl (n := 1) (by kernel_rfl) (DecF.cons (Dec.bool Tryz.underlying4) rfl (n := 1) (by kernel_rfl) (DecF.cons (Dec.bool Tryz.underlying4) rfl (n := 1) (by kernel_rfl) (DecF.cons (Dec.bool Tryz.underlying4) rfl (n := 1) (by kernel_rfl) (DecF.nil 18))))))))))))))
    (fun x => (⟨x.1, x.2.1, x.2.2.1, x.2.2.2.1, x.2.2.2.2.1, x.2.2.2.2.2.1, x.2.2.2.2.2.2.1, x.2.2.2.2.2.2.2.1, x.2.2.2.2.2.2.2.2.1, x.2.2.2.2.2.2.2.2.2.1, x.2.2.2.2.2.2.2.2.2.2.1, x.2.2.2.2.2.2.2.2.2.2.2.1⟩ : Ofr)) ofrD OfrWf
    (fun _ _ _ h hx => OfrWf.up h hx) (fun x => by
      show _ ++ (_ ++ (_ ++ (_ ++ (_ ++ (CT.d x.2.2.2.2.2.1 ++ _))))) = _
      rw [ct_d]; rfl)
    (fun N x hx _ => ⟨hx.1, hx.2.1, hx.2.2.1, hx.2.2.2.1, hx.2.2.2.2.2.1⟩)
end Go.Proofs.YtlkhdembbogcaaaGreatDoor

/- SharesMatch: the contract of its row. -/
set_option linter.unusedVariables false
set_option linter.unusedSimpArgs false
set_option maxRecDepth 100000
set_option maxHeartbeats 4000000
namespace Go.Proofs.YtlkhdembbogcaaaGreatDoor.fnSharesMatch
open Go Go.RowKit Go.ChangeShapes Go.WideShapes Go.ChangeAt
theorem contract (H : Type) (enc : TypeId × Value → H) (W : World) (base : Nat) (args : Array Value) (ds gs : List (DataW H)) (before : List MemPlace)
    (hval : ∀ (j : Nat) t v, Tryz.f4.params[j]? = some t → args[j]? = some v → Value.okWide Tryz.prog W .any base t v)
    (hW : DataW.Whole enc Tryz.prog Tryz.f4.params.toList Rows.sharesMatchSpec.vars false W args.toList ds gs before) (hc : Rows.uptoSmall H (ds ++ gs) = true)
    (hL : laidMetH Tryz.prog Rows.sharesMatchUptoRow.laid W) (hS : W.ShapedOpen Tryz.prog) :
    Calls Tryz.prog 4 args W fun e W' => ∃ v, e = .returned v ∧ Rows.sharesMatchSpec.post enc Tryz.prog Tryz.f4 false true false false W args v W' := by
  have hW' := hW
  obtain ⟨p, q, hA0, hV, rfl, hfz, hnd⟩ := hW
  have hA : DataW.TrodAll enc Tryz.prog W 0 (fun _ => true) true Tryz.f4.params.toList args.toList ds p := hA0
  rw [Tryz.params4] at hA hval
  obtain ⟨v0, vs0, d0, ds0, p0, q0, hargs, rfl, rfl, h0, r0⟩ := trodAll_cons hA
  obtain ⟨v1, vs1, d1, ds1, p1, q1, rfl, rfl, rfl, h1, r1⟩ := trodAll_cons r0
  obtain ⟨v2, vs2, d2, ds2, p2, q2, rfl, rfl, rfl, h2, r2⟩ := trodAll_cons r1
  obtain ⟨v3, vs3, d3, ds3, p3, q3, rfl, rfl, rfl, h3, r3⟩ := trodAll_cons r2
  obtain ⟨rfl, rfl, rfl⟩ := trodAll_nil r3
  obtain rfl : args = #[v0, v1, v2, v3] := Array.ext' (by simpa using hargs)
  obtain ⟨rfl, rfl⟩ := trodVars_none hV
  obtain ⟨o, e0, w0⟩ := arg_agg decOfr (by kernel_rfl) (hval 0 43 v0 rfl rfl) h0
  obtain ⟨m, e1, w1⟩ := arg_one (Dec.str Tryz.underlying9) (by kernel_rfl) (hval 1 9 v1 rfl rfl) h1
  obtain ⟨l, e2, w2⟩ := arg_one (Dec.slice Tryz.underlying52 (sz := 1) (by kernel_rfl) (by decide) (Dec.str Tryz.underlying9)) (by kernel_rfl) (hval 2 52 v2 rfl rfl) h2
  obtain ⟨u, e3, w3⟩ := arg_one (Dec.int .i64 Tryz.underlying3) (by kernel_rfl) (hval 3 3 v3 rfl rfl) h3
  have hbulk : Rows.uptoBulkAll ([d0, d1, d2, d3] ++ []) ≤ 1048576 := of_decide_eq_true hc
  simp only [List.append_nil, Rows.uptoBulkAll] at hbulk
  have h0 : OfrWf (Rows.uptoBulk d0) o := w0
  have h1 : m.length < Rows.uptoBulk d1 := w1
  have h2 : l.length < Rows.uptoBulk d2 ∧ ∀ x ∈ l, x.length < Rows.uptoBulk d2 := w2
  have pc := pc_outlaw2_SharesMatch o (h0.ok (by omega)) m (by omega) l (by omega) (fun x hx => by have := h2.2 x hx; omega) u
  refine law_post (by kernel_rfl) (by kernel_rfl) rfl rfl Tryz.underlying4 hW' ⟨rfl, rfl, rfl⟩ pc (base_of (l := Rows.sharesMatchUptoRow.laid) hL (.tail _ (.tail _ (.head _))) (.tail _ (.tail _ (.tail _ (.tail _ (.tail _ (.head _)))))) (.tail _ (.tail _ (.tail _ (.tail _ (.head _))))) (.tail _ (.head _)) hS) rfl (fun i u v hu hv => ?_)
  match i with
  | 0 => simp at hu hv; subst hu; subst hv; exact e0
  | 1 => simp at hu hv; subst hu; subst hv; exact e1 _ rfl
  | 2 => simp at hu hv; subst hu; subst hv; exact e2 _ rfl
  | 3 => simp at hu hv; subst hu; subst hv; exact e3 _ rfl
  | i + 4 => simp at hu
end Go.Proofs.YtlkhdembbogcaaaGreatDoor.fnSharesMatch

/- SharesMatch: where what it reads is of bulk at most 1048576, it returns true, and what it was given reads as it did. -/
set_option linter.unusedVariables false
set_option linter.unusedSimpArgs false
set_option maxHeartbeats 4000000
namespace Go.Proofs.YtlkhdembbogcaaaGreatDoor.fnSharesMatch
open Go Go.RowKit Go.ChangeShapes Go.WideShapes Go.ChangeAt
def zargs : Array Value := #[.agg #[.string ⟨#[]⟩, .int .i64 0, .int .i64 0, .int .i64 0, .string ⟨#[]⟩, .string ⟨#[]⟩, .slice none 0 0, .bool false, .int .i64 0, .string ⟨#[]⟩, .string ⟨#[]⟩, .slice none 0 0, .int .i64 0, .int .i64 0, .int .i64 0, .bool false, .bool false, .bool false], .string ⟨#[]⟩, .slice none 0 0, .int .i64 0]
set_option maxRecDepth 100000 in
theorem laid_met (os : Os) : laidMet Tryz.prog Rows.sharesMatchUptoRow.laid ((laidWorld os).forCall (fun _ _ => 0) ⟨#[], zargs, []⟩).memory :=
  laidMet_of_run' 8 (by kernel_rfl) (by kernel_rfl)
set_option maxRecDepth 100000 in
theorem reads (os : Os) {H : Type} (enc : TypeId × Value → H) : ∃ ds places, DataW.whole enc Tryz.prog ((laidWorld os).forCall (fun _ _ => 0) ⟨#[], zargs, []⟩).memory Tryz.f4.params.toList Rows.sharesMatchSpec.vars false zargs.toList 8 = some (ds, [], places) ∧ Rows.uptoSmall H (ds ++ []) = true :=
  ⟨[.agg [.lit (.string []), .agg [.lit (.int .i64 0), .lit (.int .i64 0), .lit (.int .i64 0), .lit (.string [])], .lit (.string []), .agg [.nil], .lit (.bool false), .agg [.lit (.int .i64 0), .lit (.string []), .lit (.string []), .nil], .lit (.int .i64 0), .lit (.int .i64 0), .lit (.int .i64 0), .lit (.bool false), .lit (.bool false), .lit (.bool false)], .lit (.string []), .nil, .lit (.int .i64 0)], [], by kernel_rfl, by kernel_rfl⟩
theorem own : ownKnob Tryz.prog.godebug = none := by kernel_rfl
set_option maxRecDepth 100000 in
theorem liftedUpto (os : Os) (started : os.Started) (H : Type) (enc : TypeId × Value → H) (F : Stop.Interp) :
    ReturnsInHanded {} Tryz.checked os 4 .any ((Rows.OpenSpec.upto Rows.sharesMatchSpec).preRow enc Tryz.prog Tryz.f4 Rows.sharesMatchUptoRow.domain false Rows.sharesMatchUptoRow.laid) (((Rows.OpenSpec.upto Rows.sharesMatchSpec).at F).post enc Tryz.prog Tryz.f4 false true false false) := by
  obtain ⟨ds, places, hx, hsm⟩ := reads os enc
  refine returnsInHanded_of_row (C := Tryz.checked) (s := Rows.OpenSpec.upto Rows.sharesMatchSpec) own started (by kernel_rfl) Tryz.func4
    (witness_row_at (enc := enc) (C := Tryz.checked) false (laidWorld os) zargs rfl (by kernel_rfl) (by kernel_rfl) (by kernel_rfl)
      (OpenSpec.preRow_of_cond 8 hx (by kernel_rfl) (fun k hk => by cases hk; exact hsm) (by kernel_rfl) (laid_met os))) ?_
  intro W base args ds gs before hval hW _ hcond _ hL hS _
  exact contract H enc W base args ds gs before hval hW (hcond _ rfl) hL hS
theorem band {a b : Bool} (ha : a = true) (hb : b = true) : (a && b) = true := by rw [ha, hb]; rfl
set_option maxRecDepth 100000 in
theorem closed : joinedFacts Tryz.pinned.checked.prog 4 Tryz.f4 (Rows.OpenSpec.upto Rows.sharesMatchSpec).bare Rows.sharesMatchUptoRow = true := by
  unfold joinedFacts
  refine band (band (band (band (band (band (band (band (band (band (band (band (band (band (band (band (band (band (band (band (band (band (band (band (band (band (band (band (band (band (band ?_ ?_) ?_) ?_) ?_) ?_) ?_) ?_) ?_) ?_) ?_) ?_) ?_) ?_) ?_) ?_) ?_) ?_) ?_) ?_) ?_) ?_) ?_) ?_) ?_) ?_) ?_) ?_) ?_) ?_) ?_) ?_
  all_goals (as_aux_lemma => kernel_rfl)
theorem saidUpto : Rows.SharesMatchUptoSaid :=
  OpenClaim.holds_of_cond 4 Tryz.f4 rfl rfl rfl rfl rfl rfl rfl ⟨rfl, rfl, rfl, rfl, rfl⟩ rfl rfl rfl rfl rfl (by as_aux_lemma => kernel_rfl) Tryz.func4 closed
    (of_decide_eq_true (by kernel_rfl)) (by unfold Func.isWrapper; first | (rw [if_pos (by decide +kernel)]; kernel_rfl) | (rw [if_neg (by decide +kernel)]; exact ⟨rfl, rfl⟩))
    (fun os started H enc _ F => by rw [OpenClaim.pre_eq_preRow]; exact liftedUpto os started H enc F)
theorem plain (f : FuncId) (fn : Func) (hf : Tryz.pinned.checked.prog.funcNamed "outfitter/outlaw2.SharesMatch" = some f) (hfn : Tryz.pinned.checked.prog.funcs[f]? = some fn) :
    true = Tryz.pinned.checked.prog.looks [] ∧ ∀ (j : Nat) t, fn.params[j]? = some t → Tryz.pinned.checked.prog.wantsStandIn t = false := by
  obtain rfl : f = 4 := Option.some.inj ((show Tryz.prog.funcNamed "outfitter/outlaw2.SharesMatch" = some 4 by kernel_rfl).symm.trans hf) |>.symm
  obtain rfl : fn = Tryz.f4 := (Option.some.inj (Tryz.func4.symm.trans hfn)).symm
  refine ⟨by kernel_rfl, fun j t ht => ?_⟩
  rw [Tryz.params4] at ht
  have hm : t = 52 ∨ t = 43 ∨ t = 3 ∨ t = 9 := by
    have h1 := Array.mem_of_getElem? ht
    have h2 : t = 43 ∨ t = 9 ∨ t = 52 ∨ t = 3 := by simpa using h1
    rcases h2 with h | h | h | h <;> rw [h] <;> simp
  rcases hm with rfl | rfl | rfl | rfl
  · exact (show Tryz.prog.wantsStandIn 52 = false by kernel_rfl)
  · exact (show Tryz.prog.wantsStandIn 43 = false by kernel_rfl)
  · exact (show Tryz.prog.wantsStandIn 3 = false by kernel_rfl)
  · exact (show Tryz.prog.wantsStandIn 9 = false by kernel_rfl)
theorem cardUpto : Rows.SharesMatchUptoCardSaid :=
  Claim7.holds_tied_plain_at .later [] _ _ _ _ saidUpto (fun _ h => by cases h) (by kernel_rfl) (fun _ h => by cases h) sharesMatchUpto_row_tie rfl ⟨rfl, rfl⟩ (by kernel_rfl) rfl plain (by kernel_rfl)
end Go.Proofs.YtlkhdembbogcaaaGreatDoor.fnSharesMatch
