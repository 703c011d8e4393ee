/- VersionsMatch: the contract of its row. -/
import Derived.Test.YtepdjimbnbiicaaGreatDoorW5
import Derived.Test.YtepdjimbnbiicaaGreatDoorD2
set_option linter.unusedVariables false
set_option linter.unusedSimpArgs false
set_option maxRecDepth 100000
namespace Go.Proofs.YtepdjimbnbiicaaGreatDoor.fnVersionsMatch
open Go Go.RowKit Go.ChangeShapes Go.WideShapes Go.ChangeAt

theorem contract (H : Type) (enc : TypeId × Value → H) (W : World) (base : Nat) (args : Array Value) (ds gs : List (DataW H)) (before : List MemPlace)
    (hval : ∀ (j : Nat) t v, Tryz.f4.params[j]? = some t → args[j]? = some v → Value.okWide Tryz.prog W .any base t v)
    (hW : DataW.Whole enc Tryz.prog Tryz.f4.params.toList Rows.versionsMatchSpec.vars false W args.toList ds gs before) (hc : Rows.uptoSmall H (ds ++ gs) = true)
    (hL : laidMetH Tryz.prog Rows.versionsMatchUptoRow.laid W) (hS : W.ShapedOpen Tryz.prog) :
    Calls Tryz.prog 4 args W fun e W' => ∃ v, e = .returned v ∧ Rows.versionsMatchSpec.post enc Tryz.prog Tryz.f4 false true false false W args v W' := by
  have hW' := hW
  obtain ⟨p, q, hA0, hV, rfl, hfz, hnd⟩ := hW
  have hA : DataW.TrodAll enc Tryz.prog W 0 (fun _ => true) true Tryz.f4.params.toList args.toList ds p := hA0
  rw [Tryz.params4] at hA hval
  obtain ⟨v0, vs0, d0, ds0, p0, q0, hargs, rfl, rfl, h0, r0⟩ := trodAll_cons hA
  obtain ⟨v1, vs1, d1, ds1, p1, q1, rfl, rfl, rfl, h1, r1⟩ := trodAll_cons r0
  obtain ⟨v2, vs2, d2, ds2, p2, q2, rfl, rfl, rfl, h2, r2⟩ := trodAll_cons r1
  obtain ⟨v3, vs3, d3, ds3, p3, q3, rfl, rfl, rfl, h3, r3⟩ := trodAll_cons r2
  obtain ⟨rfl, rfl, rfl⟩ := trodAll_nil r3
  obtain rfl : args = #[v0, v1, v2, v3] := Array.ext' (by simpa using hargs)
  obtain ⟨rfl, rfl⟩ := trodVars_none hV
  obtain ⟨a, ha, wa⟩ := arg_agg decVer (by kernel_rfl) (hval 0 35 v0 rfl rfl) h0
  obtain ⟨b, hb, wb⟩ := arg_agg decVer (by kernel_rfl) (hval 1 35 v1 rfl rfl) h1
  obtain ⟨n, hn, wn⟩ := arg_one (Dec.int .i64 Tryz.underlying3) (by kernel_rfl) (hval 2 3 v2 rfl rfl) h2
  obtain ⟨s, hs, ws⟩ := arg_one (Dec.str Tryz.underlying9) (by kernel_rfl) (hval 3 9 v3 rfl rfl) h3
  have hbulk : Rows.uptoBulkAll ([d0, d1, d2, d3] ++ []) ≤ 1048576 := of_decide_eq_true hc
  simp only [List.append_nil, Rows.uptoBulkAll] at hbulk
  have pc := pc_outlaw2_VersionsMatch a b n s (by have := wa.2; omega) (by have := wb.2; omega) (by have h : s.length < Rows.uptoBulk d3 := ws; omega) wa.1 wb.1
  refine law_post (by kernel_rfl) (by kernel_rfl) rfl rfl Tryz.underlying4 hW' ⟨rfl, rfl, rfl⟩ pc (base_of (l := Rows.versionsMatchUptoRow.laid) hL (.tail _ (.tail _ (.head _))) (.tail _ (.tail _ (.tail _ (.tail _ (.tail _ (.head _)))))) (.tail _ (.tail _ (.tail _ (.tail _ (.head _))))) hS) rfl (fun i u v hu hv => ?_)
  match i with
  | 0 => simp at hu hv; subst hu; subst hv; exact ha
  | 1 => simp at hu hv; subst hu; subst hv; exact hb
  | 2 => simp at hu hv; subst hu; subst hv; exact hn _ rfl
  | 3 => simp at hu hv; subst hu; subst hv; exact hs _ rfl
  | i + 4 => simp at hu

end Go.Proofs.YtepdjimbnbiicaaGreatDoor.fnVersionsMatch
