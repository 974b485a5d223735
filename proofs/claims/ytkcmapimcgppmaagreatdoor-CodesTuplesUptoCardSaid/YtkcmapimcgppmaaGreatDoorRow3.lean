/-
  Statement 'CodesTuplesUpto' of the law spandrellaw22.CodesTuples: for every row, two terms, a number, of bulk at most the statement's own bound, the law returns true, its arguments read as they did. Conditions: none beyond the statement's own.
-/
import Derived.Test.YtkcmapimcgppmaaGreatDoorJ15
import Derived.Test.YtkcmapimcgppmaaGreatDoorJ25
set_option linter.all false
set_option linter.unusedVariables false
set_option linter.unusedSimpArgs false
set_option linter.unnecessarySimpa false
namespace Go.Proofs.YtkcmapimcgppmaaGreatDoor
open Go.ChangeShapes Go.WideShapes Go.ChangeAt Go.RowKit

theorem law3_any (row : Ts) (t p : Tm) (n : Int) (vr vt vp : Value) (w : World) (hG : KA w) (r1 : RT ty w vr row) (r2 : RM ty w vt t.h t.x) (r3 : RM ty w vp p.h p.x) (f1 : row.fits) (f2 : t.fits) (f3 : p.fits) (h1 : row.size ≤ 2000000) (h2 : t.size ≤ 2000000) (h3 : p.size ≤ 2000000) :
    Calls Tryz.prog 3 #[vr, vt, vp, .int .i64 n] w fun e w' => e = .returned (.bool true) ∧ Below w.heap.size w w' := by
  by_cases hb : 500 < row.cnt 500 0 + cntM t + cntM p ∨ 12 < n
  · exact (big3 row t p n h1 h2 h3 hb).val (vs := [vr, vt, vp, .int .i64 n]) hG ⟨_, _, rfl, ts_arg r1, _, _, rfl, tm_arg r2, _, _, rfl, tm_arg r3, _, _, rfl, i_arg n, rfl⟩
  · exact small3 row t p n vr vt vp w hG r1 r2 r3 f1 f2 f3 (by omega) (by omega)

namespace CodesTuplesRow
theorem laid_met (os : Os) : laidMet Tryz.prog Rows.codesTuplesUptoRow.laid ((laidWorld os).forCall (fun _ _ => 0) ⟨#[], #[.slice none 0 0, noTm, noTm, .int .i64 0], []⟩).memory :=
  laidMet_of_run' 16 (by kernel_rfl) (by kernel_rfl)
theorem reads (os : Os) {H : Type} (enc : TypeId × Value → H) : ∃ places, DataW.whole enc Tryz.prog ((laidWorld os).forCall (fun _ _ => 0) ⟨#[], #[.slice none 0 0, noTm, noTm, .int .i64 0], []⟩).memory Tryz.f3.params.toList Rows.codesTuplesSpec.vars false #[Value.slice none 0 0, noTm, noTm, .int .i64 0].toList 8 = some ([.nil, noTmD, noTmD, .lit (.int .i64 0)], [], places) :=
  ⟨[], by kernel_rfl⟩

set_option maxRecDepth 100000 in
theorem contract (H : Type) (enc : TypeId × Value → H) (W : World) (base : Nat) (args : Array Value) (ds gs : List (DataW H)) (before : List MemPlace)
    (hval : ∀ (j : Nat) t v, Tryz.f3.params[j]? = some t → args[j]? = some v → Value.okWide Tryz.prog W .any base t v)
    (hW : DataW.Whole enc Tryz.prog Tryz.f3.params.toList Rows.codesTuplesSpec.vars false W args.toList ds gs before)
    (hc : Rows.uptoSmall H (ds ++ gs) = true) (hL : laidMetH Tryz.prog Rows.codesTuplesUptoRow.laid W) :
    Calls Tryz.prog 3 args W fun e W' => ∃ v, e = .returned v ∧ Rows.codesTuplesSpec.post enc Tryz.prog Tryz.f3 false true false false W args v W' := by
  have hW' := hW
  obtain ⟨p, q, hA0, hV, rfl, hfz, hnd⟩ := hW
  have hA : DataW.TrodAll enc Tryz.prog W 0 (fun _ => true) true Tryz.f3.params.toList args.toList ds p := hA0
  rw [Tryz.params3] at hA hval
  obtain ⟨v0, vs0, d0, ds0, p0, q0, hargs, rfl, rfl, h0, r0⟩ := trodAll_cons hA
  obtain ⟨v1, vs1, d1, ds1, p1, q1, rfl, rfl, rfl, h1, r0⟩ := trodAll_cons r0
  obtain ⟨v2, vs2, d2, ds2, p2, q2, rfl, rfl, rfl, h2, r0⟩ := trodAll_cons r0
  obtain ⟨v3, vs3, d3, ds3, p3, q3, rfl, rfl, rfl, h3, r0⟩ := trodAll_cons r0
  obtain ⟨rfl, rfl, rfl⟩ := trodAll_nil r0
  obtain rfl : args = #[v0, v1, v2, v3] := by cases args; simp_all
  obtain ⟨rfl, rfl⟩ := trodVars_none hV
  clear hA0 hA
  simp only [List.append_nil] at hW' hfz hc
  have hfree : Free W (p0 ++ (p1 ++ (p2 ++ p3))) := fun b off hp => hfz b off hp
  obtain ⟨z0, hfree⟩ := free_app hfree
  obtain ⟨z1, hfree⟩ := free_app hfree
  obtain ⟨z2, z3⟩ := free_app hfree
  obtain ⟨row, f1, s1, g1⟩ := in_row (hval 0 22 v0 rfl rfl) h0 z0
  obtain ⟨t, f2, s2, g2⟩ := in_term (hval 1 26 v1 rfl rfl) h1 z1
  obtain ⟨p, f3, s3, g3⟩ := in_term (hval 2 26 v2 rfl rfl) h2 z2
  obtain ⟨n, rfl, rfl, rfl, hn⟩ := Go.ChangeShapes.open_int (H := H) Tryz.underlying3 (hval 3 3 v3 rfl rfl) h3
  have hbulk : Rows.uptoBulkAll [d0, d1, d2, .lit (.int .i64 n)] ≤ 1048576 := by simpa [Rows.uptoSmall] using hc
  simp only [Rows.uptoBulkAll] at hbulk
  refine (law3_any row t p n v0 v1 v2 W (ka_of hL) g1 g2 g3 f1 f2 f3 (by omega) (by omega) (by omega)).mono fun e W' ⟨he, hb⟩ => ?_
  subst he
  have hlt : ∀ x ∈ p0 ++ (p1 ++ (p2 ++ [])), x.block < W.heap.size := fun x hx => hW'.lt x hx
  exact ⟨_, rfl, law_post hW' hb (fun _ _ _ => trodAll_cons_mk (shut_bool Tryz.underlying4 _) trodAll_mk0)
    (fun sp hsp => by
      have k0 := stay_row (sp := sp) h0 hb (fun x hx => hlt x (by simp [hx])) (fun x hx => hsp x (by simp [hx]))
      have k1 := stay_term (sp := sp) h1 hb (fun x hx => hlt x (by simp [hx])) (fun x hx => hsp x (by simp [hx]))
      have k2 := stay_term (sp := sp) h2 hb (fun x hx => hlt x (by simp [hx])) (fun x hx => hsp x (by simp [hx]))
      have k3 : DataW.Trod enc Tryz.prog W' 0 sp true 3 (.int .i64 n) (.lit (.int .i64 n)) [] := shut_int Tryz.underlying3 hn
      have := trodAll_cons_mk k0 (trodAll_cons_mk k1 (trodAll_cons_mk k2 (trodAll_cons_mk k3 (trodAll_mk0 (enc := enc) (P := Tryz.prog) (w := W')))))
      rw [Tryz.params3]
      exact this) (fun _ => rfl)
    (ok_one (by kernel_rfl) rfl (okWide_bool_mk Tryz.underlying4 _))⟩

set_option maxRecDepth 100000 in
theorem lifted (os : Os) (started : os.Started) (H : Type) (enc : TypeId × Value → H) (F : Stop.Interp) :
    ReturnsInHanded {} Tryz.checked os 3 .any ((Rows.OpenSpec.upto Rows.codesTuplesSpec).preRow enc Tryz.prog Tryz.f3 Rows.codesTuplesUptoRow.domain false Rows.codesTuplesUptoRow.laid) (((Rows.OpenSpec.upto Rows.codesTuplesSpec).at F).post enc Tryz.prog Tryz.f3 false true false false) := by
  obtain ⟨places, hx⟩ := reads os enc
  refine returnsInHanded_of_row (C := Tryz.checked) (s := Rows.OpenSpec.upto Rows.codesTuplesSpec) own_knob started (by kernel_rfl) Tryz.func3
    (witness_row_at (enc := enc) (C := Tryz.checked) false (laidWorld os) #[.slice none 0 0, noTm, noTm, .int .i64 0] rfl (by kernel_rfl) (by kernel_rfl) (by kernel_rfl)
      (OpenSpec.preRow_of_cond 8 hx (by kernel_rfl) (fun k hk => by cases hk; kernel_rfl) (by kernel_rfl) (laid_met os))) ?_
  intro W base args ds gs before hval hW _ hcond _ hL _ _
  exact contract H enc W base args ds gs before hval hW (hcond _ rfl) hL

theorem said : Rows.CodesTuplesUptoSaid :=
  OpenClaim.holds_of_cond 3 Tryz.f3 rfl rfl rfl rfl rfl rfl rfl ⟨rfl, rfl, rfl, rfl, rfl⟩ rfl rfl rfl rfl rfl (by kernel_rfl) Tryz.func3 (by kernel_rfl)
    (of_decide_eq_true (by kernel_rfl)) (by unfold Func.isWrapper; first | (rw [if_pos (by decide +kernel)]; kernel_rfl) | (rw [if_neg (by decide +kernel)]; exact ⟨rfl, rfl⟩))
    (fun os started H enc _ F => by rw [OpenClaim.pre_eq_preRow]; exact lifted os started H enc F)

theorem plain (f : FuncId) (fn : Func) (hf : Tryz.pinned.checked.prog.funcNamed "spandrel/spandrellaw22.CodesTuples" = some f) (hfn : Tryz.pinned.checked.prog.funcs[f]? = some fn) :
    true = Tryz.pinned.checked.prog.looks [] ∧ ∀ (j : Nat) t, fn.params[j]? = some t → Tryz.pinned.checked.prog.wantsStandIn t = false := by
  obtain rfl : f = 3 := Option.some.inj ((show Tryz.prog.funcNamed "spandrel/spandrellaw22.CodesTuples" = some 3 by kernel_rfl).symm.trans hf) |>.symm
  obtain rfl : fn = Tryz.f3 := (Option.some.inj (Tryz.func3.symm.trans hfn)).symm
  refine ⟨by kernel_rfl, fun j t ht => ?_⟩
  rw [Tryz.params3] at ht
  have : t = 22 ∨ t = 26 ∨ t = 3 := by
    have := Array.mem_of_getElem? ht
    simp at this
    omega
  rcases this with rfl | rfl | rfl
  · exact (show Tryz.prog.wantsStandIn 22 = false by kernel_rfl)
  · exact (show Tryz.prog.wantsStandIn 26 = false by kernel_rfl)
  · exact (show Tryz.prog.wantsStandIn 3 = false by kernel_rfl)
end CodesTuplesRow

/-- The card. -/
theorem codesTuplesUpto_card_holds : Rows.CodesTuplesUptoCardSaid :=
  Claim7.holds_tied_plain_at .later [] _ _ _ _ CodesTuplesRow.said (fun _ h => by cases h) (by kernel_rfl) (fun _ h => by cases h) codesTuplesUpto_row_tie rfl ⟨rfl, rfl⟩ (by kernel_rfl) rfl CodesTuplesRow.plain (by kernel_rfl)
end Go.Proofs.YtkcmapimcgppmaaGreatDoor
