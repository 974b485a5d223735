/-
  Statement 'CodesMoveUpto' of the law spandrellaw22.CodesMove: for every rule, two numbers, a row of values, of bulk at most the statement's own bound, the law returns true, its arguments read as they did. Conditions: none beyond the statement's own.
-/
import Derived.Test.YtkcmapimcgppmaaGreatDoorM29
set_option linter.all false
set_option linter.unusedVariables false
set_option linter.unusedSimpArgs false
set_option linter.unnecessarySimpa false
set_option linter.unusedVariables false
namespace Go.Proofs.YtkcmapimcgppmaaGreatDoor
open Go.ChangeShapes Go.WideShapes Go.ChangeAt Go.RowKit

theorem law5_any (r : Rl) (i far : Int) (v : Ts) (vr vv : Value) (w : World) (hG : KA w) (rr : RepV (argGh (U w) w) (rlL r) [vr]) (rv : RT ty w vv v) (f1 : r.fits) (f2 : v.fits) (h1 : szAg r.g ≤ 2000000) (h2 : r.i.size ≤ 2000000) (h3 : v.size ≤ 2000000) :
    Calls Tryz.prog 5 #[vr, .int .i64 i, vv, .int .i64 far] w fun e w' => e = .returned (.bool true) ∧ Below w.heap.size w w' := by
  by_cases hb : 500 < rlCount r + v.cnt 500 0 ∨ 10000 < (rlCount r + 1) * (v.cnt 500 0 + 1)
  · exact (big5 r i far v h1 h2 h3 hb).val (vs := [vr, .int .i64 i, vv, .int .i64 far]) hG ⟨_, _, rfl, rr, _, _, rfl, i_arg i, _, _, rfl, ts_arg rv, _, _, rfl, i_arg far, rfl⟩
  · exact small5 r i far v vr vv w hG rr rv f1 f2 (by omega) (by omega)

namespace CodesMoveRow
theorem laid_met (os : Os) : laidMet Tryz.prog Rows.codesMoveUptoRow.laid ((laidWorld os).forCall (fun _ _ => 0) ⟨#[], #[noRl, .int .i64 0, .slice none 0 0, .int .i64 0], []⟩).memory :=
  laidMet_of_run' 16 (by kernel_rfl) (by kernel_rfl)
theorem reads (os : Os) {H : Type} (enc : TypeId × Value → H) : ∃ places, DataW.whole enc Tryz.prog ((laidWorld os).forCall (fun _ _ => 0) ⟨#[], #[noRl, .int .i64 0, .slice none 0 0, .int .i64 0], []⟩).memory Tryz.f5.params.toList Rows.codesMoveSpec.vars false #[noRl, Value.int .i64 0, .slice none 0 0, .int .i64 0].toList 8 = some ([noRlD, .lit (.int .i64 0), .nil, .lit (.int .i64 0)], [], places) :=
  ⟨[], by kernel_rfl⟩

set_option maxRecDepth 100000 in
theorem contract (H : Type) (enc : TypeId × Value → H) (W : World) (base : Nat) (args : Array Value) (ds gs : List (DataW H)) (before : List MemPlace)
    (hval : ∀ (j : Nat) t v, Tryz.f5.params[j]? = some t → args[j]? = some v → Value.okWide Tryz.prog W .any base t v)
    (hW : DataW.Whole enc Tryz.prog Tryz.f5.params.toList Rows.codesMoveSpec.vars false W args.toList ds gs before)
    (hc : Rows.uptoSmall H (ds ++ gs) = true) (hL : laidMetH Tryz.prog Rows.codesMoveUptoRow.laid W) :
    Calls Tryz.prog 5 args W fun e W' => ∃ v, e = .returned v ∧ Rows.codesMoveSpec.post enc Tryz.prog Tryz.f5 false true false false W args v W' := by
  have hW' := hW
  obtain ⟨p, q, hA0, hV, rfl, hfz, hnd⟩ := hW
  have hA : DataW.TrodAll enc Tryz.prog W 0 (fun _ => true) true Tryz.f5.params.toList args.toList ds p := hA0
  rw [Tryz.params5] at hA hval
  obtain ⟨v0, vs0, d0, ds0, p0, q0, hargs, rfl, rfl, h0, r0⟩ := trodAll_cons hA
  obtain ⟨v1, vs1, d1, ds1, p1, q1, rfl, rfl, rfl, h1, r0⟩ := trodAll_cons r0
  obtain ⟨v2, vs2, d2, ds2, p2, q2, rfl, rfl, rfl, h2, r0⟩ := trodAll_cons r0
  obtain ⟨v3, vs3, d3, ds3, p3, q3, rfl, rfl, rfl, h3, r0⟩ := trodAll_cons r0
  obtain ⟨rfl, rfl, rfl⟩ := trodAll_nil r0
  obtain rfl : args = #[v0, v1, v2, v3] := by cases args; simp_all
  obtain ⟨rfl, rfl⟩ := trodVars_none hV
  clear hA0 hA
  simp only [List.append_nil] at hW' hfz hc
  have hfree : Free W (p0 ++ (p1 ++ (p2 ++ p3))) := fun b off hp => hfz b off hp
  obtain ⟨z0, hfree⟩ := free_app hfree
  obtain ⟨z1, hfree⟩ := free_app hfree
  obtain ⟨z2, z3⟩ := free_app hfree
  obtain ⟨r, f1, s1, g1⟩ := in_rule (hval 0 65 v0 rfl rfl) h0 z0
  obtain ⟨i, rfl, rfl, rfl, hi⟩ := Go.ChangeShapes.open_int (H := H) Tryz.underlying3 (hval 1 3 v1 rfl rfl) h1
  obtain ⟨v, f2, s2, g2⟩ := in_row (hval 2 22 v2 rfl rfl) h2 z2
  obtain ⟨far, rfl, rfl, rfl, hn⟩ := Go.ChangeShapes.open_int (H := H) Tryz.underlying3 (hval 3 3 v3 rfl rfl) h3
  have hbulk : Rows.uptoBulkAll [d0, .lit (.int .i64 i), d2, .lit (.int .i64 far)] ≤ 1048576 := by simpa [Rows.uptoSmall] using hc
  simp only [Rows.uptoBulkAll] at hbulk
  refine (law5_any r i far v v0 v2 W (ka_of hL) g1 g2 f1 f2 (by omega) (by omega) (by omega)).mono fun e W' ⟨he, hb⟩ => ?_
  subst he
  have hlt : ∀ x ∈ p0 ++ ([] ++ (p2 ++ [])), x.block < W.heap.size := fun x hx => hW'.lt x hx
  exact ⟨_, rfl, law_post hW' hb (fun _ _ _ => trodAll_cons_mk (shut_bool Tryz.underlying4 _) trodAll_mk0)
    (fun sp hsp => by
      have k0 := stay_rule (sp := sp) h0 hb (fun x hx => hlt x (by simp [hx])) (fun x hx => hsp x (by simp [hx]))
      have k1 : DataW.Trod enc Tryz.prog W' 0 sp true 3 (.int .i64 i) (.lit (.int .i64 i)) [] := shut_int Tryz.underlying3 hi
      have k2 := stay_row (sp := sp) h2 hb (fun x hx => hlt x (by simp [hx])) (fun x hx => hsp x (by simp [hx]))
      have k3 : DataW.Trod enc Tryz.prog W' 0 sp true 3 (.int .i64 far) (.lit (.int .i64 far)) [] := shut_int Tryz.underlying3 hn
      have := trodAll_cons_mk k0 (trodAll_cons_mk k1 (trodAll_cons_mk k2 (trodAll_cons_mk k3 (trodAll_mk0 (enc := enc) (P := Tryz.prog) (w := W')))))
      rw [Tryz.params5]
      exact this) (fun _ => rfl)
    (ok_one (by kernel_rfl) rfl (okWide_bool_mk Tryz.underlying4 _))⟩

set_option maxRecDepth 100000 in
theorem lifted (os : Os) (started : os.Started) (H : Type) (enc : TypeId × Value → H) (F : Stop.Interp) :
    ReturnsInHanded {} Tryz.checked os 5 .any ((Rows.OpenSpec.upto Rows.codesMoveSpec).preRow enc Tryz.prog Tryz.f5 Rows.codesMoveUptoRow.domain false Rows.codesMoveUptoRow.laid) (((Rows.OpenSpec.upto Rows.codesMoveSpec).at F).post enc Tryz.prog Tryz.f5 false true false false) := by
  obtain ⟨places, hx⟩ := reads os enc
  refine returnsInHanded_of_row (C := Tryz.checked) (s := Rows.OpenSpec.upto Rows.codesMoveSpec) own_knob started (by kernel_rfl) Tryz.func5
    (witness_row_at (enc := enc) (C := Tryz.checked) false (laidWorld os) #[noRl, .int .i64 0, .slice none 0 0, .int .i64 0] rfl (by kernel_rfl) (by kernel_rfl) (by kernel_rfl)
      (OpenSpec.preRow_of_cond 8 hx (by kernel_rfl) (fun k hk => by cases hk; kernel_rfl) (by kernel_rfl) (laid_met os))) ?_
  intro W base args ds gs before hval hW _ hcond _ hL _ _
  exact contract H enc W base args ds gs before hval hW (hcond _ rfl) hL

theorem said : Rows.CodesMoveUptoSaid :=
  OpenClaim.holds_of_cond 5 Tryz.f5 rfl rfl rfl rfl rfl rfl rfl ⟨rfl, rfl, rfl, rfl, rfl⟩ rfl rfl rfl rfl rfl (by kernel_rfl) Tryz.func5 (by kernel_rfl)
    (of_decide_eq_true (by kernel_rfl)) (by unfold Func.isWrapper; first | (rw [if_pos (by decide +kernel)]; kernel_rfl) | (rw [if_neg (by decide +kernel)]; exact ⟨rfl, rfl⟩))
    (fun os started H enc _ F => by rw [OpenClaim.pre_eq_preRow]; exact lifted os started H enc F)

theorem plain (f : FuncId) (fn : Func) (hf : Tryz.pinned.checked.prog.funcNamed "spandrel/spandrellaw22.CodesMove" = some f) (hfn : Tryz.pinned.checked.prog.funcs[f]? = some fn) :
    true = Tryz.pinned.checked.prog.looks [] ∧ ∀ (j : Nat) t, fn.params[j]? = some t → Tryz.pinned.checked.prog.wantsStandIn t = false := by
  obtain rfl : f = 5 := Option.some.inj ((show Tryz.prog.funcNamed "spandrel/spandrellaw22.CodesMove" = some 5 by kernel_rfl).symm.trans hf) |>.symm
  obtain rfl : fn = Tryz.f5 := (Option.some.inj (Tryz.func5.symm.trans hfn)).symm
  refine ⟨by kernel_rfl, fun j t ht => ?_⟩
  rw [Tryz.params5] at ht
  have : t = 22 ∨ t = 65 ∨ t = 3 := by
    have := Array.mem_of_getElem? ht
    simp at this
    rcases this with h | h | h | h <;> simp [h]
  rcases this with rfl | rfl | rfl
  · exact (show Tryz.prog.wantsStandIn 22 = false by kernel_rfl)
  · exact (show Tryz.prog.wantsStandIn 65 = false by kernel_rfl)
  · exact (show Tryz.prog.wantsStandIn 3 = false by kernel_rfl)
end CodesMoveRow

/-- The card. -/
theorem codesMoveUpto_card_holds : Rows.CodesMoveUptoCardSaid :=
  Claim7.holds_tied_plain_at .later [] _ _ _ _ CodesMoveRow.said (fun _ h => by cases h) (by kernel_rfl) (fun _ h => by cases h) codesMoveUpto_row_tie rfl ⟨rfl, rfl⟩ (by kernel_rfl) rfl CodesMoveRow.plain (by kernel_rfl)
end Go.Proofs.YtkcmapimcgppmaaGreatDoor
