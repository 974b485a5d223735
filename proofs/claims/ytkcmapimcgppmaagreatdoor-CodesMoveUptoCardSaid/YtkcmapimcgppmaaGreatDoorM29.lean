/-
  The law on what is moved, walked. Conditions: no more than 1000000 nodes, levels, parts; numbers that a word holds. Arguments of a rule, a rule that came in, as data; their size against their bulk. Conditions: as each lemma states them.
-/
import Derived.Test.YtkcmapimcgppmaaGreatDoorM22
import Derived.Test.YtkcmapimcgppmaaGreatDoorM28
import Derived.Test.YtkcmapimcgppmaaGreatDoorM14
set_option linter.all false
set_option linter.unusedVariables false
set_option linter.unusedSimpArgs false
set_option linter.unnecessarySimpa false
section
namespace Go.Proofs.YtkcmapimcgppmaaGreatDoor
open Go.RowKit
attribute [local simp] ty_p ty_l ty_t kH tDs lvDs Tm.ts finH elemH ac_skip ac_label ac_region ac_seq ac_cond ac_block ac_loop ac_exit ac_ret seqK_n seqK_r seqK_e vo_nil vo_cons blkK loopK callOf vout aout abuiltin aslice ev startSt nmOf St.out putE updo upd contOf freshC K0 asC fillD fieldOf rowD astore aapp srcOf elsOf tb Dc.tk Dc.dp Dc.over Dc.app Dc.ln Dc.ds Dc.sing Dc.cont AV.cont Ds.hd Value.oneCell' retK resOf one1 AV.imp Dc.imp φOf calleeOf AV.isLL AV.list AV.app AV.arg AV.isL AV.ren Dc.ren Dc.lent tmC tmA tsA iA lo? abin AV.nth Dc.own Dc.toks stOf envOf bxOf τOf
attribute [local simp] AV.room amake agC lentAgC Ds.len Ds.dp

def Rl.fits (r : Rl) : Prop := agFits r.g ∧ r.i.fits
theorem big5 (r : Rl) (i far : Int) (v : Ts) (h1 : szAg r.g ≤ 2000000) (h2 : r.i.size ≤ 2000000) (h3 : v.size ≤ 2000000) (hb : 500 < rlCount r + v.cnt 500 0 ∨ 10000 < (rlCount r + 1) * (v.cnt 500 0 + 1)) : HH 5 [rlL r, iA i, tsA none v, iA far] (.v (.bool true)) := by
  have b1 := agCount_le r.g 0 (by omega) (by decide)
  have b0 := agCount_ge r.g 0
  have b2 : 0 ≤ r.i.cnt 500 0 ∧ r.i.cnt 500 0 ≤ 10000000000 := by
    have e5 := r.i.cnt_le 500 0 (by decide) (by decide) (by decide)
    have e6 := r.i.cnt_ge 500 0 (by decide)
    have e7 := r.i.count_le_size
    omega
  have b3 : 0 ≤ v.cnt 500 0 ∧ v.cnt 500 0 ≤ 10000000000 := by
    have e5 := v.cnt_le 500 0 (by decide) (by decide) (by decide)
    have e6 := v.cnt_ge 500 0 (by decide)
    have e7 := v.count_le_size
    omega
  have a1 := k35 r (by omega) (by omega)
  have a2 := k7 v (by omega)
  have b4 : 0 ≤ rlCount r ∧ rlCount r ≤ 60000000000 := by unfold rlCount; omega
  generalize v.cnt 500 0 = c2 at *
  generalize rlCount r = c1 at *
  refine ab Tryz.func5 Tryz.ntmps5 Tryz.results5 rfl (by decide) (by simp) rfl rfl ?_
  have w1 : IntKind.i64.wrap (c1 + c2) = c1 + c2 := by rw [IntKind.wrap_i64]; omega
  have w2 : IntKind.i64.wrap (c1 + 1) = c1 + 1 := by rw [IntKind.wrap_i64]; omega
  have w3 : IntKind.i64.wrap (c2 + 1) = c2 + 1 := by rw [IntKind.wrap_i64]; omega
  by_cases hc : 500 < c1 + c2
  · simp [rlL, rlC]
    refine asks a1 ?_ ?_ ?_ <;> simp [rlL, rlC]
    refine asks a2 ?_ ?_ ?_ <;> simp [w1, hc]
    refine asks g9 ?_ ?_ ?_ <;> simp
    exact ⟨[], by simp⟩
  · have hb' : 10000 < (c1 + 1) * (c2 + 1) := by omega
    have w4 : IntKind.i64.wrap ((c1 + 1) * (c2 + 1)) = (c1 + 1) * (c2 + 1) := by
      have e1 : (c1 + 1) * (c2 + 1) ≤ 501 * 501 := Int.mul_le_mul (by omega) (by omega) (by omega) (by omega)
      have e2 : 0 ≤ (c1 + 1) * (c2 + 1) := Int.mul_nonneg (by omega) (by omega)
      rw [IntKind.wrap_i64]; omega
    simp [rlL, rlC]
    refine asks a1 ?_ ?_ ?_ <;> simp [rlL, rlC]
    refine asks a2 ?_ ?_ ?_ <;> simp [w1, hc]
    refine asks a2 ?_ ?_ ?_ <;> simp [w2, w3, w4, hb']
    refine asks g9 ?_ ?_ ?_ <;> simp
    exact ⟨[], by simp⟩

/-- A variable of the call's own as a place in memory. -/
theorem box_els {g : Gh} (hI : Inv g) {k T : Nat} {d : Dc} (h : g.st.bx k = some (T, d)) : RepV (argGh (U g.w) g.w) (.el d.ds) [.pointer (some ⟨g.B k, 0, none⟩)] := by
  obtain ⟨xs, hb, hr⟩ := sat_box hI h
  have hlt : g.B k < g.w.heap.size := heap_lt hb
  refine ⟨hr.good, g.B k, 0, xs, rfl, hlt, hr.vs.mono (fun b o v _ hv => hI.F b o v hv) (Nat.le_refl _), fun j u hu => ?_⟩
  show (if g.B k < g.w.heap.size then _ else _) = _
  rw [if_pos hlt, Nat.zero_add]
  exact hb.U j u (by simpa using hu)
theorem rlC_good (r : Rl) : (rlC r).ds.good := ⟨rfl, agDs_good _, trivial, tDs_good _, trivial, trivial⟩
/-- A lent rule, without its room, as a place in memory. -/
theorem el_lentRl {g : Gh} (hI : Inv g) {k : Nat} {r : Rl} (h : g.st.bx k = some (65, lentRlC r)) : RepV (argGh (U g.w) g.w) (.el (rlC r).ds) [.pointer (some ⟨g.B k, 0, none⟩)] := by
  obtain ⟨xs, hb, hr⟩ := sat_box hI h
  have hlt : g.B k < g.w.heap.size := heap_lt hb
  obtain ⟨-, _, rfl, -, zs, us, rfl, ⟨v1, _, rfl, h1, rfl⟩, -, -, zs2, us2, rfl, ⟨v2, _, rfl, h2, rfl⟩, -, rfl⟩ := hr
  have r1 := (h1.mono (F' := U g.w) (fun b o v _ hv => hI.F b o v hv) (Nat.le_refl _)).strip
  have r2 := (h2.mono (F' := U g.w) (fun b o v _ hv => hI.F b o v hv) (Nat.le_refl _)).strip
  rw [lentAg_strip] at r1
  rw [lentT_strip] at r2
  refine ⟨rlC_good r, g.B k, 0, _, rfl, hlt, ⟨_, rfl, v1, _, rfl, r1, v2, _, rfl, r2, rfl⟩, fun j u hu => ?_⟩
  show (if g.B k < g.w.heap.size then _ else _) = _
  rw [if_pos hlt, Nat.zero_add]
  exact hb.U j u (by simpa using hu)
def s1L (r : Rl) (i far : Int) (v : Ts) : St := stOf [(1, iA i), (2, tsA none v), (3, iA far), (4, .bx 5 0)] [(5, 65, rlC r)] []
def s2L (r : Rl) (i far : Int) (v : Ts) : St := stOf [(1, iA i), (2, tsA none v), (3, iA far), (4, .bx 5 0), (9, iA (rlCount r))] [(5, 65, rlC r)] []
def s3L (r : Rl) (i far : Int) (v : Ts) : St := stOf [(1, iA i), (2, tsA none v), (3, iA far), (4, .bx 5 0), (10, .bx 11 0), (11, lentA v)] [(5, 65, rlC r), (11, 65, lentRlC r)] []
def l4L (r : Rl) (i far : Int) (v : Ts) : List (Nat × AV) := [(1, iA i), (2, tsA none v), (3, iA far), (4, .el (rlC r).ds), (10, .el (rlC r).ds), (11, tsA none v)]
def s4L (r : Rl) (i far : Int) (v : Ts) (fx : Nat → Option Value) : St := stX (l4L r i far v) [] [] fx
def l5L (r : Rl) (i far : Int) (v T1 T2 T3 T4 : Ts) : List (Nat × AV) := l4L r i far v ++ [(12, tsA (some (39, 0)) T1), (13, tsA (some (44, 0)) T2), (14, tsA (some (49, 0)) T3), (15, tsA (some (53, 0)) T4)]
def s5L (r : Rl) (i far : Int) (v T1 T2 T3 T4 : Ts) (fx : Nat → Option Value) : St := stX (l5L r i far v T1 T2 T3 T4) [] [(39, 0), (44, 0), (49, 0), (53, 0)] fx
set_option maxRecDepth 100000 in
set_option maxHeartbeats 8000000 in
theorem small5 (r : Rl) (i far : Int) (v : Ts) (vr vv : Value) (w : World) (hG : KA w) (rr : RepV (argGh (U w) w) (rlL r) [vr]) (rv : RT ty w vv v) (f1 : r.fits) (f2 : v.fits) (hc : rlCount r + v.cnt 500 0 ≤ 500) (hm : (rlCount r + 1) * (v.cnt 500 0 + 1) ≤ 10000) :
    Calls Tryz.prog 5 #[vr, .int .i64 i, vv, .int .i64 far] w fun e w' => e = .returned (.bool true) ∧ Below w.heap.size w w' := by
  have hz0 : szAg r.g + 1 + r.i.size ≤ 500 ∧ v.size ≤ 500 ∧ (szAg r.g + 1 + r.i.size + 1) * (v.size + 1) ≤ 10000 ∧ 0 ≤ rlCount r ∧ 0 ≤ v.cnt 500 0 := by
    have e1 := agCount_ge r.g 0
    have e2 := r.i.cnt_ge 500 0 (by decide)
    have e3 := v.cnt_ge 500 0 (by decide)
    have e4 : rlCount r = 1 + agCount r.g 0 + r.i.cnt 500 0 := rfl
    have e5 := agCount_size r.g 0 (by decide) (by omega)
    have e6 := Ts.cnt_eq r.i 500 0 (by decide) (by decide) (by omega)
    have e7 := Ts.cnt_eq v 500 0 (by decide) (by decide) (by omega)
    have e8 : (((szAg r.g + 1 + r.i.size + 1) * (v.size + 1) : Nat) : Int) ≤ (rlCount r + 1) * (v.cnt 500 0 + 1) := by
      rw [Int.natCast_mul]
      exact Int.mul_le_mul (by omega) (by omega) (by omega) (by omega)
    omega
  obtain ⟨z1, z2, z3, z4, z5⟩ := hz0
  have hlen := szAg_len r.g
  have m1 : (szAg r.g + 1 + r.i.size + 1) * (v.size + 1) = szAg r.g * (v.size + 1) + (1 + r.i.size + 1) * (v.size + 1) := by rw [← Nat.add_mul]; congr 1; omega
  have m2 : (1 + r.i.size + 1) * (v.size + 1) = r.i.size * (v.size + 1) + 2 * (v.size + 1) := by rw [← Nat.add_mul]; congr 1; omega
  have m3 : r.g.length * (v.size + 1) ≤ szAg r.g * (v.size + 1) := Nat.mul_le_mul_right _ hlen
  -- what is told
  obtain ⟨T1, q37, q41, t1⟩ : ∃ T1, HH 37 [rlL r] (tsA (some (0, 0)) T1) ∧ HH 41 [rlL r] (tsA none T1) ∧ T1.size ≤ 260000 := by
    refine ⟨_, k37 r (by omega) (by omega) f1.1, k41 r (by omega) (by omega) f1.1, ?_⟩
    have e1 := typesT_size r.g r.g.length r.g 0 0 (by omega)
    have e2 : szAg r.g * (r.g.length + 1) ≤ 500 * 501 := Nat.mul_le_mul (by omega) (by omega)
    omega
  obtain ⟨T2, q38, q42, t2⟩ : ∃ T2, HH 38 [rlL r, iA i, tsA none v, iA far] (tsA (some (0, 0)) T2) ∧ HH 42 [rlL r, iA i, tsA none v, iA far] (tsA none T2) ∧ T2.size ≤ 10000 := by
    by_cases ho : i < 0 ∨ (r.g.length : Int) ≤ i
    · exact ⟨.nil, k38_out r v far i ho, k42_out r v far i (by omega) ho, by simp [Ts.size]⟩
    · obtain ⟨k, rfl⟩ : ∃ k : Nat, i = k := ⟨i.toNat, by omega⟩
      have hk : k < r.g.length := by omega
      have m4 : k * (v.size + 1) ≤ r.g.length * (v.size + 1) := Nat.mul_le_mul_right _ (by omega)
      refine ⟨_, k38 r v far k hk (by omega) (by omega) f1.1 f2 (by omega) (by omega), k42 r v far k hk (by omega) (by omega) f1.1 f2 (by omega) (by omega), ?_⟩
      have e1 := teleT_size r.g v far k r.g[k].e .nil
      have e2 := szAg_at hk
      have e3 : r.g[k].e.size * (v.size + 1) ≤ szAg r.g * (v.size + 1) := Nat.mul_le_mul_right _ (by omega)
      omega
  obtain ⟨T3, q39, q43, t3⟩ : ∃ T3, HH 39 [rlL r, iA i, tsA none v, iA far] (tsA (some (0, 0)) T3) ∧ HH 43 [rlL r, iA i, tsA none v, iA far] (tsA none T3) ∧ T3.size ≤ 10000 := by
    by_cases ho : i < 0 ∨ (r.g.length : Int) ≤ i
    · exact ⟨.nil, k39_out r v far i ho, k43_out r v far i (by omega) ho, by simp [Ts.size]⟩
    · obtain ⟨k, rfl⟩ : ∃ k : Nat, i = k := ⟨i.toNat, by omega⟩
      have hk : k < r.g.length := by omega
      have m4 : k * (v.size + 1) ≤ r.g.length * (v.size + 1) := Nat.mul_le_mul_right _ (by omega)
      refine ⟨_, k39 r v far k hk (by omega) (by omega) f1.1 f2 (by omega) (by omega), k43 r v far k hk (by omega) (by omega) f1.1 f2 (by omega) (by omega), ?_⟩
      have e1 := rowT_size r.g v far k r.g[k].e r.g[k].i
      have e2 := szAg_at hk
      have e3 : r.g[k].i.size * (v.size + 1) ≤ szAg r.g * (v.size + 1) := Nat.mul_le_mul_right _ (by omega)
      omega
  obtain ⟨T4, q40, q44, t4⟩ : ∃ T4, HH 40 [rlL r, tsA none v, iA far] (tsA (some (0, 0)) T4) ∧ HH 44 [rlL r, tsA none v, iA far] (tsA none T4) ∧ T4.size ≤ 10000 := by
    refine ⟨_, k40 r v far (by omega) f2 (by omega) (by omega) f1.2 (by omega), k44 r v far (by omega) f2 (by omega) (by omega) f1.2 (by omega), ?_⟩
    have e1 := endT_size r v far r.i
    omega
  have q36 := k36 r (by omega) (by omega)
  have q10 := k10 v (by omega)
  have q46 := k46 r (by omega)
  have q47 := k47 r (by omega)
  have q45 : HH 45 [.c (.row none 1 3 (inDs (recsI r.g 0)) .nil), .c (.row none 1 3 (inDs (recsI r.g 0)) .nil)] (.v (.bool true)) := k45 _ (Nat.le_trans (recsI_len r.g 0) (by omega))
  have q48 := k48 r (by omega) (by omega)
  have q22 := k22 v (by omega)
  have a1 := k35 r (by omega) (by omega)
  have a2 := k7 v (by omega)
  generalize recsI r.g 0 = RI at q45 q46 q47
  clear m1 m2 m3 hlen f1 f2
  have hs := start_sat (N := 124) (l := [rlL r, iA i, tsA none v, iA far]) hG (vs := [vr, .int .i64 i, vv, .int .i64 far]) ⟨_, _, rfl, rr, _, _, rfl, i_arg i, _, _, rfl, ts_arg rv, _, _, rfl, i_arg far, rfl⟩ (by simp) (fun a ha => AV.bare_ok (by simp at ha; rcases ha with rfl | rfl | rfl | rfl <;> rfl) _ _)
  refine calls_of_wp Tryz.func5 rfl ?_
  refine seq_state tbOk stKA mixed (st' := s1L r i far v) hs ?_ (fun a0 w0 hs0 => ?_)
  · simp [toK, rlL, rlC]
    refine le_of [] ?_ ?_ ?_ <;> simp [AV.ok, Dc.ok, rlC]
  clear hs
  refine seq_state tbOk stKA mixed (st' := s2L r i far v) hs0 ?_ (fun a1' w1 hs1 => ?_)
  · simp [s1L, rlC]
    refine asks a1 ?_ ?_ ?_ <;> simp [rlL, rlC, toK]
    refine le_of [] ?_ ?_ ?_ <;> simp [AV.ok, Dc.ok, rlC]
  clear hs0 a1
  refine seq_state tbOk stKA mixed (st' := s1L r i far v) hs1 ?_ (fun a2' w2 hs2 => ?_)
  · have w1 : IntKind.i64.wrap (rlCount r + v.cnt 500 0) = rlCount r + v.cnt 500 0 := by rw [IntKind.wrap_i64]; omega
    have w2 : IntKind.i64.wrap (rlCount r + 1) = rlCount r + 1 := by rw [IntKind.wrap_i64]; omega
    have w3 : IntKind.i64.wrap (v.cnt 500 0 + 1) = v.cnt 500 0 + 1 := by rw [IntKind.wrap_i64]; omega
    have w4 : IntKind.i64.wrap ((rlCount r + 1) * (v.cnt 500 0 + 1)) = (rlCount r + 1) * (v.cnt 500 0 + 1) := by
      have e2 : 0 ≤ (rlCount r + 1) * (v.cnt 500 0 + 1) := Int.mul_nonneg (by omega) (by omega)
      rw [IntKind.wrap_i64]; omega
    have hc' : ¬ 500 < rlCount r + v.cnt 500 0 := by omega
    have hm' : ¬ 10000 < (rlCount r + 1) * (v.cnt 500 0 + 1) := by omega
    simp [s2L, rlC]
    refine asks a2 ?_ ?_ ?_ <;> simp [w1, hc', hc]
    refine asks a2 ?_ ?_ ?_ <;> simp [w2, w3, w4, hm', hm, toK]
    refine le_of [] ?_ ?_ ?_ <;> simp [AV.ok, Dc.ok, rlC]
  clear hs1 a2 hc hm z4 z5
  refine seq_state tbOk stKA mixed (st' := s3L r i far v) hs2 ?_ (fun a3 w3 hs3 => ?_)
  · simp [s1L, rlC]
    refine asks q36 ?_ ?_ ?_ <;> simp [rlL, rlC]
    refine asks q10 ?_ ?_ ?_ <;> simp [lentA, lentRlC, Ds.app, toK]
    refine le_of [] ?_ ?_ ?_ <;> simp [AV.ok, Dc.ok, rlC, lentA, lentRlC, Ds.app]
  clear hs2 q36 q10
  obtain ⟨g, rfl, hI, hbx, hτ, hbase, hF0, hsl⟩ := hs3.gh
  have hGw : KA g.w := stKA _ _ hs3.below hG
  have bB := hs3.below
  obtain ⟨y5, b5, p5⟩ := sat_box hI (k := 5) (T := 65) (d := rlC r) (by rw [hbx]; rfl)
  obtain ⟨y11, b11, p11⟩ := sat_box hI (k := 11) (T := 65) (d := lentRlC r) (by rw [hbx]; rfl)
  have e4 := box_els hI (k := 5) (T := 65) (d := rlC r) (by rw [hbx]; rfl)
  have e10 := el_lentRl hI (k := 11) (r := r) (by rw [hbx]; rfl)
  have s2 : RepV (argGh (U g.w) g.w) (tsA none v) [a3.tmps.getD 2 undef] := RepV.mv (g := g) (g' := argGh (U g.w) g.w) hI.F (Nat.le_refl _) (.inl rfl) rfl (hsl 2 (by decide))
  have s11 : RepV (argGh (U g.w) g.w) (lentA v) [a3.tmps.getD 11 undef] := RepV.mv (g := g) (g' := argGh (U g.w) g.w) hI.F (Nat.le_refl _) (.inl rfl) rfl (hsl 11 (by decide))
  have sv11 : RepV (argGh (U g.w) g.w) (tsA none v) [a3.tmps.getD 11 undef] := by
    obtain ⟨-, ys, us, e, ⟨v1, _, rfl, h1, rfl⟩, -, rfl⟩ := s11
    cases e
    have r1 := h1.strip
    rw [lentT_strip] at r1
    exact ⟨tDs_good _, _, [], rfl, r1, Gh.Ow_none, rfl⟩
  have sr5 : RepV (argGh (U g.w) g.w) (rlL r) [.agg y5.toArray] := ⟨_, rfl, RepC.mv (g := g) (g' := argGh (U g.w) g.w) hI.F (Nat.le_refl _) rfl p5⟩
  have sr11 : RepV (argGh (U g.w) g.w) (.agg (lentRlC r)) [.agg y11.toArray] := ⟨_, rfl, RepC.mv (g := g) (g' := argGh (U g.w) g.w) hI.F (Nat.le_refl _) rfl p11⟩
  have s1 : a3.tmps.getD 1 undef = .int .i64 i := iA_eq (hsl 1 (by decide))
  have s3 : a3.tmps.getD 3 undef = .int .i64 far := iA_eq (hsl 3 (by decide))
  have s4 : a3.tmps.getD 4 undef = .pointer (some ⟨g.B 5, 0, none⟩) := by have := (hsl 4 (by decide)).1; simpa using this
  have s10 : a3.tmps.getD 10 undef = .pointer (some ⟨g.B 11, 0, none⟩) := by have := (hsl 10 (by decide)).1; simpa using this
  have hsz := hs3.size
  have hdf := hs3.defers
  rw [← s4] at e4
  rw [← s10] at e10
  have up : ∀ {W' : World} {a : AV} {xs : List Value}, Below g.w.heap.size g.w W' → a.flat = true → a.unl = true → RepV (argGh (U g.w) g.w) a xs → RepV (argGh (U W') W') a xs := fun h hf hu s => RepV.mv (g := argGh (U g.w) g.w) (g' := argGh (U _) _) (fun b o v hv => U_below h b o v (U_lt hv) hv) h.size (.inl hf) hu s
  have HKR : Hid (∀ W', Below g.w.heap.size g.w W' → Calls Tryz.prog 48 #[.agg y11.toArray, .agg y5.toArray] W' fun e w' => e = .returned (.bool true) ∧ Below W'.heap.size W' w') := fun W' h => q48.val (vs := [.agg y11.toArray, .agg y5.toArray]) (stKA _ _ h hGw) (arg2 (up h rfl rfl sr11) (up h rfl rfl sr5))
  have HKT : Hid (∀ W', Below g.w.heap.size g.w W' → Calls Tryz.prog 22 #[a3.tmps.getD 11 undef, a3.tmps.getD 2 undef] W' fun e w' => e = .returned (.bool true) ∧ Below W'.heap.size W' w') := fun W' h => q22.val (vs := [a3.tmps.getD 11 undef, a3.tmps.getD 2 undef]) (stKA _ _ h hGw) (arg2 (up h rfl rfl s11) (up h rfl rfl s2))
  have HAW : Hid (∀ W', Below g.w.heap.size g.w W' → Calls Tryz.prog 9 #[] W' fun e w' => e = .returned (.bool true) ∧ Below W'.heap.size W' w') := fun W' h => awake_any (stKA _ _ h hGw)
  have hs4 : Sat KA (U g.w) g.w 124 (s4L r i far v (fxL [(2, a3.tmps.getD 2 undef), (4, a3.tmps.getD 4 undef), (10, a3.tmps.getD 10 undef), (11, a3.tmps.getD 11 undef)])) a3 g.w := by
    refine rebase hGw (fun k => ?_) rfl rfl hsz hdf (fun k x e => ?_) fun k hk => ?_
    · show (envOf (l4L r i far v) k).ok _ _
      unfold envOf
      split
      · rename_i q hq
        have := (find_mem hq).1
        simp [l4L] at this
        rcases this with rfl | rfl | rfl | rfl | rfl | rfl <;> trivial
      · trivial
    · have := fxL_mem e
      simp only [List.mem_cons, Prod.mk.injEq, List.not_mem_nil, or_false] at this
      rcases this with ⟨rfl, rfl⟩ | ⟨rfl, rfl⟩ | ⟨rfl, rfl⟩ | ⟨rfl, rfl⟩ <;> rfl
    · show RepV _ (envOf (l4L r i far v) k) _
      unfold envOf
      split
      · rename_i q hq
        obtain ⟨h4, rfl⟩ := find_mem hq
        simp only [l4L, List.mem_cons, List.not_mem_nil, or_false] at h4
        rcases h4 with rfl | rfl | rfl | rfl | rfl | rfl
        · show RepV _ (iA i) [a3.tmps.getD 1 undef]; rw [s1]; exact i_arg i
        · exact s2
        · show RepV _ (iA far) [a3.tmps.getD 3 undef]; rw [s3]; exact i_arg far
        · exact e4
        · exact e10
        · exact sv11
      · trivial
  obtain ⟨fx, hfx⟩ : ∃ fx, fxL [(2, a3.tmps.getD 2 undef), (4, a3.tmps.getD 4 undef), (10, a3.tmps.getD 10 undef), (11, a3.tmps.getD 11 undef)] = fx := ⟨_, rfl⟩
  rw [hfx] at hs4
  have hfd : ∀ k x, fx k = some x → k = 2 ∨ k = 4 ∨ k = 10 ∨ k = 11 := fun k x e => by
    rw [← hfx] at e
    have := fxL_mem e
    simp only [List.mem_cons, Prod.mk.injEq, List.not_mem_nil, or_false] at this
    rcases this with ⟨rfl, -⟩ | ⟨rfl, -⟩ | ⟨rfl, -⟩ | ⟨rfl, -⟩ <;> simp
  clear hs3 q48 q22 up sr5 sr11
  refine seq_state tbOk stKA mixed (st' := s5L r i far v T1 T2 T3 T4 fx) hs4 ?_ (fun a5 w5 hs5 => ?_)
  · clear hs4 hI hbx hτ hF0 hsl
    simp [s4L, stX, l4L, rlC]
    refine ⟨by kernel_rfl, ?_⟩
    refine asks q37 ?_ ?_ ?_ <;> simp [rlL, rlC]
    refine asks q38 ?_ ?_ ?_ <;> simp [rlL, rlC]
    refine asks q39 ?_ ?_ ?_ <;> simp [rlL, rlC]
    refine asks q40 ?_ ?_ ?_ <;> simp [rlL, rlC]
    refine ⟨rfl, le_ofX (le_of [((39, 0), [(39, 0)]), ((44, 0), [(44, 0)]), ((49, 0), [(49, 0)]), ((53, 0), [(53, 0)])] ?_ ?_ ?_) fun k x e => ?_⟩
    · simp [l5L, l4L, AV.ok, Dc.ok, rlC]
    · simp
    · decide
    · rcases hfd k x e with rfl | rfl | rfl | rfl <;> simpa [fxE] using e
  clear hs4
  refine seq_state tbOk stKA mixed (st' := s5L r i far v T1 T2 T3 T4 fx) hs5 ?_ (fun a6 w6 hs6 => ?_)
  · clear hs5 hI hbx hτ hF0 hsl
    simp [s5L, stX, l5L, l4L, rlC]
    refine ⟨by kernel_rfl, ?_⟩
    refine asks q41 ?_ ?_ ?_ <;> simp [rlL, rlC]
    refine asks (k20 T1) ?_ ?_ ?_ <;> simp
    refine asks q42 ?_ ?_ ?_ <;> simp [rlL, rlC]
    refine asks (k20 T2) ?_ ?_ ?_ <;> simp
    refine asks q43 ?_ ?_ ?_ <;> simp [rlL, rlC]
    refine asks (k20 T3) ?_ ?_ ?_ <;> simp
    refine asks q44 ?_ ?_ ?_ <;> simp [rlL, rlC]
    refine asks (k20 T4) ?_ ?_ ?_ <;> simp
    refine asks q46 ?_ ?_ ?_ <;> simp [rlL, rlC]
    refine asks q47 ?_ ?_ ?_ <;> simp [rlL, rlC]
    refine asks q45 ?_ ?_ ?_ <;> simp
    refine ⟨rfl, show Le KA 124 _ (s5L r i far v T1 T2 T3 T4 fx) from le_ofX (le_of [((39, 0), [(39, 0)]), ((44, 0), [(44, 0)]), ((49, 0), [(49, 0)]), ((53, 0), [(53, 0)])] ?_ ?_ ?_) fun k x e => ?_⟩
    · simp [l5L, l4L, AV.ok, Dc.ok, rlC]
    · simp
    · decide
    · rcases hfd k x e with rfl | rfl | rfl | rfl <;> simpa [fxE] using e
  clear hs5
  -- where the last region begins
  obtain ⟨g6, hg6, hI6, hbx6, hτ6, hbase6, hF6, hsl6⟩ := hs6.gh
  subst hg6
  have p12 : RepC g6 (.row (some (39, 0)) 5 26 (tDs ty T1) .nil) [a6.tmps.getD 12 undef] := hsl6 12 (by decide)
  have p13 : RepC g6 (.row (some (44, 0)) 5 26 (tDs ty T2) .nil) [a6.tmps.getD 13 undef] := hsl6 13 (by decide)
  have p14 : RepC g6 (.row (some (49, 0)) 5 26 (tDs ty T3) .nil) [a6.tmps.getD 14 undef] := hsl6 14 (by decide)
  have p15 : RepC g6 (.row (some (53, 0)) 5 26 (tDs ty T4) .nil) [a6.tmps.getD 15 undef] := hsl6 15 (by decide)
  have hall := RepC.app (RepC.app (RepC.app p15 p14) p13) p12
  obtain ⟨S, hown, hnd, -⟩ := own_of hI6 hall (by simp only [Dc.app, Dc.own, hτ6]; simp) (by simp only [Dc.app, Dc.toks]; decide)
  rw [hbase6] at hown
  have hown' : Own g6.w g.w.heap.size (rowsDs [T1, T2, T3, T4]) [a6.tmps.getD 12 undef, a6.tmps.getD 13 undef, a6.tmps.getD 14 undef, a6.tmps.getD 15 undef] S := hown
  clear hown hall
  obtain ⟨⟨w12, n12, c12, v12⟩, ⟨w13, n13, c13, v13⟩, ⟨w14, n14, c14, v14⟩, ⟨w15, n15, c15, v15⟩⟩ : (∃ p n c, a6.tmps.getD 12 undef = Value.slice p n c) ∧ (∃ p n c, a6.tmps.getD 13 undef = Value.slice p n c) ∧ (∃ p n c, a6.tmps.getD 14 undef = Value.slice p n c) ∧ (∃ p n c, a6.tmps.getD 15 undef = Value.slice p n c) := by
    refine ⟨?_, ?_, ?_, ?_⟩
    · obtain ⟨-, _, _, e, ⟨p, n, c, e2, -⟩, -⟩ := p12; exact ⟨p, n, c, (List.cons.inj e).1.trans e2⟩
    · obtain ⟨-, _, _, e, ⟨p, n, c, e2, -⟩, -⟩ := p13; exact ⟨p, n, c, (List.cons.inj e).1.trans e2⟩
    · obtain ⟨-, _, _, e, ⟨p, n, c, e2, -⟩, -⟩ := p14; exact ⟨p, n, c, (List.cons.inj e).1.trans e2⟩
    · obtain ⟨-, _, _, e, ⟨p, n, c, e2, -⟩, -⟩ := p15; exact ⟨p, n, c, (List.cons.inj e).1.trans e2⟩
  have fixed : ∀ k x, fx k = some x → a6.tmps.getD k undef = x := hs6.fix
  have u2 : a6.tmps.getD 2 undef = a3.tmps.getD 2 undef := fixed 2 _ (by rw [← hfx]; rfl)
  have u4 : a6.tmps.getD 4 undef = _ := (fixed 4 _ (by rw [← hfx]; rfl)).trans s4
  have u10 : a6.tmps.getD 10 undef = _ := (fixed 10 _ (by rw [← hfx]; rfl)).trans s10
  have u11 : a6.tmps.getD 11 undef = a3.tmps.getD 11 undef := fixed 11 _ (by rw [← hfx]; rfl)
  have bB6 := hs6.below
  have hsz6 := hs6.size
  have hdf6 := hs6.defers
  obtain ⟨k1, k2, k3, k4, k5, k6, rfl⟩ : ∃ p n c q m d, y5 = [.int .i64 r.m, Value.slice p n c, Value.slice q m d] := by
    obtain ⟨-, _, rfl, -, v1, _, rfl, ⟨p, n, c, rfl, -⟩, -, -, v2, _, rfl, ⟨q, m, d, rfl, -⟩, -, rfl⟩ := p5
    exact ⟨_, _, _, _, _, _, rfl⟩
  obtain ⟨l1, l2, l3, l4, l5, l6, rfl⟩ : ∃ p n c q m d, y11 = [.int .i64 r.m, Value.slice p n c, Value.slice q m d] := by
    obtain ⟨-, _, rfl, -, zs, us, rfl, ⟨v1, _, rfl, ⟨p, n, c, rfl, -⟩, rfl⟩, -, -, zs2, us2, rfl, ⟨v2, _, rfl, ⟨q, m, d, rfl, -⟩, rfl⟩, -, rfl⟩ := p11
    exact ⟨_, _, _, _, _, _, rfl⟩
  obtain ⟨tmps, defers⟩ := a6
  obtain rfl : defers = [] := hdf6
  clear hs6 hsl hsl6 hbx hbx6 hτ hτ6 hF0 hF6 hI hI6 p12 p13 p14 p15 p5 p11 e4 e10 fixed hfd hfx s1 s3 s4 s10 s2 s11 sv11 hsz hdf hbase hbase6
  clear q37 q38 q39 q40 q41 q42 q43 q44 q45 q46 q47 rr rv
  have e1 : tmps = #[tmps.getD 0 undef, tmps.getD 1 undef, tmps.getD 2 undef, tmps.getD 3 undef, tmps.getD 4 undef, tmps.getD 5 undef, tmps.getD 6 undef, tmps.getD 7 undef, tmps.getD 8 undef, tmps.getD 9 undef, tmps.getD 10 undef, tmps.getD 11 undef, tmps.getD 12 undef, tmps.getD 13 undef, tmps.getD 14 undef, tmps.getD 15 undef, tmps.getD 16 undef, tmps.getD 17 undef, tmps.getD 18 undef, tmps.getD 19 undef, tmps.getD 20 undef, tmps.getD 21 undef, tmps.getD 22 undef, tmps.getD 23 undef, tmps.getD 24 undef, tmps.getD 25 undef, tmps.getD 26 undef, tmps.getD 27 undef, tmps.getD 28 undef, tmps.getD 29 undef, tmps.getD 30 undef, tmps.getD 31 undef, tmps.getD 32 undef, tmps.getD 33 undef, tmps.getD 34 undef, tmps.getD 35 undef, tmps.getD 36 undef, tmps.getD 37 undef, tmps.getD 38 undef, tmps.getD 39 undef, tmps.getD 40 undef, tmps.getD 41 undef, tmps.getD 42 undef, tmps.getD 43 undef, tmps.getD 44 undef, tmps.getD 45 undef, tmps.getD 46 undef, tmps.getD 47 undef, tmps.getD 48 undef, tmps.getD 49 undef, tmps.getD 50 undef, tmps.getD 51 undef, tmps.getD 52 undef, tmps.getD 53 undef, tmps.getD 54 undef, tmps.getD 55 undef, tmps.getD 56 undef, tmps.getD 57 undef, tmps.getD 58 undef, tmps.getD 59 undef, tmps.getD 60 undef, tmps.getD 61 undef, tmps.getD 62 undef, tmps.getD 63 undef, tmps.getD 64 undef, tmps.getD 65 undef, tmps.getD 66 undef, tmps.getD 67 undef, tmps.getD 68 undef, tmps.getD 69 undef, tmps.getD 70 undef, tmps.getD 71 undef, tmps.getD 72 undef, tmps.getD 73 undef, tmps.getD 74 undef, tmps.getD 75 undef, tmps.getD 76 undef, tmps.getD 77 undef, tmps.getD 78 undef, tmps.getD 79 undef, tmps.getD 80 undef, tmps.getD 81 undef, tmps.getD 82 undef, tmps.getD 83 undef, tmps.getD 84 undef, tmps.getD 85 undef, tmps.getD 86 undef, tmps.getD 87 undef, tmps.getD 88 undef, tmps.getD 89 undef, tmps.getD 90 undef, tmps.getD 91 undef, tmps.getD 92 undef, tmps.getD 93 undef, tmps.getD 94 undef, tmps.getD 95 undef, tmps.getD 96 undef, tmps.getD 97 undef, tmps.getD 98 undef, tmps.getD 99 undef, tmps.getD 100 undef, tmps.getD 101 undef, tmps.getD 102 undef, tmps.getD 103 undef, tmps.getD 104 undef, tmps.getD 105 undef, tmps.getD 106 undef, tmps.getD 107 undef, tmps.getD 108 undef, tmps.getD 109 undef, tmps.getD 110 undef, tmps.getD 111 undef, tmps.getD 112 undef, tmps.getD 113 undef, tmps.getD 114 undef, tmps.getD 115 undef, tmps.getD 116 undef, tmps.getD 117 undef, tmps.getD 118 undef, tmps.getD 119 undef, tmps.getD 120 undef, tmps.getD 121 undef, tmps.getD 122 undef, tmps.getD 123 undef] := arr_lit hsz6
  clear hsz6
  simp only at u2 u4 u10 u11 v12 v13 v14 v15 hown'
  generalize tmps.getD 0 undef = x0 at *
  generalize tmps.getD 1 undef = x1 at *
  generalize tmps.getD 2 undef = x2 at *
  generalize tmps.getD 3 undef = x3 at *
  generalize tmps.getD 4 undef = x4 at *
  generalize tmps.getD 5 undef = x5 at *
  generalize tmps.getD 6 undef = x6 at *
  generalize tmps.getD 7 undef = x7 at *
  generalize tmps.getD 8 undef = x8 at *
  generalize tmps.getD 9 undef = x9 at *
  generalize tmps.getD 10 undef = x10 at *
  generalize tmps.getD 11 undef = x11 at *
  generalize tmps.getD 12 undef = x12 at *
  generalize tmps.getD 13 undef = x13 at *
  generalize tmps.getD 14 undef = x14 at *
  generalize tmps.getD 15 undef = x15 at *
  generalize tmps.getD 16 undef = x16 at *
  generalize tmps.getD 17 undef = x17 at *
  generalize tmps.getD 18 undef = x18 at *
  generalize tmps.getD 19 undef = x19 at *
  generalize tmps.getD 20 undef = x20 at *
  generalize tmps.getD 21 undef = x21 at *
  generalize tmps.getD 22 undef = x22 at *
  generalize tmps.getD 23 undef = x23 at *
  generalize tmps.getD 24 undef = x24 at *
  generalize tmps.getD 25 undef = x25 at *
  generalize tmps.getD 26 undef = x26 at *
  generalize tmps.getD 27 undef = x27 at *
  generalize tmps.getD 28 undef = x28 at *
  generalize tmps.getD 29 undef = x29 at *
  generalize tmps.getD 30 undef = x30 at *
  generalize tmps.getD 31 undef = x31 at *
  generalize tmps.getD 32 undef = x32 at *
  generalize tmps.getD 33 undef = x33 at *
  generalize tmps.getD 34 undef = x34 at *
  generalize tmps.getD 35 undef = x35 at *
  generalize tmps.getD 36 undef = x36 at *
  generalize tmps.getD 37 undef = x37 at *
  generalize tmps.getD 38 undef = x38 at *
  generalize tmps.getD 39 undef = x39 at *
  generalize tmps.getD 40 undef = x40 at *
  generalize tmps.getD 41 undef = x41 at *
  generalize tmps.getD 42 undef = x42 at *
  generalize tmps.getD 43 undef = x43 at *
  generalize tmps.getD 44 undef = x44 at *
  generalize tmps.getD 45 undef = x45 at *
  generalize tmps.getD 46 undef = x46 at *
  generalize tmps.getD 47 undef = x47 at *
  generalize tmps.getD 48 undef = x48 at *
  generalize tmps.getD 49 undef = x49 at *
  generalize tmps.getD 50 undef = x50 at *
  generalize tmps.getD 51 undef = x51 at *
  generalize tmps.getD 52 undef = x52 at *
  generalize tmps.getD 53 undef = x53 at *
  generalize tmps.getD 54 undef = x54 at *
  generalize tmps.getD 55 undef = x55 at *
  generalize tmps.getD 56 undef = x56 at *
  generalize tmps.getD 57 undef = x57 at *
  generalize tmps.getD 58 undef = x58 at *
  generalize tmps.getD 59 undef = x59 at *
  generalize tmps.getD 60 undef = x60 at *
  generalize tmps.getD 61 undef = x61 at *
  generalize tmps.getD 62 undef = x62 at *
  generalize tmps.getD 63 undef = x63 at *
  generalize tmps.getD 64 undef = x64 at *
  generalize tmps.getD 65 undef = x65 at *
  generalize tmps.getD 66 undef = x66 at *
  generalize tmps.getD 67 undef = x67 at *
  generalize tmps.getD 68 undef = x68 at *
  generalize tmps.getD 69 undef = x69 at *
  generalize tmps.getD 70 undef = x70 at *
  generalize tmps.getD 71 undef = x71 at *
  generalize tmps.getD 72 undef = x72 at *
  generalize tmps.getD 73 undef = x73 at *
  generalize tmps.getD 74 undef = x74 at *
  generalize tmps.getD 75 undef = x75 at *
  generalize tmps.getD 76 undef = x76 at *
  generalize tmps.getD 77 undef = x77 at *
  generalize tmps.getD 78 undef = x78 at *
  generalize tmps.getD 79 undef = x79 at *
  generalize tmps.getD 80 undef = x80 at *
  generalize tmps.getD 81 undef = x81 at *
  generalize tmps.getD 82 undef = x82 at *
  generalize tmps.getD 83 undef = x83 at *
  generalize tmps.getD 84 undef = x84 at *
  generalize tmps.getD 85 undef = x85 at *
  generalize tmps.getD 86 undef = x86 at *
  generalize tmps.getD 87 undef = x87 at *
  generalize tmps.getD 88 undef = x88 at *
  generalize tmps.getD 89 undef = x89 at *
  generalize tmps.getD 90 undef = x90 at *
  generalize tmps.getD 91 undef = x91 at *
  generalize tmps.getD 92 undef = x92 at *
  generalize tmps.getD 93 undef = x93 at *
  generalize tmps.getD 94 undef = x94 at *
  generalize tmps.getD 95 undef = x95 at *
  generalize tmps.getD 96 undef = x96 at *
  generalize tmps.getD 97 undef = x97 at *
  generalize tmps.getD 98 undef = x98 at *
  generalize tmps.getD 99 undef = x99 at *
  generalize tmps.getD 100 undef = x100 at *
  generalize tmps.getD 101 undef = x101 at *
  generalize tmps.getD 102 undef = x102 at *
  generalize tmps.getD 103 undef = x103 at *
  generalize tmps.getD 104 undef = x104 at *
  generalize tmps.getD 105 undef = x105 at *
  generalize tmps.getD 106 undef = x106 at *
  generalize tmps.getD 107 undef = x107 at *
  generalize tmps.getD 108 undef = x108 at *
  generalize tmps.getD 109 undef = x109 at *
  generalize tmps.getD 110 undef = x110 at *
  generalize tmps.getD 111 undef = x111 at *
  generalize tmps.getD 112 undef = x112 at *
  generalize tmps.getD 113 undef = x113 at *
  generalize tmps.getD 114 undef = x114 at *
  generalize tmps.getD 115 undef = x115 at *
  generalize tmps.getD 116 undef = x116 at *
  generalize tmps.getD 117 undef = x117 at *
  generalize tmps.getD 118 undef = x118 at *
  generalize tmps.getD 119 undef = x119 at *
  generalize tmps.getD 120 undef = x120 at *
  generalize tmps.getD 121 undef = x121 at *
  generalize tmps.getD 122 undef = x122 at *
  generalize tmps.getD 123 undef = x123 at *
  subst e1
  subst u2 u4 u10 u11 v12 v13 v14 v15
  generalize a3.tmps.getD 2 undef = v2 at *
  generalize a3.tmps.getD 11 undef = v11 at *
  generalize g.w = W0 at *
  generalize g6.w = W at *
  generalize g.B 5 = B5 at *
  generalize g.B 11 = B11 at *
  have HB := Lib.hid bB6
  have HBB := Lib.hid bB
  have X5 := Lib.hid b5
  have X11 := Lib.hid b11
  have HO := Lib.hid hown'
  have HND := Lib.hid hnd
  have HZ : Hid (T1.size ≤ 260000 ∧ T2.size ≤ 10000 ∧ T3.size ≤ 10000 ∧ T4.size ≤ 10000) := Lib.hid ⟨t1, t2, t3, t4⟩
  clear b5 b11 hown' hnd hGw z1 z2 z3 bB6 bB hG t1 t2 t3 t4
  generalize r.m = rm at *
  refine wp_seq ?_
  have a0 := (X11.out.on HB.out).cell (o := 0) rfl
  have a1 := (X11.out.on HB.out).cell (o := 1) rfl
  have a2 := (X11.out.on HB.out).cell (o := 2) rfl
  have b0 := (X5.out.on HB.out).cell (o := 0) rfl
  have b1 := (X5.out.on HB.out).cell (o := 1) rfl
  have b2 := (X5.out.on HB.out).cell (o := 2) rfl
  go_wp2_with fail
  refine (HKR.out W HB.out).mono ?_
  rintro e w7 ⟨rfl, hb⟩
  have HB7 := Lib.hid (below_step HB.out hb)
  have HW7 := Lib.hid hb
  clear hb a0 a1 a2 b0 b1 b2
  go_wp2_with fail
  refine (HKT.out w7 HB7.out).mono ?_
  rintro e w8 ⟨rfl, hb⟩
  have HB8 := Lib.hid (below_step HB7.out hb)
  have HW8 := Lib.hid (below_step HW7.out hb)
  clear hb
  obtain ⟨u, hu⟩ : ∃ u, w8.alloc (.cells #[.slice w12 n12 c12, .slice w13 n13 c13, .slice w14 n14 c14, .slice w15 n15 c15] 22) = u := ⟨_, rfl⟩
  have hb4 : Below w8.heap.size w8 u := by rw [← hu]; exact below_alloc _ _
  have hg4 : u.heap[w8.heap.size]? = some (Obj.cells #[.slice w12 n12 c12, .slice w13 n13 c13, .slice w14 n14 c14, .slice w15 n15 c15] 22 (0, 0)) := by rw [← hu]; exact heap_alloc_new _ _
  have HWU := below_step HW8.out hb4
  have hA := HO.out.below HWU
  have HAP := Lib.hid (apartRows_any [T1, T2, T3, T4] [.slice w12 n12 c12, .slice w13 n13 c13, .slice w14 n14 c14, .slice w15 n15 c15] S W0.heap.size (some ⟨w8.heap.size, 0, none⟩) 4 u (Nat.le_refl _) (by decide)
    (fun _ => ⟨_, 0, rfl, heap_lt hg4, fun j v hv => by
      rw [Nat.zero_add]
      refine U_mk ?_ (by simp [World.frozen?, hg4])
      simp only [World.cell?, hg4]
      simpa using hv⟩) hA HND.out (by
      obtain ⟨y1, y2, y3, y4⟩ := HZ.out
      simp only [szs, List.map_cons, List.map_nil, List.sum_cons, List.sum_nil]
      omega))
  have HB4 := Lib.hid (below_step HB8.out hb4)
  have HGE := Lib.hid fun x hx => (HO.out.mem x hx).1
  clear hb4 hg4 HWU hA
  go_wp2_with fail
  refine HAP.out.mono ?_
  rintro e w9 ⟨rfl, hb⟩
  have HB9 : Hid (Below W0.heap.size W0 w9) := Lib.hid ⟨hb.os.trans HB4.out.os, hb.tape.trans HB4.out.tape, hb.output.trans HB4.out.output, Nat.le_trans HB4.out.size hb.size, fun z hz => (hb.block z (Nat.lt_of_lt_of_le hz HB4.out.size) (fun h => by have := HGE.out z h; omega)).trans (HB4.out.block z hz)⟩
  clear hb HAP HB4 HGE hu HB8 HW8 HW7 HB7 HO HND HB
  have a0 := (X11.out.on HB9.out).cell (o := 0) rfl
  have a1 := (X11.out.on HB9.out).cell (o := 1) rfl
  have a2 := (X11.out.on HB9.out).cell (o := 2) rfl
  have b0 := (X5.out.on HB9.out).cell (o := 0) rfl
  have b1 := (X5.out.on HB9.out).cell (o := 1) rfl
  have b2 := (X5.out.on HB9.out).cell (o := 2) rfl
  go_wp2_with fail
  refine (HKR.out w9 HB9.out).mono ?_
  rintro e w10 ⟨rfl, hb⟩
  have HB10 := Lib.hid (below_step HB9.out hb)
  clear hb HB9 a0 a1 a2 b0 b1 b2
  go_wp2_with fail
  refine (HKT.out w10 HB10.out).mono ?_
  rintro e w12 ⟨rfl, hb⟩
  have HB12 := Lib.hid (below_step HB10.out hb)
  clear hb HB10
  go_wp2_with fail
  refine (HAW.out w12 HB12.out).mono ?_
  rintro e w13 ⟨rfl, hb⟩
  go_wp2_with fail
  go_ret
  exact ⟨rfl, below_step HBB.out (below_step HB12.out hb)⟩

end Go.Proofs.YtkcmapimcgppmaaGreatDoor
end
section
set_option linter.unusedVariables false
namespace Go.Proofs.YtkcmapimcgppmaaGreatDoor
open Go.ChangeShapes Go.WideShapes Go.ChangeAt Go.RowKit

theorem cells4' : Tryz.prog.cellsOf 4 = 1 := by kernel_rfl
theorem cells63' : Tryz.prog.cellsOf 63 = 1 := by kernel_rfl
theorem cells82' : Tryz.prog.cellsOf 82 = 9 := by kernel_rfl
theorem cells65' : Tryz.prog.cellsOf 65 = 3 := by kernel_rfl
theorem nine_of {α : Type} {l : List α} (h : l.length = 9) : ∃ a b c d e f g i j, l = [a, b, c, d, e, f, g, i, j] := by
  obtain ⟨a, l, rfl⟩ := List.exists_cons_of_length_pos (l := l) (by omega)
  obtain ⟨b, l, rfl⟩ := List.exists_cons_of_length_pos (l := l) (by simp at h; omega)
  obtain ⟨c, l, rfl⟩ := List.exists_cons_of_length_pos (l := l) (by simp at h; omega)
  obtain ⟨d, l, rfl⟩ := List.exists_cons_of_length_pos (l := l) (by simp at h; omega)
  obtain ⟨e, f, g, i, j, rfl⟩ := five_of (l := l) (by simp at h; omega)
  exact ⟨a, b, c, d, e, f, g, i, j, rfl⟩
theorem three_of {α : Type} {l : List α} (h : l.length = 3) : ∃ a b c, l = [a, b, c] := by
  obtain ⟨a, l, rfl⟩ := List.exists_cons_of_length_pos (l := l) (by omega)
  obtain ⟨b, c, rfl⟩ := two_of (l := l) (by simp at h; omega)
  exact ⟨a, b, c, rfl⟩
def agFit (a : Ag) : Prop := a.t.fits ∧ a.e.fits ∧ a.i.fits
theorem ag_cat : ∀ {ys : List (Ag × Ds × Nat)}, (∀ y ∈ ys, y.2.1 = agDs [y.1] ∧ agFit y.1 ∧ 1 + y.1.t.size + y.1.e.size + y.1.i.size ≤ y.2.2) →
    catD (ys.map fun y => y.2.1) = agDs (ys.map (·.1)) ∧ agFits (ys.map (·.1)) ∧ szAg (ys.map (·.1)) ≤ (ys.map fun y => y.2.2).sum
  | [], _ => ⟨rfl, fun q hq => by simp at hq, Nat.zero_le _⟩
  | y :: ys, h => by
    obtain ⟨h1, h2, h3⟩ := ag_cat (ys := ys) fun z hz => h z (List.mem_cons.2 (.inr hz))
    obtain ⟨k1, k2, k3⟩ := h y (List.mem_cons.2 (.inl rfl))
    refine ⟨?_, fun q hq => ?_, ?_⟩
    · simp only [List.map_cons, catD, k1, h1]; rfl
    · rcases List.mem_cons.1 hq with rfl | hq
      · exact k2
      · exact h2 q hq
    · simp only [szAg, List.map_cons, List.sum_cons] at *
      omega
section
variable {H : Type} {enc : TypeId × Value → H} {W W' : World}
theorem open_arg {held : Bool} {n : Nat} {cs : List Value} {x : DataW H × List MemPlace} (h : DataW.trod enc Tryz.prog W 0 (fun _ => true) held n 82 cs = some x) (hz : Free W x.2) :
    ∃ a : Ag, agFit a ∧ 1 + a.t.size + a.e.size + a.i.size ≤ Rows.uptoBulk x.1 ∧ Vs (U W) W.heap.size (agDs [a]) cs := by
  obtain ⟨xs, n', rfl, rfl, hl, hxs, hf⟩ := DataW.trod_struct Tryz.underlying82 h
  rw [cells82'] at hl
  obtain ⟨c0, c1, c2, c3, c4, c5, c6, c7, c8, rfl⟩ := nine_of hl
  obtain ⟨x0, x1, x2, x3, x4, rfl⟩ := five_of hxs
  have h0 : DataW.trod enc Tryz.prog W 0 (fun _ => true) held n' 4 (([c0, c1, c2, c3, c4, c5, c6, c7, c8].drop 0).take (Tryz.prog.cellsOf 4)) = some x0 := hf 0 _ rfl
  have h1 : DataW.trod enc Tryz.prog W 0 (fun _ => true) held n' 26 (([c0, c1, c2, c3, c4, c5, c6, c7, c8].drop 1).take (Tryz.prog.cellsOf 26)) = some x1 := hf 1 _ rfl
  have h2 : DataW.trod enc Tryz.prog W 0 (fun _ => true) held n' 22 (([c0, c1, c2, c3, c4, c5, c6, c7, c8].drop 6).take (Tryz.prog.cellsOf 22)) = some x2 := hf 2 _ rfl
  have h3 : DataW.trod enc Tryz.prog W 0 (fun _ => true) held n' 3 (([c0, c1, c2, c3, c4, c5, c6, c7, c8].drop 7).take (Tryz.prog.cellsOf 3)) = some x3 := hf 3 _ rfl
  have h4 : DataW.trod enc Tryz.prog W 0 (fun _ => true) held n' 22 (([c0, c1, c2, c3, c4, c5, c6, c7, c8].drop 8).take (Tryz.prog.cellsOf 22)) = some x4 := hf 4 _ rfl
  rw [cells4'] at h0
  rw [cells26'] at h1
  rw [cells22'] at h2 h4
  rw [cells3'] at h3
  obtain ⟨b, e0, rfl⟩ := DataW.trod_bool Tryz.underlying4 h0
  obtain ⟨m, e3, rfl, g3⟩ := open_int Tryz.underlying3 h3
  have hz' : Free W (x1.2 ++ (x2.2 ++ x4.2)) := by simpa using hz
  obtain ⟨z1, hz'⟩ := free_app hz'
  obtain ⟨z2, z4⟩ := free_app hz'
  obtain ⟨k, nn, at', v, w, e1, l, t, f1, f2, s1, r1, r2⟩ := open_term_of h1 z1 fun n2 cs2 x2 _ h2 hz2 => open_terms n2 cs2 x2 h2 hz2
  obtain ⟨ve, e2, te, fe, se, re⟩ := open_terms _ _ _ h2 z2
  obtain ⟨vi, e4, ti, fi, si, ri⟩ := open_terms _ _ _ h4 z4
  cases e0
  cases e1
  cases e2
  cases e3
  cases e4
  refine ⟨⟨b, ⟨⟨k, nn, at', l⟩, t⟩, te, m, ti⟩, ⟨⟨f1, f2⟩, fe, fi⟩, ?_, _, rfl, _, rfl, _, rfl, _, rfl, _, _, rfl, r1, _, _, rfl, r2, _, _, rfl, re, _, rfl, _, _, rfl, ri, rfl⟩
  simp [Rows.uptoBulk, Rows.uptoBulkAll, Tm.size]
  omega
theorem open_args {held : Bool} {n : Nat} {cs : List Value} {x : DataW H × List MemPlace} (h : DataW.trod enc Tryz.prog W 0 (fun _ => true) held n 63 cs = some x) (hz : Free W x.2) :
    ∃ v, cs = [v] ∧ ∃ l : List Ag, agFits l ∧ 1 + szAg l ≤ Rows.uptoBulk x.1 ∧ Rd (U W) W.heap.size v 9 (agDs l) .nil := by
  obtain ⟨v, hv, ys, h1, h2, h3⟩ := open_slice (α := Ag) Tryz.underlying63 cells82' (by decide) (fun y d s => d = agDs [y] ∧ agFit y ∧ 1 + y.t.size + y.e.size + y.i.size ≤ s) h hz (fun n' cs' x' _ h' hz' => by
    obtain ⟨a, g1, g2, g3⟩ := open_arg h' hz'
    exact ⟨a, _, _, ⟨rfl, g1, g2⟩, Nat.le_refl _, g3⟩)
  obtain ⟨e1, e2, e3⟩ := ag_cat h1
  refine ⟨v, hv, ys.map (·.1), e2, by omega, ?_⟩
  rw [← e1]; exact h3
theorem open_rule {held : Bool} {n : Nat} {cs : List Value} {x : DataW H × List MemPlace} (h : DataW.trod enc Tryz.prog W 0 (fun _ => true) held n 65 cs = some x) (hz : Free W x.2) :
    ∃ r : Rl, r.fits ∧ 1 + szAg r.g + r.i.size ≤ Rows.uptoBulk x.1 ∧ ∀ v, v = Value.agg cs.toArray → RepV (argGh (U W) W) (rlL r) [v] := by
  obtain ⟨xs, n', rfl, rfl, hl, hxs, hf⟩ := DataW.trod_struct Tryz.underlying65 h
  rw [cells65'] at hl
  obtain ⟨c0, c1, c2, rfl⟩ := three_of hl
  obtain ⟨x0, x1, x2, rfl⟩ := three_of hxs
  have h0 : DataW.trod enc Tryz.prog W 0 (fun _ => true) held n' 3 (([c0, c1, c2].drop 0).take (Tryz.prog.cellsOf 3)) = some x0 := hf 0 _ rfl
  have h1 : DataW.trod enc Tryz.prog W 0 (fun _ => true) held n' 63 (([c0, c1, c2].drop 1).take (Tryz.prog.cellsOf 63)) = some x1 := hf 1 _ rfl
  have h2 : DataW.trod enc Tryz.prog W 0 (fun _ => true) held n' 22 (([c0, c1, c2].drop 2).take (Tryz.prog.cellsOf 22)) = some x2 := hf 2 _ rfl
  rw [cells3'] at h0
  rw [cells63'] at h1
  rw [cells22'] at h2
  obtain ⟨m, e0, rfl, g0⟩ := open_int Tryz.underlying3 h0
  have hz' : Free W (x1.2 ++ x2.2) := by simpa using hz
  obtain ⟨z1, z2⟩ := free_app hz'
  obtain ⟨va, e1, l, fa, sa, ra⟩ := open_args h1 z1
  obtain ⟨vi, e2, ti, fi, si, ri⟩ := open_terms _ _ _ h2 z2
  cases e0
  cases e1
  cases e2
  refine ⟨⟨m, l, ti⟩, ⟨fa, fi⟩, ?_, ?_⟩
  · simp [Rows.uptoBulk, Rows.uptoBulkAll]
    omega
  · rintro _ rfl
    exact ⟨_, rfl, rfl, _, rfl, agDs_good _, _, _, rfl, ra, Gh.Ow_none, tDs_good _, _, _, rfl, ri, Gh.Ow_none, rfl⟩
set_option maxRecDepth 100000
theorem readable65 : Tryz.prog.readableRec 65 = true := by kernel_rfl
theorem row65 : 65 < Tryz.prog.types.size := of_decide_eq_true (by kernel_rfl)
theorem in_rule {b0 : Nat} {v : Value} {d : DataW H} {ps : List MemPlace} (hval : Value.okWide Tryz.prog W .any b0 65 v) (h : DataW.Trod enc Tryz.prog W 0 (fun _ => true) true 65 v d ps)
    (hz : Free W ps) : ∃ r : Rl, r.fits ∧ 1 + szAg r.g + r.i.size ≤ Rows.uptoBulk d ∧ RepV (argGh (U W) W) (rlL r) [v] := by
  obtain ⟨cs, rfl, -⟩ := okWide_struct Tryz.underlying65 hval
  obtain ⟨fuel, hf⟩ := h
  obtain ⟨t, h1, h2, h3⟩ := open_rule hf hz
  exact ⟨t, h1, h2, h3 _ (by simp [Value.cells])⟩
theorem stay_rule {v : Value} {d : DataW H} {ps : List MemPlace} {sp : Nat → Bool} (h : DataW.Trod enc Tryz.prog W 0 (fun _ => true) true 65 v d ps) (hb : Below W.heap.size W W') (hlt : ∀ x ∈ ps, x.block < W.heap.size)
    (hsp : ∀ p ∈ ps, sp p.block = true) : DataW.Trod enc Tryz.prog W' 0 sp true 65 v d ps :=
  WideElems.Trod_stays laidOut readable65 row65 h (fun x hx => hb.same (hlt x hx)) hsp
end
/-- A rule for the witness. -/
def noRl : Value := .agg #[.int .i64 0, .slice none 0 0, .slice none 0 0]
def noRlD {H : Type} : DataW H := .agg [.lit (.int .i64 0), .nil, .nil]
end Go.Proofs.YtkcmapimcgppmaaGreatDoor
end
