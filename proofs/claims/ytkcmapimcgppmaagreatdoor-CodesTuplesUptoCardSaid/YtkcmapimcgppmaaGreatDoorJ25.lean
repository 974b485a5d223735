/-
  The law on tuples, walked. Conditions: no more than 2000000 nodes, levels, parts.
-/
import Derived.Test.YtkcmapimcgppmaaGreatDoorJ18
import Derived.Test.YtkcmapimcgppmaaGreatDoorJ24
set_option linter.all false
set_option linter.unusedVariables false
set_option linter.unusedSimpArgs false
set_option linter.unnecessarySimpa false
namespace Go.Proofs.YtkcmapimcgppmaaGreatDoor
open Go.RowKit
attribute [local simp] ty_p ty_l ty_t kH tDs lvDs Tm.ts finH elemH ac_skip ac_label ac_region ac_seq ac_cond ac_block ac_loop ac_exit ac_ret seqK_n seqK_r seqK_e vo_nil vo_cons blkK loopK callOf vout aout abuiltin aslice ev startSt nmOf St.out putE updo upd contOf freshC K0 asC fillD fieldOf rowD astore aapp srcOf elsOf tb Dc.tk Dc.dp Dc.over Dc.app Dc.ln Dc.ds Dc.sing Dc.cont AV.cont Ds.hd Value.oneCell' retK resOf one1 AV.imp Dc.imp φOf calleeOf AV.isLL AV.list AV.app AV.arg AV.isL AV.ren Dc.ren Dc.lent tmC tmA tsA iA lo? abin AV.nth Dc.own Dc.toks stOf envOf bxOf τOf

theorem big3 (row : Ts) (t p : Tm) (n : Int) (h1 : row.size ≤ 2000000) (h2 : t.size ≤ 2000000) (h3 : p.size ≤ 2000000) (hb : 500 < row.cnt 500 0 + cntM t + cntM p ∨ 12 < n) : HH 3 [tsA none row, tmL t, tmL p, iA n] (.v (.bool true)) := by
  have b2 := cntM_le t h2
  have b3 := cntM_le p h3
  have b1 : 0 ≤ row.cnt 500 0 ∧ row.cnt 500 0 ≤ 10000000000 := by
    have q1 := row.cnt_le 500 0 (by decide) (by decide) (by decide)
    have q2 := row.cnt_ge 500 0 (by decide)
    have q3 := row.count_le_size
    omega
  have a1 := k7 row h1
  have a2 := k8 t h2
  have a3 := k8 p h3
  change HH 8 _ (iA (cntM t)) at a2
  change HH 8 _ (iA (cntM p)) at a3
  generalize row.cnt 500 0 = c1 at *
  generalize cntM t = c2 at *
  generalize cntM p = c3 at *
  refine ab Tryz.func3 Tryz.ntmps3 Tryz.results3 rfl (by decide) (by simp) rfl rfl ?_
  have w1 : IntKind.i64.wrap (c1 + c2) = c1 + c2 := by rw [IntKind.wrap_i64]; omega
  have w2 : IntKind.i64.wrap (c1 + c2 + c3) = c1 + c2 + c3 := by rw [IntKind.wrap_i64]; omega
  simp
  refine ⟨by kernel_rfl, ?_⟩
  refine asks a1 ?_ ?_ ?_ <;> simp
  refine asks a2 ?_ ?_ ?_ <;> simp
  refine asks a3 ?_ ?_ ?_ <;> simp
  by_cases hc : 500 < c1 + c2 + c3
  · have hc' : ¬ c1 + c2 + c3 ≤ 500 := by omega
    simp [w1, w2, hc, hc']
    refine asks g9 ?_ ?_ ?_ <;> simp
    exact ⟨[], by simp⟩
  · have hn : 12 < n := by omega
    have hc' : c1 + c2 + c3 ≤ 500 := by omega
    simp [w1, w2, hc, hc', hn]
    refine asks g9 ?_ ?_ ?_ <;> simp
    exact ⟨[], by simp⟩

/-- States of the law's walk. -/
def S1 (row : Ts) (t p : Tm) (n : Int) : St := stOf [(0, tsA none row), (3, iA n), (5, .bx 6 0), (6, .bx 7 0)] [(6, 26, tmC none none t.h t.x), (7, 26, tmC none none p.h p.x)] []
def S3 (row : Ts) (t p : Tm) (n : Int) : St := stOf [(0, tsA none row), (3, iA n), (5, .bx 6 0), (6, .bx 7 0), (9, lentA row), (10, .bx 11 0), (11, .bx 12 0)] [(6, 26, tmC none none t.h t.x), (7, 26, tmC none none p.h p.x), (11, 26, lentC t), (12, 26, lentC p)] []
/-- What some slots hold. -/
def fxL (l : List (Nat × Value)) : Nat → Option Value := fun t => (l.find? fun p => p.1 == t).map (·.2)
theorem fxL_mem {l : List (Nat × Value)} {t : Nat} {x : Value} (h : fxL l t = some x) : (t, x) ∈ l := by
  unfold fxL at h
  obtain ⟨⟨a, b⟩, h1, rfl⟩ := Option.map_eq_some_iff.1 h
  have h2 := List.find?_some h1
  have h3 := List.mem_of_find?_eq_some h1
  have : a = t := by simpa using h2
  subst this
  exact h3
def l4 (row : Ts) (t p : Tm) (n : Int) : List (Nat × AV) := [(0, tsA none row), (3, iA n), (5, .el (tDs ty t.ts)), (6, .el (tDs ty p.ts)), (9, tsA none row), (10, .el (tDs ty t.ts)), (11, .el (tDs ty p.ts))]
def S4 (row : Ts) (t p : Tm) (n : Int) (fx : Nat → Option Value) : St := stX (l4 row t p n) [] [] fx
def l5 (row : Ts) (t p : Tm) (n : Int) : List (Nat × AV) := l4 row t p n ++ [(12, .bx 13 0), (13, .bx 14 0), (14, .bx 15 0), (15, tsA (some (47, 0)) (partsT n.toNat t))]
def b5 (row : Ts) (t p : Tm) : List (Nat × Nat × Dc) := [(13, 26, tmC (some (38, 0)) (some (38, 1)) (tup row).h (tup row).x), (14, 26, tmC (some (40, 0)) (some (40, 1)) (pack row).h (pack row).x), (15, 26, tmC (some (44, 0)) (some (44, 1)) (caseT p row t).h (caseT p row t).x)]
def S5 (row : Ts) (t p : Tm) (n : Int) (fx : Nat → Option Value) : St := stX (l5 row t p n) (b5 row t p) [(38, 0), (40, 0), (44, 0), (47, 0)] fx
set_option maxRecDepth 100000 in
set_option maxHeartbeats 8000000 in
theorem small3 (row : Ts) (t p : Tm) (n : Int) (vr vt vp : Value) (w : World) (hG : KA w) (r1 : RT ty w vr row) (r2 : RM ty w vt t.h t.x) (r3 : RM ty w vp p.h p.x) (f1 : row.fits) (f2 : t.fits) (f3 : p.fits) (hc : row.cnt 500 0 + cntM t + cntM p ≤ 500) (hn : n ≤ 12) :
    Calls Tryz.prog 3 #[vr, vt, vp, .int .i64 n] w fun e w' => e = .returned (.bool true) ∧ Below w.heap.size w w' := by
  have hz0 : row.size ≤ 500 ∧ t.size ≤ 500 ∧ p.size ≤ 500 := by
    have e1 := cntM_ge t
    have e2 := cntM_ge p
    have e3 := row.cnt_ge 500 0 (by decide)
    exact ⟨cnt_size (by omega), cntM_size (by omega), cntM_size (by omega)⟩
  have h1 : row.size ≤ 2000000 := by omega
  have h2 : t.size ≤ 2000000 := by omega
  have h3 : p.size ≤ 2000000 := by omega
  have hs := start_sat (N := 113) (l := [tsA none row, tmL t, tmL p, iA n]) hG (vs := [vr, vt, vp, .int .i64 n]) ⟨_, _, rfl, ts_arg r1, _, _, rfl, tm_arg r2, _, _, rfl, tm_arg r3, _, _, rfl, i_arg n, rfl⟩ (by simp) (fun a ha => AV.bare_ok (by simp at ha; rcases ha with rfl | rfl | rfl | rfl <;> rfl) _ _)
  refine calls_of_wp Tryz.func3 rfl ?_
  refine seq_state tbOk stKA mixed (st' := S1 row t p n) hs ?_ (fun a1 w1 hs1 => ?_)
  · simp [toK]
    refine le_of [] ?_ ?_ ?_ <;> simp [AV.ok, Dc.ok]
  refine seq_state tbOk stKA mixed (st' := S1 row t p n) hs1 ?_ (fun a2 w2 hs2 => ?_)
  · have b2 := cntM_le t h2
    have b3 := cntM_le p h3
    have b1 : 0 ≤ row.cnt 500 0 ∧ row.cnt 500 0 ≤ 10000000000 := by
      have q1 := row.cnt_le 500 0 (by decide) (by decide) (by decide)
      have q2 := row.cnt_ge 500 0 (by decide)
      have q3 := row.count_le_size
      omega
    have a1 := k7 row h1
    have a2 := k8 t h2
    have a3 := k8 p h3
    change HH 8 _ (iA (cntM t)) at a2
    change HH 8 _ (iA (cntM p)) at a3
    clear hs1 hs
    generalize row.cnt 500 0 = c1 at *
    generalize cntM t = c2 at *
    generalize cntM p = c3 at *
    have w1 : IntKind.i64.wrap (c1 + c2) = c1 + c2 := by rw [IntKind.wrap_i64]; omega
    have w2 : IntKind.i64.wrap (c1 + c2 + c3) = c1 + c2 + c3 := by rw [IntKind.wrap_i64]; omega
    simp [S1]
    refine ⟨by kernel_rfl, ?_⟩
    refine asks a1 ?_ ?_ ?_ <;> simp
    refine asks a2 ?_ ?_ ?_ <;> simp
    refine asks a3 ?_ ?_ ?_ <;> simp
    have hc' : ¬ 500 < c1 + c2 + c3 := by omega
    have hn' : ¬ 12 < n := by omega
    simp [w1, w2, hc, hc', hn', toK]
    refine le_of [] ?_ ?_ ?_ <;> simp [AV.ok, Dc.ok]
  refine seq_state tbOk stKA mixed (st' := S3 row t p n) hs2 ?_ (fun a3 w3 hs3 => ?_)
  · clear hs2 hs1 hs
    simp [S1]
    refine ⟨by kernel_rfl, ?_⟩
    refine asks (k10 row h1) ?_ ?_ ?_ <;> simp
    refine asks (k11 t h2) ?_ ?_ ?_ <;> simp
    refine asks (k11 p h3) ?_ ?_ ?_ <;> simp
    simp [lentM, lentC, Ds.len, toK]
    refine le_of [] ?_ ?_ ?_ <;> simp [AV.ok, Dc.ok, lentA, lentC, Ds.app]
  clear hs2 hs1 hs
  obtain ⟨g, rfl, hI, hbx, hτ, hbase, hF0, hsl⟩ := hs3.gh
  have hGw : KA g.w := stKA _ _ hs3.below hG
  have bB := hs3.below
  obtain ⟨x6, b6, q6⟩ := sat_box hI (k := 6) (T := 26) (d := tmC none none t.h t.x) (by rw [hbx]; rfl)
  obtain ⟨x7, b7, q7⟩ := sat_box hI (k := 7) (T := 26) (d := tmC none none p.h p.x) (by rw [hbx]; rfl)
  obtain ⟨x11, b11, q11⟩ := sat_box hI (k := 11) (T := 26) (d := lentC t) (by rw [hbx]; rfl)
  obtain ⟨x12, b12, q12⟩ := sat_box hI (k := 12) (T := 26) (d := lentC p) (by rw [hbx]; rfl)
  have m6 := g_rm hI q6
  have m7 := g_rm hI q7
  have m11 := g_lentC hI q11
  have m12 := g_lentC hI q12
  have s0 := g_rt hI (k := none) (t := row) (v := a3.tmps.getD 0 undef) (hsl 0 (by decide))
  have s3 : a3.tmps.getD 3 undef = .int .i64 n := iA_eq (hsl 3 (by decide))
  have s9 := g_lentA hI (t := row) (v := a3.tmps.getD 9 undef) (hsl 9 (by decide))
  have s5 : a3.tmps.getD 5 undef = .pointer (some ⟨g.B 6, 0, none⟩) := by have := (hsl 5 (by decide)).1; simpa using this
  have s6 : a3.tmps.getD 6 undef = .pointer (some ⟨g.B 7, 0, none⟩) := by have := (hsl 6 (by decide)).1; simpa using this
  have s10 : a3.tmps.getD 10 undef = .pointer (some ⟨g.B 11, 0, none⟩) := by have := (hsl 10 (by decide)).1; simpa using this
  have s11 : a3.tmps.getD 11 undef = .pointer (some ⟨g.B 12, 0, none⟩) := by have := (hsl 11 (by decide)).1; simpa using this
  have e5 := box_el b6 m6
  have e6 := box_el b7 m7
  have e10 := box_el b11 m11.plain
  have e11 := box_el b12 m12.plain
  have hsz := hs3.size
  have hdf := hs3.defers
  rw [← s5] at e5
  rw [← s6] at e6
  rw [← s10] at e10
  rw [← s11] at e11
  have r9 : RT ty g.w (a3.tmps.getD 9 undef) row := by
    have := s9.strip
    rw [lentT_strip] at this
    exact this
  have hs4 : Sat KA (U g.w) g.w 113 (S4 row t p n (fxL [(0, a3.tmps.getD 0 undef), (5, a3.tmps.getD 5 undef), (6, a3.tmps.getD 6 undef), (9, a3.tmps.getD 9 undef), (10, a3.tmps.getD 10 undef), (11, a3.tmps.getD 11 undef)])) a3 g.w := by
    refine rebase hGw (fun k => ?_) rfl rfl hsz hdf (fun k x e => ?_) fun k hk => ?_
    · show (envOf (l4 row t p n) k).ok _ _
      unfold envOf
      split
      · rename_i q hq
        have := (find_mem hq).1
        simp [l4] at this
        rcases this with rfl | rfl | rfl | rfl | rfl | rfl | rfl <;> trivial
      · trivial
    · have := fxL_mem e
      simp only [List.mem_cons, Prod.mk.injEq, List.not_mem_nil, or_false] at this
      rcases this with ⟨rfl, rfl⟩ | ⟨rfl, rfl⟩ | ⟨rfl, rfl⟩ | ⟨rfl, rfl⟩ | ⟨rfl, rfl⟩ | ⟨rfl, rfl⟩ <;> rfl
    · show RepV _ (envOf (l4 row t p n) k) _
      unfold envOf
      split
      · rename_i q hq
        obtain ⟨h4, rfl⟩ := find_mem hq
        simp only [l4, List.mem_cons, List.not_mem_nil, or_false] at h4
        rcases h4 with rfl | rfl | rfl | rfl | rfl | rfl | rfl
        · exact ts_arg s0
        · show RepV _ (iA n) [a3.tmps.getD 3 undef]; rw [s3]; exact i_arg n
        · exact e5
        · exact e6
        · exact ts_arg r9
        · exact e10
        · exact e11
      · trivial
  obtain ⟨fx, hfx⟩ : ∃ fx, fxL [(0, a3.tmps.getD 0 undef), (5, a3.tmps.getD 5 undef), (6, a3.tmps.getD 6 undef), (9, a3.tmps.getD 9 undef), (10, a3.tmps.getD 10 undef), (11, a3.tmps.getD 11 undef)] = fx := ⟨_, rfl⟩
  rw [hfx] at hs4
  have z1 : row.size ≤ 1000000 := by omega
  have z2 : t.size ≤ 900000 := by omega
  have z3 : p.size + row.size + t.size ≤ 900000 := by omega
  have z4 : row.len ≤ 900000 := by have := len_le_size row; omega
  have z5 : t.size + n.toNat ≤ 1000000 := by omega
  have hfd : ∀ k x, fx k = some x → k = 0 ∨ k = 5 ∨ k = 6 ∨ k = 9 ∨ k = 10 ∨ k = 11 := fun k x e => by
    rw [← hfx] at e
    have := fxL_mem e
    simp only [List.mem_cons, Prod.mk.injEq, List.not_mem_nil, or_false] at this
    rcases this with ⟨rfl, -⟩ | ⟨rfl, -⟩ | ⟨rfl, -⟩ | ⟨rfl, -⟩ | ⟨rfl, -⟩ | ⟨rfl, -⟩ <;> simp
  refine seq_state tbOk stKA mixed (st' := S5 row t p n fx) hs4 ?_ (fun a5 w5 hs5 => ?_)
  · clear hs4 hs3 hI hbx hτ hF0 hsl
    simp [S4, stX, l4]
    refine ⟨by kernel_rfl, ?_⟩
    refine asks (h12 row f1 z1) ?_ ?_ ?_ <;> simp
    refine asks (h13 row f1 z1) ?_ ?_ ?_ <;> simp
    refine asks (g14 p row t f3 f1 f2 z3 z4) ?_ ?_ ?_ <;> simp
    refine asks (k15 t n f2 (by omega) hn) ?_ ?_ ?_ <;> simp
    refine ⟨rfl, le_ofX (le_of [((38, 0), [(38, 0)]), ((38, 1), [(38, 1)]), ((40, 0), [(40, 0)]), ((40, 1), [(40, 1)]), ((44, 0), [(44, 0)]), ((44, 1), [(44, 1)]), ((47, 0), [(47, 0)])] ?_ ?_ ?_) fun k x e => ?_⟩
    · simp [l5, l4, b5, AV.ok, Dc.ok]
    · simp [b5, AV.ok, Dc.ok]
    · decide
    · rcases hfd k x e with rfl | rfl | rfl | rfl | rfl | rfl <;> simpa [fxE] using e
  refine seq_state tbOk stKA mixed (st' := S5 row t p n fx) hs5 ?_ (fun a6 w6 hs6 => ?_)
  · clear hs5 hs4 hs3 hI hbx hτ hF0 hsl
    have y1 : p.size + row.size + t.size ≤ 1000000 := by omega
    simp [S5, stX, l5, l4, b5]
    refine ⟨by kernel_rfl, ?_⟩
    refine asks (h17 row f1 (by omega)) ?_ ?_ ?_ <;> simp
    refine asks (k16 (tup row)) ?_ ?_ ?_ <;> simp
    refine asks (h18 row f1 (by omega)) ?_ ?_ ?_ <;> simp
    refine asks (k16 (pack row)) ?_ ?_ ?_ <;> simp
    refine asks (g19 p row t f3 f1 f2 y1 (by omega)) ?_ ?_ ?_ <;> simp
    refine asks (k16 (caseT p row t)) ?_ ?_ ?_ <;> simp
    refine asks (g21 n.toNat n t rfl f2 hn z5) ?_ ?_ ?_ <;> simp
    refine asks (k20 (partsT n.toNat t)) ?_ ?_ ?_ <;> simp
    refine ⟨rfl, le_ofX (le_of [((38, 0), [(38, 0)]), ((38, 1), [(38, 1)]), ((40, 0), [(40, 0)]), ((40, 1), [(40, 1)]), ((44, 0), [(44, 0)]), ((44, 1), [(44, 1)]), ((47, 0), [(47, 0)])] ?_ ?_ ?_) fun k x e => ?_⟩
    · simp [l5, l4, b5, AV.ok, Dc.ok]
    · simp [b5, AV.ok, Dc.ok]
    · decide
    · rcases hfd k x e with rfl | rfl | rfl | rfl | rfl | rfl <;> simpa [fxE] using e
  -- where the last region begins
  obtain ⟨g6, hg6, hI6, hbx6, hτ6, hbase6, hF6, hsl6⟩ := hs6.gh
  subst hg6
  obtain ⟨y13, c13, p13⟩ := sat_box hI6 (k := 13) (T := 26) (d := tmC (some (38, 0)) (some (38, 1)) (tup row).h (tup row).x) (by rw [hbx6]; rfl)
  obtain ⟨y14, c14, p14⟩ := sat_box hI6 (k := 14) (T := 26) (d := tmC (some (40, 0)) (some (40, 1)) (pack row).h (pack row).x) (by rw [hbx6]; rfl)
  obtain ⟨y15, c15, p15⟩ := sat_box hI6 (k := 15) (T := 26) (d := tmC (some (44, 0)) (some (44, 1)) (caseT p row t).h (caseT p row t).x) (by rw [hbx6]; rfl)
  have p16 : RepC g6 (.row (some (47, 0)) 5 26 (tDs ty (partsT n.toNat t)) .nil) [a6.tmps.getD 15 undef] := hsl6 15 (by decide)
  have hall := RepC.app (RepC.app (RepC.app p16 p15) p14) p13
  obtain ⟨S, hown, hnd, -⟩ := own_of hI6 hall (by simp only [tmC, Dc.app, Dc.own, hτ6]; simp) (by simp only [tmC, Dc.app, Dc.toks]; decide)
  rw [hbase6] at hown
  have t12 : a6.tmps.getD 12 undef = .pointer (some ⟨g6.B 13, 0, none⟩) := by have := (hsl6 12 (by decide)).1; simpa using this
  have t13 : a6.tmps.getD 13 undef = .pointer (some ⟨g6.B 14, 0, none⟩) := by have := (hsl6 13 (by decide)).1; simpa using this
  have t14 : a6.tmps.getD 14 undef = .pointer (some ⟨g6.B 15, 0, none⟩) := by have := (hsl6 14 (by decide)).1; simpa using this
  have fixed : ∀ k x, fx k = some x → a6.tmps.getD k undef = x := hs6.fix
  have u0 : a6.tmps.getD 0 undef = a3.tmps.getD 0 undef := fixed 0 _ (by rw [← hfx]; rfl)
  have u5 : a6.tmps.getD 5 undef = _ := (fixed 5 _ (by rw [← hfx]; rfl)).trans s5
  have u6 : a6.tmps.getD 6 undef = _ := (fixed 6 _ (by rw [← hfx]; rfl)).trans s6
  have u9 : a6.tmps.getD 9 undef = a3.tmps.getD 9 undef := fixed 9 _ (by rw [← hfx]; rfl)
  have u10 : a6.tmps.getD 10 undef = _ := (fixed 10 _ (by rw [← hfx]; rfl)).trans s10
  have u11 : a6.tmps.getD 11 undef = _ := (fixed 11 _ (by rw [← hfx]; rfl)).trans s11
  have bB6 := hs6.below
  have hsz6 := hs6.size
  have hdf6 := hs6.defers
  rw [Dc.app_ds, Dc.app_ds, Dc.app_ds] at hown
  obtain ⟨S13, Sr, rfl, o13, hown⟩ := hown.parts (by rw [p13.len]; rfl)
  obtain ⟨S14, Sr, rfl, o14, hown⟩ := hown.parts (by rw [p14.len]; rfl)
  obtain ⟨S15, S16, rfl, o15, o16⟩ := hown.parts (by rw [p15.len]; rfl)
  obtain ⟨q, m, d, q', m', d', rfl⟩ := lit5 p13
  obtain ⟨r, l, c, r', l', c', rfl⟩ := lit5 p14
  obtain ⟨y, k, b, y', k', b', rfl⟩ := lit5 p15
  obtain ⟨_, _, _, _, _, _, rfl⟩ := lit5 q6
  obtain ⟨_, _, _, _, _, _, rfl⟩ := lit5 q7
  obtain ⟨_, _, _, _, _, _, rfl⟩ := lit5L q11
  obtain ⟨_, _, _, _, _, _, rfl⟩ := lit5L q12
  obtain ⟨tmps, defers⟩ := a6
  obtain rfl : defers = [] := hdf6
  clear hs6 hs5 hs4 hs3 hsl hsl6 hbx hbx6 hτ hτ6 hF0 hF6 hI hI6 hall p13 p14 p15 p16 q6 q7 q11 q12 e5 e6 e10 e11 fixed hfd hfx s5 s6 s10 s11 hsz hdf hbase hbase6
  have e1 : tmps = #[tmps.getD 0 undef, tmps.getD 1 undef, tmps.getD 2 undef, tmps.getD 3 undef, tmps.getD 4 undef, tmps.getD 5 undef, tmps.getD 6 undef, tmps.getD 7 undef, tmps.getD 8 undef, tmps.getD 9 undef, tmps.getD 10 undef, tmps.getD 11 undef, tmps.getD 12 undef, tmps.getD 13 undef, tmps.getD 14 undef, tmps.getD 15 undef, tmps.getD 16 undef, tmps.getD 17 undef, tmps.getD 18 undef, tmps.getD 19 undef, tmps.getD 20 undef, tmps.getD 21 undef, tmps.getD 22 undef, tmps.getD 23 undef, tmps.getD 24 undef, tmps.getD 25 undef, tmps.getD 26 undef, tmps.getD 27 undef, tmps.getD 28 undef, tmps.getD 29 undef, tmps.getD 30 undef, tmps.getD 31 undef, tmps.getD 32 undef, tmps.getD 33 undef, tmps.getD 34 undef, tmps.getD 35 undef, tmps.getD 36 undef, tmps.getD 37 undef, tmps.getD 38 undef, tmps.getD 39 undef, tmps.getD 40 undef, tmps.getD 41 undef, tmps.getD 42 undef, tmps.getD 43 undef, tmps.getD 44 undef, tmps.getD 45 undef, tmps.getD 46 undef, tmps.getD 47 undef, tmps.getD 48 undef, tmps.getD 49 undef, tmps.getD 50 undef, tmps.getD 51 undef, tmps.getD 52 undef, tmps.getD 53 undef, tmps.getD 54 undef, tmps.getD 55 undef, tmps.getD 56 undef, tmps.getD 57 undef, tmps.getD 58 undef, tmps.getD 59 undef, tmps.getD 60 undef, tmps.getD 61 undef, tmps.getD 62 undef, tmps.getD 63 undef, tmps.getD 64 undef, tmps.getD 65 undef, tmps.getD 66 undef, tmps.getD 67 undef, tmps.getD 68 undef, tmps.getD 69 undef, tmps.getD 70 undef, tmps.getD 71 undef, tmps.getD 72 undef, tmps.getD 73 undef, tmps.getD 74 undef, tmps.getD 75 undef, tmps.getD 76 undef, tmps.getD 77 undef, tmps.getD 78 undef, tmps.getD 79 undef, tmps.getD 80 undef, tmps.getD 81 undef, tmps.getD 82 undef, tmps.getD 83 undef, tmps.getD 84 undef, tmps.getD 85 undef, tmps.getD 86 undef, tmps.getD 87 undef, tmps.getD 88 undef, tmps.getD 89 undef, tmps.getD 90 undef, tmps.getD 91 undef, tmps.getD 92 undef, tmps.getD 93 undef, tmps.getD 94 undef, tmps.getD 95 undef, tmps.getD 96 undef, tmps.getD 97 undef, tmps.getD 98 undef, tmps.getD 99 undef, tmps.getD 100 undef, tmps.getD 101 undef, tmps.getD 102 undef, tmps.getD 103 undef, tmps.getD 104 undef, tmps.getD 105 undef, tmps.getD 106 undef, tmps.getD 107 undef, tmps.getD 108 undef, tmps.getD 109 undef, tmps.getD 110 undef, tmps.getD 111 undef, tmps.getD 112 undef] := (arr_lit hsz6).trans rfl
  clear hsz6
  simp only at u0 u5 u6 u9 u10 u11 t12 t13 t14 o16
  generalize tmps.getD 0 undef = x0 at *
  generalize tmps.getD 1 undef = x1 at *
  generalize tmps.getD 2 undef = x2 at *
  generalize tmps.getD 3 undef = x3 at *
  generalize tmps.getD 4 undef = x4 at *
  generalize tmps.getD 5 undef = x5 at *
  generalize tmps.getD 6 undef = x6 at *
  generalize tmps.getD 7 undef = x7 at *
  generalize tmps.getD 8 undef = x8 at *
  generalize tmps.getD 9 undef = x9 at *
  generalize tmps.getD 10 undef = x10 at *
  generalize tmps.getD 11 undef = x11 at *
  generalize tmps.getD 12 undef = x12 at *
  generalize tmps.getD 13 undef = x13 at *
  generalize tmps.getD 14 undef = x14 at *
  generalize tmps.getD 15 undef = x15 at *
  generalize tmps.getD 16 undef = x16 at *
  generalize tmps.getD 17 undef = x17 at *
  generalize tmps.getD 18 undef = x18 at *
  generalize tmps.getD 19 undef = x19 at *
  generalize tmps.getD 20 undef = x20 at *
  generalize tmps.getD 21 undef = x21 at *
  generalize tmps.getD 22 undef = x22 at *
  generalize tmps.getD 23 undef = x23 at *
  generalize tmps.getD 24 undef = x24 at *
  generalize tmps.getD 25 undef = x25 at *
  generalize tmps.getD 26 undef = x26 at *
  generalize tmps.getD 27 undef = x27 at *
  generalize tmps.getD 28 undef = x28 at *
  generalize tmps.getD 29 undef = x29 at *
  generalize tmps.getD 30 undef = x30 at *
  generalize tmps.getD 31 undef = x31 at *
  generalize tmps.getD 32 undef = x32 at *
  generalize tmps.getD 33 undef = x33 at *
  generalize tmps.getD 34 undef = x34 at *
  generalize tmps.getD 35 undef = x35 at *
  generalize tmps.getD 36 undef = x36 at *
  generalize tmps.getD 37 undef = x37 at *
  generalize tmps.getD 38 undef = x38 at *
  generalize tmps.getD 39 undef = x39 at *
  generalize tmps.getD 40 undef = x40 at *
  generalize tmps.getD 41 undef = x41 at *
  generalize tmps.getD 42 undef = x42 at *
  generalize tmps.getD 43 undef = x43 at *
  generalize tmps.getD 44 undef = x44 at *
  generalize tmps.getD 45 undef = x45 at *
  generalize tmps.getD 46 undef = x46 at *
  generalize tmps.getD 47 undef = x47 at *
  generalize tmps.getD 48 undef = x48 at *
  generalize tmps.getD 49 undef = x49 at *
  generalize tmps.getD 50 undef = x50 at *
  generalize tmps.getD 51 undef = x51 at *
  generalize tmps.getD 52 undef = x52 at *
  generalize tmps.getD 53 undef = x53 at *
  generalize tmps.getD 54 undef = x54 at *
  generalize tmps.getD 55 undef = x55 at *
  generalize tmps.getD 56 undef = x56 at *
  generalize tmps.getD 57 undef = x57 at *
  generalize tmps.getD 58 undef = x58 at *
  generalize tmps.getD 59 undef = x59 at *
  generalize tmps.getD 60 undef = x60 at *
  generalize tmps.getD 61 undef = x61 at *
  generalize tmps.getD 62 undef = x62 at *
  generalize tmps.getD 63 undef = x63 at *
  generalize tmps.getD 64 undef = x64 at *
  generalize tmps.getD 65 undef = x65 at *
  generalize tmps.getD 66 undef = x66 at *
  generalize tmps.getD 67 undef = x67 at *
  generalize tmps.getD 68 undef = x68 at *
  generalize tmps.getD 69 undef = x69 at *
  generalize tmps.getD 70 undef = x70 at *
  generalize tmps.getD 71 undef = x71 at *
  generalize tmps.getD 72 undef = x72 at *
  generalize tmps.getD 73 undef = x73 at *
  generalize tmps.getD 74 undef = x74 at *
  generalize tmps.getD 75 undef = x75 at *
  generalize tmps.getD 76 undef = x76 at *
  generalize tmps.getD 77 undef = x77 at *
  generalize tmps.getD 78 undef = x78 at *
  generalize tmps.getD 79 undef = x79 at *
  generalize tmps.getD 80 undef = x80 at *
  generalize tmps.getD 81 undef = x81 at *
  generalize tmps.getD 82 undef = x82 at *
  generalize tmps.getD 83 undef = x83 at *
  generalize tmps.getD 84 undef = x84 at *
  generalize tmps.getD 85 undef = x85 at *
  generalize tmps.getD 86 undef = x86 at *
  generalize tmps.getD 87 undef = x87 at *
  generalize tmps.getD 88 undef = x88 at *
  generalize tmps.getD 89 undef = x89 at *
  generalize tmps.getD 90 undef = x90 at *
  generalize tmps.getD 91 undef = x91 at *
  generalize tmps.getD 92 undef = x92 at *
  generalize tmps.getD 93 undef = x93 at *
  generalize tmps.getD 94 undef = x94 at *
  generalize tmps.getD 95 undef = x95 at *
  generalize tmps.getD 96 undef = x96 at *
  generalize tmps.getD 97 undef = x97 at *
  generalize tmps.getD 98 undef = x98 at *
  generalize tmps.getD 99 undef = x99 at *
  generalize tmps.getD 100 undef = x100 at *
  generalize tmps.getD 101 undef = x101 at *
  generalize tmps.getD 102 undef = x102 at *
  generalize tmps.getD 103 undef = x103 at *
  generalize tmps.getD 104 undef = x104 at *
  generalize tmps.getD 105 undef = x105 at *
  generalize tmps.getD 106 undef = x106 at *
  generalize tmps.getD 107 undef = x107 at *
  generalize tmps.getD 108 undef = x108 at *
  generalize tmps.getD 109 undef = x109 at *
  generalize tmps.getD 110 undef = x110 at *
  generalize tmps.getD 111 undef = x111 at *
  generalize tmps.getD 112 undef = x112 at *
  subst e1
  subst u0 u5 u6 u9 u10 u11 t12 t13 t14
  generalize a3.tmps.getD 0 undef = v0 at *
  generalize a3.tmps.getD 9 undef = v9 at *
  generalize g.w = W0 at *
  generalize g6.w = W at *
  generalize g.B 6 = B6 at *
  generalize g.B 7 = B7 at *
  generalize g.B 11 = B11 at *
  generalize g.B 12 = B12 at *
  generalize g6.B 13 = B13 at *
  generalize g6.B 14 = B14 at *
  generalize g6.B 15 = B15 at *
  obtain ⟨xp, xn, xc, rfl⟩ := own_slice o16
  have HKT : Hid (∀ W', Below W0.heap.size W0 W' → Calls Tryz.prog 22 #[v9, v0] W' fun e w' => e = .returned (.bool true) ∧ Below W'.heap.size W' w') := fun W' h => keptTerms_any row v9 v0 W' (s9.on h) (s0.on h) (by omega)
  have HK1 := Lib.hid fun (W' : World) (h : Below W0.heap.size W0 W') => keptTerm_any t.h t.x _ _ W' (m11.on h) (m6.on h) (by unfold Tm.size at h2; omega)
  have HK2 := Lib.hid fun (W' : World) (h : Below W0.heap.size W0 W') => keptTerm_any p.h p.x _ _ W' (m12.on h) (m7.on h) (by unfold Tm.size at h3; omega)
  have HAW : Hid (∀ W', Below W0.heap.size W0 W' → Calls Tryz.prog 9 #[] W' fun e w' => e = .returned (.bool true) ∧ Below W'.heap.size W' w') := fun W' h => awake_any (stKA _ _ h hGw)
  have HB := Lib.hid bB6
  have HBB := Lib.hid bB
  have X6 := Lib.hid b6
  have X7 := Lib.hid b7
  have X11 := Lib.hid b11
  have X12 := Lib.hid b12
  have X13 := Lib.hid c13
  have X14 := Lib.hid c14
  have X15 := Lib.hid c15
  have O13 := Lib.hid o13
  have O14 := Lib.hid o14
  have O15 := Lib.hid o15
  have O16 := Lib.hid o16
  have HND := Lib.hid hnd
  have HZ : Hid (row.size ≤ 500 ∧ t.size ≤ 500 ∧ p.size ≤ 500 ∧ n ≤ 12) := Lib.hid ⟨hz0.1, hz0.2.1, hz0.2.2, hn⟩
  clear b6 b7 b11 b12 c13 c14 c15 o13 o14 o15 o16 hnd m6 m7 m11 m12 s0 s9 r9 hGw z1 z2 z3 z4 z5 s3 bB6
  clear r1 r2 r3 f1 f2 f3 hc h1 h2 h3 hG hn hz0 bB
  generalize (tup row).h.k = i1 at *
  generalize (tup row).h.n = i2 at *
  generalize (tup row).h.a = i3 at *
  generalize (pack row).h.k = i4 at *
  generalize (pack row).h.n = i5 at *
  generalize (pack row).h.a = i6 at *
  generalize (caseT p row t).h.k = i7 at *
  generalize (caseT p row t).h.n = i8 at *
  generalize (caseT p row t).h.a = i9 at *
  dsimp only
  refine wp_seq ?_
  go_wp2_with fail
  refine (HKT.out W HB.out).mono ?_
  rintro e w7 ⟨rfl, hb⟩
  have HB7 := Lib.hid (below_step HB.out hb)
  have HW7 := Lib.hid hb
  clear hb
  have a0 := (X11.out.on HB7.out).cell (o := 0) rfl
  have a1 := (X11.out.on HB7.out).cell (o := 1) rfl
  have a2 := (X11.out.on HB7.out).cell (o := 2) rfl
  have a3 := (X11.out.on HB7.out).cell (o := 3) rfl
  have a4 := (X11.out.on HB7.out).cell (o := 4) rfl
  have b0 := (X6.out.on HB7.out).cell (o := 0) rfl
  have b1 := (X6.out.on HB7.out).cell (o := 1) rfl
  have b2 := (X6.out.on HB7.out).cell (o := 2) rfl
  have b3 := (X6.out.on HB7.out).cell (o := 3) rfl
  have b4 := (X6.out.on HB7.out).cell (o := 4) rfl
  go_wp2_with fail
  refine (HK1.out w7 HB7.out).mono ?_
  rintro e w8 ⟨rfl, hb⟩
  have HB8 := Lib.hid (below_step HB7.out hb)
  have HW8 := Lib.hid (below_step HW7.out hb)
  clear hb a0 a1 a2 a3 a4 b0 b1 b2 b3 b4
  have a0 := (X13.out.on HW8.out).cell (o := 0) rfl
  have a1 := (X13.out.on HW8.out).cell (o := 1) rfl
  have a2 := (X13.out.on HW8.out).cell (o := 2) rfl
  have a3 := (X13.out.on HW8.out).cell (o := 3) rfl
  have a4 := (X13.out.on HW8.out).cell (o := 4) rfl
  obtain ⟨u1, hu1⟩ : ∃ u1, w8.alloc (.cells #[.int .i64 i1, .int .i64 i2, .int .i64 i3, .slice q m d, .slice q' m' d'] 26) = u1 := ⟨_, rfl⟩
  obtain ⟨u2, hu2⟩ : ∃ u2, u1.alloc (.cells #[.int .i64 i4, .int .i64 i5, .int .i64 i6, .slice r l c, .slice r' l' c'] 26) = u2 := ⟨_, rfl⟩
  obtain ⟨u3, hu3⟩ : ∃ u3, u2.alloc (.cells #[.int .i64 i7, .int .i64 i8, .int .i64 i9, .slice y k b, .slice y' k' b'] 26) = u3 := ⟨_, rfl⟩
  have hb1 : Below w8.heap.size w8 u1 := by rw [← hu1]; exact below_alloc _ _
  have hb2 : Below u1.heap.size u1 u2 := by rw [← hu2]; exact below_alloc _ _
  have hb3 : Below u2.heap.size u2 u3 := by rw [← hu3]; exact below_alloc _ _
  have HW1 := Lib.hid (below_step HW8.out hb1)
  have HW2 := Lib.hid (below_step HW1.out hb2)
  have b0 := (X14.out.on HW1.out).cell (o := 0) rfl
  have b1 := (X14.out.on HW1.out).cell (o := 1) rfl
  have b2 := (X14.out.on HW1.out).cell (o := 2) rfl
  have b3 := (X14.out.on HW1.out).cell (o := 3) rfl
  have b4 := (X14.out.on HW1.out).cell (o := 4) rfl
  have c0 := (X15.out.on HW2.out).cell (o := 0) rfl
  have c1 := (X15.out.on HW2.out).cell (o := 1) rfl
  have c2 := (X15.out.on HW2.out).cell (o := 2) rfl
  have c3 := (X15.out.on HW2.out).cell (o := 3) rfl
  have c4 := (X15.out.on HW2.out).cell (o := 4) rfl
  obtain ⟨u4, hu4⟩ : ∃ u4, u3.alloc (.cells #[.slice (some ⟨w8.heap.size, 0, none⟩) 1 1, .slice (some ⟨u1.heap.size, 0, none⟩) 1 1, .slice (some ⟨u2.heap.size, 0, none⟩) 1 1, .slice xp xn xc] 22) = u4 := ⟨_, rfl⟩
  have hb4 : Below u3.heap.size u3 u4 := by rw [← hu4]; exact below_alloc _ _
  have hg4 : u4.heap[u3.heap.size]? = some (Obj.cells #[.slice (some ⟨w8.heap.size, 0, none⟩) 1 1, .slice (some ⟨u1.heap.size, 0, none⟩) 1 1, .slice (some ⟨u2.heap.size, 0, none⟩) 1 1, .slice xp xn xc] 22 (0, 0)) := by rw [← hu4]; exact heap_alloc_new _ _
  obtain ⟨n13, n14', d13⟩ := List.nodup_append.1 HND.out
  obtain ⟨n14, n15', d14⟩ := List.nodup_append.1 n14'
  obtain ⟨n15, n16, d15⟩ := List.nodup_append.1 n15'
  have hW8 : W0.heap.size ≤ w8.heap.size := Nat.le_trans HB.out.size HW8.out.size
  have hW1 : W0.heap.size ≤ u1.heap.size := Nat.le_trans hW8 hb1.size
  have hW2 : W0.heap.size ≤ u2.heap.size := Nat.le_trans hW1 hb2.size
  have k13 := (Own.laid (e := 26) (n := 1) (sz := 5) (O13.out.below HW8.out) n13 hW8 rfl (by decide)).1
  have k14 := (Own.laid (e := 26) (n := 1) (sz := 5) (O14.out.below HW1.out) n14 hW1 rfl (by decide)).1
  have k15 := (Own.laid (e := 26) (n := 1) (sz := 5) (O15.out.below HW2.out) n15 hW2 rfl (by decide)).1
  rw [hu1] at k13
  rw [hu2] at k14
  rw [hu3] at k15
  have hb34 := below_step hb3 hb4
  have hb24 := below_step hb2 hb34
  have k16 := O16.out.below (below_step HW2.out hb34)
  have hA := Own.app (Own.app (Own.app k16 (k15.below hb4)) (k14.below hb34)) (k13.below hb24)
  have sz1 : u1.heap.size = w8.heap.size + 1 := by rw [← hu1]; simp
  have sz2 : u2.heap.size = w8.heap.size + 2 := by rw [← hu2]; simp [sz1]
  have sz3 : u3.heap.size = w8.heap.size + 3 := by rw [← hu3]; simp [sz2]
  have lo : ∀ x ∈ S13 ++ (S14 ++ (S15 ++ S16)), W0.heap.size ≤ x ∧ x < w8.heap.size := fun x hx => by
    have hsz := HW8.out.size
    simp only [List.mem_append] at hx
    rcases hx with hx | hx | hx | hx
    · have := O13.out.mem x hx; omega
    · have := O14.out.mem x hx; omega
    · have := O15.out.mem x hx; omega
    · have := O16.out.mem x hx; omega
  obtain ⟨SS, hSS⟩ : ∃ SS, [w8.heap.size] ++ S13 ++ ([u1.heap.size] ++ S14 ++ ([u2.heap.size] ++ S15 ++ S16)) = SS := ⟨_, rfl⟩
  rw [hSS] at hA
  have hperm : ([w8.heap.size, u1.heap.size, u2.heap.size] ++ (S13 ++ (S14 ++ (S15 ++ S16)))).Perm SS := by
    rw [← hSS]
    refine List.perm_iff_count.2 fun z => ?_
    simp only [List.count_append, List.count_cons, List.count_nil]
    omega
  have hnd : SS.Nodup := by
    refine hperm.nodup_iff.1 (List.nodup_append.2 ⟨by simp [sz1, sz2], HND.out, fun a ha b hb e => ?_⟩)
    have := lo b hb
    simp only [List.mem_cons, List.not_mem_nil, or_false] at ha
    omega
  have hge : ∀ x ∈ SS, W0.heap.size ≤ x := fun x hx => by
    rcases List.mem_append.1 (hperm.mem_iff.2 hx) with hx | hx
    · simp only [List.mem_cons, List.not_mem_nil, or_false] at hx; omega
    · exact (lo x hx).1
  have HAP := Lib.hid (apartRows_any [(tup row).ts, (pack row).ts, (caseT p row t).ts, partsT n.toNat t] [.slice (some ⟨w8.heap.size, 0, none⟩) 1 1, .slice (some ⟨u1.heap.size, 0, none⟩) 1 1, .slice (some ⟨u2.heap.size, 0, none⟩) 1 1, .slice xp xn xc] SS W0.heap.size (some ⟨u3.heap.size, 0, none⟩) 4 u4 (Nat.le_refl _) (by decide)
    (fun _ => ⟨_, 0, rfl, heap_lt hg4, fun j v hv => by
      rw [Nat.zero_add]
      refine U_mk ?_ (by simp [World.frozen?, hg4])
      simp only [World.cell?, hg4]
      simpa using hv⟩) hA hnd (by
      obtain ⟨y1, y2, y3, y4⟩ := HZ.out
      have e1 := tup_size row
      have e2 := pack_size row
      have e3 := case_size p row t
      have e4 := parts_size n.toNat t
      have e5 : n.toNat * (t.size + n.toNat + 3) ≤ 12 * 600 := Nat.mul_le_mul (by omega) (by omega)
      simp only [szs, List.map_cons, List.map_nil, List.sum_cons, List.sum_nil]
      omega))
  have HB4 := Lib.hid (below_step (below_step HB8.out hb1) hb24)
  have HGE := Lib.hid hge
  clear hb1 hb2 hb3 hb4 hg4 n13 n14' d13 n14 n15' d14 n15 n16 d15 hW8 hW1 hW2 k13 k14 k15 k16 hb34 hb24 hA sz1 sz2 sz3 lo hSS hperm hnd hge
  go_wp2_with fail
  refine HAP.out.mono ?_
  rintro e w9 ⟨rfl, hb⟩
  have HB9 : Hid (Below W0.heap.size W0 w9) := Lib.hid ⟨hb.os.trans HB4.out.os, hb.tape.trans HB4.out.tape, hb.output.trans HB4.out.output, Nat.le_trans HB4.out.size hb.size, fun z hz => (hb.block z (Nat.lt_of_lt_of_le hz HB4.out.size) (fun h => by have := HGE.out z h; omega)).trans (HB4.out.block z hz)⟩
  clear hb HAP HB4 HGE hu1 hu2 hu3 hu4 a0 a1 a2 a3 a4 b0 b1 b2 b3 b4 c0 c1 c2 c3 c4 HW1 HW2 HB8 HW8 HW7 HB7 X13 X14 X15 O13 O14 O15 O16 HND HB
  go_wp2_with fail
  refine (HKT.out w9 HB9.out).mono ?_
  rintro e w10 ⟨rfl, hb⟩
  have HB10 := Lib.hid (below_step HB9.out hb)
  clear hb HB9
  have a0 := (X11.out.on HB10.out).cell (o := 0) rfl
  have a1 := (X11.out.on HB10.out).cell (o := 1) rfl
  have a2 := (X11.out.on HB10.out).cell (o := 2) rfl
  have a3 := (X11.out.on HB10.out).cell (o := 3) rfl
  have a4 := (X11.out.on HB10.out).cell (o := 4) rfl
  have b0 := (X6.out.on HB10.out).cell (o := 0) rfl
  have b1 := (X6.out.on HB10.out).cell (o := 1) rfl
  have b2 := (X6.out.on HB10.out).cell (o := 2) rfl
  have b3 := (X6.out.on HB10.out).cell (o := 3) rfl
  have b4 := (X6.out.on HB10.out).cell (o := 4) rfl
  go_wp2_with fail
  refine (HK1.out w10 HB10.out).mono ?_
  rintro e w11 ⟨rfl, hb⟩
  have HB11 := Lib.hid (below_step HB10.out hb)
  clear hb HB10 a0 a1 a2 a3 a4 b0 b1 b2 b3 b4
  have a0 := (X12.out.on HB11.out).cell (o := 0) rfl
  have a1 := (X12.out.on HB11.out).cell (o := 1) rfl
  have a2 := (X12.out.on HB11.out).cell (o := 2) rfl
  have a3 := (X12.out.on HB11.out).cell (o := 3) rfl
  have a4 := (X12.out.on HB11.out).cell (o := 4) rfl
  have b0 := (X7.out.on HB11.out).cell (o := 0) rfl
  have b1 := (X7.out.on HB11.out).cell (o := 1) rfl
  have b2 := (X7.out.on HB11.out).cell (o := 2) rfl
  have b3 := (X7.out.on HB11.out).cell (o := 3) rfl
  have b4 := (X7.out.on HB11.out).cell (o := 4) rfl
  go_wp2_with fail
  refine (HK2.out w11 HB11.out).mono ?_
  rintro e w12 ⟨rfl, hb⟩
  have HB12 := Lib.hid (below_step HB11.out hb)
  clear hb HB11 a0 a1 a2 a3 a4 b0 b1 b2 b3 b4
  go_wp2_with fail
  refine (HAW.out w12 HB12.out).mono ?_
  rintro e w13 ⟨rfl, hb⟩
  go_wp2_with fail
  go_ret
  exact ⟨rfl, below_step HBB.out (below_step HB12.out hb)⟩
end Go.Proofs.YtkcmapimcgppmaaGreatDoor
