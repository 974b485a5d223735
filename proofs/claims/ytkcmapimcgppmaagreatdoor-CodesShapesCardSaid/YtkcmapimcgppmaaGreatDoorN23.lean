/-
  A constant at a term, index types, shapes, functions and their types over a row: the program's, the document's. Conditions: no more than 1000 level variables, 100000 nodes; numbers that a word holds. What putting, moving, folding keep: numbers that a word holds; places of recursive arguments, blocks' codes as plain data; their sizes. A declaration with a body; rows over members, over rules, over places: the program's, the document's. Conditions: no more than 4 arguments, 40 nodes in a rule; numbers that a word holds. Places of a rule: the program's, the document's. Conditions: no more than 4 arguments, 40 nodes in a rule; numbers that a word holds. Places of a rule, whole: the program's, the document's. Conditions: no more than 4 arguments, 40 nodes in a rule; numbers that a word holds. Places of a rule, whole: the document's. Conditions: no more than 4 arguments, 40 nodes in a rule; numbers that a word holds. Conditions: as each lemma states them.
-/
import Derived.Test.YtkcmapimcgppmaaGreatDoorN22
set_option linter.all false
set_option linter.unusedVariables false
set_option linter.unusedSimpArgs false
set_option linter.unnecessarySimpa false
section
namespace Go.Proofs.YtkcmapimcgppmaaGreatDoor
open Go.RowKit
attribute [local simp] ty_p ty_l ty_t kH tDs lvDs Tm.ts finH elemH ac_skip ac_label ac_region ac_seq ac_cond ac_block ac_loop ac_exit ac_ret seqK_n seqK_r seqK_e vo_nil vo_cons blkK loopK callOf vout aout abuiltin aslice ev startSt nmOf St.out putE updo upd contOf freshC K0 asC fillD fieldOf rowD astore aapp srcOf elsOf tb Dc.tk Dc.dp Dc.over Dc.app Dc.ln Dc.ds Dc.sing Dc.cont AV.cont Ds.hd Value.oneCell' retK resOf one1 AV.imp Dc.imp φOf calleeOf AV.isLL AV.list AV.app AV.arg AV.isL AV.ren Dc.ren Dc.lent tmC tmA tsA iA lo? abin AV.nth Dc.own Dc.toks stOf envOf bxOf τOf
attribute [local simp] AV.room amake agC lentAgC Ds.len Ds.dp

theorem k165 (t : Ts) (b : Tm) (hf : t.fits) (hs : t.size ≤ 1000000) (hbf : b.fits) (hbs : b.size ≤ 1000000) : HH 165 [tsA none t, tmL b] (tmL (aboveT 4 t b)) := by
  refine ab Tryz.func165 Tryz.ntmps165 Tryz.results165 rfl (by decide) (by simp) rfl rfl ?_
  simp
  refine ⟨by kernel_rfl, ?_⟩
  refine asks (k217 t hf hs) ?_ ?_ ?_ <;> simp
  refine asks (k167 b hbf hbs) ?_ ?_ ?_ <;> simp
  refine asks (k218 4 t b) ?_ ?_ ?_ <;> simp
  exact ⟨[], by simp⟩
theorem k88 (t : Ts) (b : Tm) (hf : t.fits) (hs : t.size ≤ 1000000) (hbf : b.fits) (hbs : b.size ≤ 1000000) : HH 88 [tmL b, tsA none t] (tmL (aboveT 5 t b)) := by
  refine ab Tryz.func88 Tryz.ntmps88 Tryz.results88 rfl (by decide) (by simp) rfl rfl ?_
  simp
  refine asks (k162 t b hf hs hbf hbs) ?_ ?_ ?_ <;> simp
  exact ⟨[], by simp⟩
theorem k91 (t : Ts) (b : Tm) (hf : t.fits) (hs : t.size ≤ 1000000) (hbf : b.fits) (hbs : b.size ≤ 1000000) : HH 91 [tmL b, tsA none t] (tmL (aboveT 4 t b)) := by
  refine ab Tryz.func91 Tryz.ntmps91 Tryz.results91 rfl (by decide) (by simp) rfl rfl ?_
  simp
  refine asks (k165 t b hf hs hbf hbs) ?_ ?_ ?_ <;> simp
  exact ⟨[], by simp⟩
theorem k221 (t : Ts) (b : Tm) (hf : t.fits) (hs : t.size ≤ 1000000) (hbf : b.fits) (hbs : b.size ≤ 1000000) : HH 221 [tsA none t, tmL b] (tmL (aboveT 4 t b)) := by
  refine ab Tryz.func221 Tryz.ntmps221 Tryz.results221 rfl (by decide) (by simp) rfl rfl ?_
  simp
  refine asks (k226 4 t b hf hs hbf hbs) ?_ ?_ ?_ <;> simp
  exact ⟨[], by simp⟩
theorem ts_fits {a : Tm} (h : a.fits) : a.ts.fits := ⟨h.1, h.2, trivial⟩
theorem k171 (a b : Tm) (hf : a.fits) (hs : a.size ≤ 900000) (hbf : b.fits) (hbs : b.size ≤ 1000000) : HH 171 [tmL a, tmL b] (tmL (aboveT 5 a.ts b)) := by
  have q := k196 a.ts b (ts_fits hf) (by rw [ts_size]; omega) hbf hbs
  refine ab Tryz.func171 Tryz.ntmps171 Tryz.results171 rfl (by decide) (by simp) rfl rfl ?_
  simp
  refine asks q ?_ ?_ ?_ <;> simp
  exact ⟨[], by simp⟩
theorem k174 (a b : Tm) (hf : a.fits) (hs : a.size ≤ 900000) (hbf : b.fits) (hbs : b.size ≤ 1000000) : HH 174 [tmL a, tmL b] (tmL (aboveT 4 a.ts b)) := by
  have q := k221 a.ts b (ts_fits hf) (by rw [ts_size]; omega) hbf hbs
  refine ab Tryz.func174 Tryz.ntmps174 Tryz.results174 rfl (by decide) (by simp) rfl rfl ?_
  simp
  refine asks q ?_ ?_ ?_ <;> simp
  exact ⟨[], by simp⟩
theorem k176 (f x : Tm) (hf : f.fits) (hs : f.size ≤ 1000000) (hx : x.fits) (hxs : x.size ≤ 900000) : HH 176 [tmL f, tmL x] (tmL (appsT f x.ts)) := by
  have q := k179 f x.ts hf hs (ts_fits hx) (by rw [ts_size]; omega)
  refine ab Tryz.func176 Tryz.ntmps176 Tryz.results176 rfl (by decide) (by simp) rfl rfl ?_
  simp
  refine asks q ?_ ?_ ?_ <;> simp
  exact ⟨[], by simp⟩
/-- .. and at a term. -/
def atT (d : Dl) (num far : Int) (x : Tm) : Tm := appsT (constT d num far) x.ts
theorem atT_fits (d : Dl) (num far : Int) (x : Tm) (hl : d.lv ≤ 1000) (hn : fW num) (hx : x.fits) : (atT d num far x).fits := appsT_fits _ _ (constT_fits d num far hl hn) (ts_fits hx)
theorem atT_size (d : Dl) (num far : Int) (x : Tm) (hl : d.lv ≤ 1000) : (atT d num far x).size ≤ 2002 + 2 * d.p.size + 2 * x.size := by
  have h1 := appsT_size x.ts (constT d num far)
  have h2 := constT_size d num far hl
  rw [ts_size] at h1
  unfold atT
  omega
theorem k172 (d : Dl) (num far : Int) (x : Tm) (hl : d.lv ≤ 1000) (hp : d.p.size ≤ 100000) (hn : fW num) (hx : x.fits) (hxs : x.size ≤ 300000) : HH 172 [dlL d, iA num, iA far, tmL x] (tmL (atT d num far x)) := by
  have c2 := constT_size d num far hl
  have q1 := k99 d num far hl hp hn
  have q2 := k176 (constT d num far) x (constT_fits d num far hl hn) (by omega) hx (by omega)
  refine ab Tryz.func172 Tryz.ntmps172 Tryz.results172 rfl (by decide) (by simp) rfl rfl ?_
  simp [dlL, dlC]
  refine ⟨by kernel_rfl, ?_⟩
  refine asks q1 ?_ ?_ ?_ <;> simp [dlL, dlC]
  refine asks q2 ?_ ?_ ?_ <;> simp [atT]
  exact ⟨[], by simp⟩
/-- A block at work. -/
def bkC (d : Dl) (l : List Rl) (base : Int) : Dc := (dlC d).app (.row none 3 65 (rulesDs l) (.lit (.int .i64 base) .nil))
theorem wrapW (n : Int) : fW (IntKind.i64.wrap n) := by unfold fW; rw [IntKind.wrap_i64]; omega
theorem k90 (d : Dl) (l : List Rl) (base n far : Int) (x : Tm) (hl : d.lv ≤ 1000) (hp : d.p.size ≤ 100000) (hx : x.fits) (hxs : x.size ≤ 300000) : HH 90 [.agg (bkC d l base), iA n, iA far, tmL x] (tmL (atT d (IntKind.i64.wrap (base + n)) far x)) := by
  have hn := wrapW (base + n)
  generalize hN : IntKind.i64.wrap (base + n) = num at *
  have c2 := constT_size d num far hl
  have q1 := k98 d num far hl hp hn
  have q2 := k95 (constT d num far) x.ts (constT_fits d num far hl hn) (by omega) (ts_fits hx) (by rw [ts_size]; omega)
  refine ab Tryz.func90 Tryz.ntmps90 Tryz.results90 rfl (by decide) (by simp) rfl rfl ?_
  simp [bkC, dlC, hN]
  refine ⟨by kernel_rfl, ?_⟩
  refine asks q1 ?_ ?_ ?_ <;> simp [dlL, dlC]
  refine asks q2 ?_ ?_ ?_ <;> simp [atT]
  exact ⟨[], by simp⟩
def vT (n : Int) : Tm := ⟨⟨1, n, 0, []⟩, .nil⟩
def indexT (d : Dl) (base far : Int) : Tm := ⟨kH 12, .cons (finH d.m.length) .nil (atT d base (IntKind.i64.wrap (far + 1)) (vT 0)).ts⟩
def shapeT (d : Dl) (base far : Int) : Tm := ⟨kH 12, .cons (finH d.c.length) .nil (atT d (IntKind.i64.wrap (base + 1)) (IntKind.i64.wrap (far + 1)) (vT 0)).ts⟩
theorem vT_fits {n : Int} (h : 0 ≤ n ∧ n ≤ 1000000000) : (vT n).fits := ⟨num_fits (by decide) h (by decide), trivial⟩
theorem k100 (d : Dl) (base far : Int) (hl : d.lv ≤ 1000) (hp : d.p.size ≤ 100000) (hn : fW base) (hm : d.m.length ≤ 100000) : HH 100 [dlL d, iA base, iA far] (tmL (indexT d base far)) := by
  generalize hF : IntKind.i64.wrap (far + 1) = far1
  have c2 := constT_size d base far1 hl
  have q1 := k98 d base far1 hl hp hn
  have q2 := k95 (constT d base far1) (vT 0).ts (constT_fits d base far1 hl hn) (by omega) (ts_fits (vT_fits (by decide))) (by decide)
  have a2 := atT_size d base far1 (vT 0) hl
  have q3 := g59 12 (.cons (finH d.m.length) .nil (atT d base far1 (vT 0)).ts) (by decide) ⟨num_fits (by decide) (by omega) (by decide), trivial, ts_fits (atT_fits d base far1 (vT 0) hl hn (vT_fits (by decide)))⟩ (by have e : (vT 0).size = 0 := rfl; rw [e] at a2; simp only [Ts.size, lvSize, finH, ts_size]; omega)
  refine ab Tryz.func100 Tryz.ntmps100 Tryz.results100 rfl (by decide) (by simp) rfl rfl ?_
  simp [dlL, dlC, rowsDs_len', hF]
  refine ⟨by kernel_rfl, ?_⟩
  refine asks (g57 d.m.length) ?_ ?_ ?_ <;> simp
  refine asks q1 ?_ ?_ ?_ <;> simp [dlL, dlC, hF]
  refine asks (g92 0) ?_ ?_ ?_ <;> simp
  refine asks q2 ?_ ?_ ?_ <;> simp [vT]
  refine asks q3 ?_ ?_ ?_ <;> simp [atT, vT, indexT, hF]
  exact ⟨[], by simp⟩
theorem k101 (d : Dl) (base far : Int) (hl : d.lv ≤ 1000) (hp : d.p.size ≤ 100000) (hn : fW base) : HH 101 [dlL d, iA base, iA far] (tmL (indexT d base far)) := by
  generalize hF : IntKind.i64.wrap (far + 1) = far1
  have q1 := k172 d base far1 (vT 0) hl hp hn (vT_fits (by decide)) (by decide)
  have q2 := g64 12 ⟨finH d.m.length, .nil⟩ (atT d base far1 (vT 0))
  have e0 : indexT d base far = ⟨kH 12, .cons (finH d.m.length) .nil (atT d base far1 (vT 0)).ts⟩ := by rw [indexT, hF]
  rw [e0]
  clear e0
  generalize atT d base far1 (vT 0) = A at *
  refine ab Tryz.func101 Tryz.ntmps101 Tryz.results101 rfl (by decide) (by simp) rfl rfl ?_
  simp [dlL, dlC, rowsDs_len', hF]
  refine ⟨by kernel_rfl, ?_⟩
  refine asks (g62 d.m.length) ?_ ?_ ?_ <;> simp
  refine asks (g175 0) ?_ ?_ ?_ <;> simp
  refine asks q1 ?_ ?_ ?_ <;> simp [dlL, dlC, vT, hF]
  refine asks q2 ?_ ?_ ?_ <;> simp
  exact ⟨[], by simp⟩
theorem k93 (d : Dl) (base far : Int) (hl : d.lv ≤ 1000) (hp : d.p.size ≤ 100000) (hm : d.c.length ≤ 100000) : HH 93 [dlL d, iA base, iA far] (tmL (shapeT d base far)) := by
  have hn := wrapW (base + 1)
  generalize hF : IntKind.i64.wrap (far + 1) = far1
  generalize hB : IntKind.i64.wrap (base + 1) = base1 at *
  have c2 := constT_size d base1 far1 hl
  have d6 : d.c.length * 6 / 6 = d.c.length := by omega
  have q1 := k98 d base1 far1 hl hp hn
  have q2 := k95 (constT d base1 far1) (vT 0).ts (constT_fits d base1 far1 hl hn) (by omega) (ts_fits (vT_fits (by decide))) (by decide)
  have a2 := atT_size d base1 far1 (vT 0) hl
  have q3 := g59 12 (.cons (finH d.c.length) .nil (atT d base1 far1 (vT 0)).ts) (by decide) ⟨num_fits (by decide) (by omega) (by decide), trivial, ts_fits (atT_fits d base1 far1 (vT 0) hl hn (vT_fits (by decide)))⟩ (by have e : (vT 0).size = 0 := rfl; rw [e] at a2; simp only [Ts.size, lvSize, finH, ts_size]; omega)
  refine ab Tryz.func93 Tryz.ntmps93 Tryz.results93 rfl (by decide) (by simp) rfl rfl ?_
  simp [dlL, dlC, ctDs_len, d6, hF, hB]
  refine ⟨by kernel_rfl, ?_⟩
  refine asks (g57 d.c.length) ?_ ?_ ?_ <;> simp
  refine asks q1 ?_ ?_ ?_ <;> simp [dlL, dlC, hF, hB]
  refine asks (g92 0) ?_ ?_ ?_ <;> simp
  refine asks q2 ?_ ?_ ?_ <;> simp [vT]
  refine asks q3 ?_ ?_ ?_ <;> simp [atT, vT, shapeT, hF, hB]
  exact ⟨[], by simp⟩
theorem k102 (d : Dl) (base far : Int) (hl : d.lv ≤ 1000) (hp : d.p.size ≤ 100000) (hm : d.c.length ≤ 100000) : HH 102 [dlL d, iA base, iA far] (tmL (shapeT d base far)) := by
  have hn := wrapW (base + 1)
  have d6 : d.c.length * 6 / 6 = d.c.length := by omega
  generalize hF : IntKind.i64.wrap (far + 1) = far1
  generalize hB : IntKind.i64.wrap (base + 1) = base1 at *
  have q1 := k172 d base1 far1 (vT 0) hl hp hn (vT_fits (by decide)) (by decide)
  have q2 := g64 12 ⟨finH d.c.length, .nil⟩ (atT d base1 far1 (vT 0))
  have e0 : shapeT d base far = ⟨kH 12, .cons (finH d.c.length) .nil (atT d base1 far1 (vT 0)).ts⟩ := by rw [shapeT, hF, hB]
  rw [e0]
  clear e0
  generalize atT d base1 far1 (vT 0) = A at *
  refine ab Tryz.func102 Tryz.ntmps102 Tryz.results102 rfl (by decide) (by simp) rfl rfl ?_
  simp [dlL, dlC, ctDs_len, d6, hF, hB]
  refine ⟨by kernel_rfl, ?_⟩
  refine asks (g62 d.c.length) ?_ ?_ ?_ <;> simp
  refine asks (g175 0) ?_ ?_ ?_ <;> simp
  refine asks q1 ?_ ?_ ?_ <;> simp [dlL, dlC, vT, hF, hB]
  refine asks q2 ?_ ?_ ?_ <;> simp
  exact ⟨[], by simp⟩
end Go.Proofs.YtkcmapimcgppmaaGreatDoor
end
section
namespace Go.Proofs.YtkcmapimcgppmaaGreatDoor
open Go.RowKit

theorem hd_wrap {h : Hd} (n : Int) (hf : h.fits) : Hd.fits { h with n := IntKind.i64.wrap n } := ⟨hf.1, wrapW n, hf.2.2⟩
theorem node_fits {y : Ts} {h : Hd} {d : Nat} (hy : y.fits) (hf : h.fits) : (∀ u, putNode y h d = .inl u → u.fits) ∧ ∀ h', putNode y h d = .inr h' → h'.fits := by
  refine ⟨fun u hp => ?_, fun h' hp => ?_⟩
  · obtain ⟨-, c1, c2, rfl⟩ := put_inl hp
    exact lift_fits _ _ (Ts.fits_hd hy (by omega))
  · unfold putNode at hp
    split at hp
    · split at hp
      · cases hp
      · cases hp; exact hd_wrap _ hf
    · cases hp; exact hf
theorem putR_fits {y : Ts} (hy : y.fits) : ∀ (x : Ts) (pk : Int) (i d : Nat), x.fits → (putR y pk i d x).fits
  | .nil, _, _, _, _ => trivial
  | .cons h x r, pk, i, d, hf => by
    have hn := node_fits (d := deeper pk i d) hy hf.1
    have ir := putR_fits hy r pk (i + 1) d hf.2.2
    have ix := putR_fits hy x h.k 0 (deeper pk i d) hf.2.1
    simp only [putR]
    cases hp : putNode y h (deeper pk i d) with
    | inl u => exact ⟨(hn.1 u hp).1, (hn.1 u hp).2, ir⟩
    | inr h' => exact ⟨hn.2 h' hp, ix, ir⟩
theorem putAt_fits {y : Ts} (hy : y.fits) (t : Tm) (d : Nat) (hf : t.fits) : (putAt y d t).fits := by
  have hn := node_fits (d := d) hy hf.1
  simp only [putAt]
  cases hp : putNode y t.h d with
  | inl u => exact hn.1 u hp
  | inr h' => exact ⟨hn.2 h' hp, putR_fits hy _ _ _ _ hf.2⟩
theorem inner_fits : ∀ (m : Nat) (t : Tm), deepT m t → t.fits → (inner m t).fits
  | 0, _, _, h => h
  | m + 1, ⟨h, x⟩, ⟨_, h2, h3⟩, hf => by
    match x, h2, h3, hf with
    | .cons a p (.cons b q .nil), _, h3, hf => exact inner_fits m ⟨b, q⟩ h3 ⟨hf.2.2.2.1, hf.2.2.2.2.1⟩
theorem moved_fits (g : List Ag) (v : Ts) (far : Int) (i : Nat) (row : Ts) (t : Tm) (hv : v.fits) (hr : row.fits) (ht : t.fits) : (movedT g v far i row t).fits :=
  inner_fits _ _ (deep_put _ _ _ _ (deep_lift far i _ _ 0 (deep_above row t))) (putAt_fits (by_fits hv _ _) _ _ (lift_fits _ _ (above_fits hr ht)))
theorem fits_snoc {a : Ts} {h : Hd} {x : Ts} (ha : a.fits) (hh : h.fits) (hx : x.fits) : (a.app (.cons h x .nil)).fits := fits_app ha ⟨hh, hx, trivial⟩
theorem teleT_fits (g : List Ag) (v : Ts) (far : Int) (i : Nat) (hv : v.fits) : ∀ q e : Ts, e.fits → q.fits → (teleT g v far i e q).fits
  | .nil, _, _, _ => trivial
  | .cons h x q, e, he, hq => by
    have h1 := moved_fits g v far i e ⟨h, x⟩ hv he ⟨hq.1, hq.2.1⟩
    exact ⟨h1.1, h1.2, teleT_fits g v far i hv q _ (fits_snoc he hq.1 hq.2.1) hq.2.2⟩
theorem typesT_fits (g : List Ag) : ∀ (l : List Ag) (k n : Nat), agFits l → (typesT g l k n).fits
  | [], _, _, _ => trivial
  | a :: r, k, n, hf => by
    have hr : agFits r := fun b hb => hf b (by simp [hb])
    simp only [typesT]
    split
    · exact typesT_fits g r _ _ hr
    · have h1 := moved_fits g (varsT 0 n) n k .nil a.t (varsT_fits n) trivial (hf a (by simp)).1
      exact ⟨h1.1, h1.2, typesT_fits g r _ _ hr⟩
theorem foldz_fits (k : Int) (z : Hd) (hk : 0 ≤ k ∧ k ≤ 100) (hz : z.fits) : ∀ r : Ts, r.fits → (fold k z r).fits
  | .nil, _ => ⟨hz, trivial⟩
  | .cons h x .nil, hf => ⟨hf.1, hf.2.1⟩
  | .cons h x (.cons h2 x2 r), hf => by
    have := foldz_fits k z hk hz (.cons h2 x2 r) hf.2.2
    rw [fold_step k z h x (.cons h2 x2 r) (by simp [Ts.len])]
    exact ⟨kH_fits hk, hf.1, hf.2.1, this.1, this.2, trivial⟩
theorem tup_fits (r : Ts) (hf : r.fits) : (tup r).fits := foldz_fits 12 (finH 1) (by decide) (num_fits (by decide) (by decide) (by decide)) r hf
theorem partsT_fits : ∀ (n : Nat) (t : Tm), t.fits → (partsT n t).fits
  | 0, _, _ => trivial
  | 1, t, h => ts_fits h
  | n + 2, t, h => ⟨kH_fits (by decide), ts_fits h, partsT_fits (n + 1) ⟨kH 15, t.ts⟩ ⟨kH_fits (by decide), ts_fits h⟩⟩
theorem case_fits {p : Tm} {b : Ts} {x : Tm} (hp : p.fits) (hb : b.fits) (hx : x.fits) (hl : b.len ≤ 1000000000) : (caseT p b x).fits :=
  ⟨num_fits (by decide) (by decide) (by omega), hp.1, hp.2, fits_app hb (ts_fits hx)⟩
theorem aboveK_fits (k : Int) (hk : 0 ≤ k ∧ k ≤ 100) : ∀ {row : Ts} {t : Tm}, row.fits → t.fits → (aboveT k row t).fits
  | .nil, _, _, h => h
  | .cons h x r, t, hr, ht => by
    have ih := aboveK_fits k hk (row := r) hr.2.2 ht
    exact ⟨kH_fits hk, hr.1, hr.2.1, ih.1, ih.2, trivial⟩
theorem aboveK_size (k : Int) : ∀ (row : Ts) (t : Tm), (aboveT k row t).size ≤ 2 * row.size + t.size
  | .nil, t => by simp [aboveT, Ts.size]
  | .cons h x r, t => by
    have ih := aboveK_size k r t
    have e : (aboveT k (.cons h x r) t).size = 1 + lvSize h.l + x.size + (1 + (aboveT k r t).size) := by
      rw [← ts_size]; simp only [aboveT, Tm.size, Ts.size, kH, lvSize]; omega
    rw [e]
    simp only [Ts.size]
    omega
theorem case_size' (p : Tm) (b : Ts) (x : Tm) : (caseT p b x).size = 2 + p.size + b.size + x.size := by
  have := case_size p b x
  rw [ts_size] at this
  omega
theorem tup_size' (r : Ts) : (tup r).size ≤ 2 * r.size := by
  have := tup_size r
  rw [ts_size] at this
  omega
end Go.Proofs.YtkcmapimcgppmaaGreatDoor
end
section
namespace Go.Proofs.YtkcmapimcgppmaaGreatDoor
open Go.RowKit
attribute [local simp] ty_p ty_l ty_t kH tDs lvDs Tm.ts finH elemH ac_skip ac_label ac_region ac_seq ac_cond ac_block ac_loop ac_exit ac_ret seqK_n seqK_r seqK_e vo_nil vo_cons blkK loopK callOf vout aout abuiltin aslice ev startSt nmOf St.out putE updo upd contOf freshC K0 asC fillD fieldOf rowD astore aapp srcOf elsOf tb Dc.tk Dc.dp Dc.over Dc.app Dc.ln Dc.ds Dc.sing Dc.cont AV.cont Ds.hd Value.oneCell' retK resOf one1 AV.imp Dc.imp φOf calleeOf AV.isLL AV.list AV.app AV.arg AV.isL AV.ren Dc.ren Dc.lent tmC tmA tsA iA lo? abin AV.nth Dc.own Dc.toks stOf envOf bxOf τOf
attribute [local simp] AV.room amake agC lentAgC Ds.len Ds.dp

/-- A declaration of the core. -/
structure Cr where
  lv : Int
  t : Tm
  h : Bool
  b : Tm
def crC (c : Cr) (r : Dc) : Dc := .lit (.int .i64 c.lv) (.lit (.int .i64 c.t.h.k) (.lit (.int .i64 c.t.h.n) (.lit (.int .i64 c.t.h.a) (.row none 1 43 (lvDs ty c.t.h.l) (.row none 5 26 (tDs ty c.t.x) (.lit (.bool c.h) (.lit (.int .i64 c.b.h.k) (.lit (.int .i64 c.b.h.n) (.lit (.int .i64 c.b.h.a) (.row none 1 43 (lvDs ty c.b.h.l) (.row none 5 26 (tDs ty c.b.x) r)))))))))))
def crL (c : Cr) : AV := .agg (crC c .nil)
def madeT (d : Dl) (more : Ts) (typ body : Tm) : Cr := ⟨d.lv, aboveT 4 (d.p.app more) typ, true, aboveT 5 (d.p.app more) body⟩
theorem k94 (d : Dl) (l : List Rl) (base : Int) (more : Ts) (typ body : Tm) (hp : d.p.fits) (hps : d.p.size ≤ 100000) (hm : more.fits) (hms : more.size ≤ 100000) (ht : typ.fits) (hts : typ.size ≤ 1000000) (hb : body.fits) (hbs : body.size ≤ 1000000) :
    HH 94 [.agg (bkC d l base), tmL typ, tmL body, tsA none more] (crL (madeT d more typ body)) := by
  have e0 : catT [d.p, more] = d.p.app more := by simp [catT, Ts.app_nil]
  have hl := len_le_size d.p
  have hl2 := len_le_size more
  have q0 := k166 [d.p, more] (by simp) (by rw [e0, Ts.app_len]; omega)
  rw [e0] at q0
  have hs : (d.p.app more).size ≤ 1000000 := by rw [size_app]; omega
  have q1 := k91 (d.p.app more) typ (fits_app hp hm) hs ht hts
  have q2 := k88 (d.p.app more) body (fits_app hp hm) hs hb hbs
  refine ab Tryz.func94 Tryz.ntmps94 Tryz.results94 rfl (by decide) (by simp) rfl rfl ?_
  simp [bkC, dlC]
  refine asks q0 ?_ ?_ ?_ <;> simp [rowsDs]
  refine ⟨by kernel_rfl, ?_⟩
  refine asks q1 ?_ ?_ ?_ <;> simp
  refine asks q2 ?_ ?_ ?_ <;> simp
  exact ⟨[], by simp [crL, crC, madeT]⟩
theorem k177 (d : Dl) (more : Ts) (typ body : Tm) (hp : d.p.fits) (hps : d.p.size ≤ 100000) (hm : more.fits) (hms : more.size ≤ 100000) (ht : typ.fits) (hts : typ.size ≤ 1000000) (hb : body.fits) (hbs : body.size ≤ 1000000) :
    HH 177 [dlL d, tsA none more, tmL typ, tmL body] (crL (madeT d more typ body)) := by
  have hl := len_le_size d.p
  have hl2 := len_le_size more
  have hs : (d.p.app more).size ≤ 1000000 := by rw [size_app]; omega
  have q1 := k221 (d.p.app more) typ (fits_app hp hm) hs ht hts
  have q2 := k196 (d.p.app more) body (fits_app hp hm) hs hb hbs
  have eA := tDs_app ty d.p more
  refine ab Tryz.func177 Tryz.ntmps177 Tryz.results177 rfl (by decide) (by simp) rfl rfl ?_
  simp [dlL, dlC]
  refine ⟨by rw [tDs_len]; omega, by rw [tDs_len, tDs_len]; omega, by kernel_rfl, ?_⟩
  refine asks q1 ?_ ?_ ?_ <;> simp [eA, Ds.app_nil]
  refine asks q2 ?_ ?_ ?_ <;> simp [eA, Ds.app_nil]
  exact ⟨[], by simp [crL, crC, madeT]⟩
abbrev fv82 : Value := .func (.func 82) #[] #[]
@[simp] theorem calleeOf_82 : calleeOf (.v (.func (.func 82) #[] #[])) = some (82, .nil, .nil) := rfl
/-- A row's tuple, one binder further in. -/
def liftTup (t : Ts) : Tm := tup (liftsT 1 0 t)
theorem k82 (t : Ts) (hf : t.fits) (hs : t.size ≤ 1000000) : HH 82 [tsA none t] (tmL (liftTup t)) := by
  refine ab Tryz.func82 Tryz.ntmps82 Tryz.results82 rfl (by decide) (by simp) rfl rfl ?_
  simp
  refine asks (k83 t hf hs) ?_ ?_ ?_ <;> simp
  refine asks (h12 (liftsT 1 0 t) (liftsT_fits 1 t 0 hf) (by rw [liftsT_size]; exact hs)) ?_ ?_ ?_ <;> simp [liftTup]
  exact ⟨[], by simp⟩
theorem k85 (t : Ts) (hf : t.fits) (hs : t.size ≤ 1000000) : HH 85 [.agg (.row none 5 26 (tDs ty t) .nil), .el (.lit fv82 .nil)] (tmL (liftTup t)) := by
  refine ab Tryz.func85 Tryz.ntmps85 Tryz.results85 rfl (by decide) (by simp) rfl rfl ?_
  simp
  refine asks (k82 t hf hs) ?_ ?_ ?_ <;> simp
  exact ⟨[], by simp⟩
theorem k87 (r : Rl) (hl : r.g.length ≤ 500) (hs : szAg r.g ≤ 1000) (hf : agFits r.g) : HH 87 [rlL r, .el (.lit fv82 .nil)] (tmL (liftTup (typesT r.g r.g 0 0))) := by
  have e1 := typesT_size r.g r.g.length r.g 0 0 (by omega)
  have e2 : szAg r.g * (r.g.length + 1) ≤ 1000 * 501 := Nat.mul_le_mul (by omega) (by omega)
  have q := k82 (typesT r.g r.g 0 0) (typesT_fits r.g r.g 0 0 hf) (by omega)
  refine ab Tryz.func87 Tryz.ntmps87 Tryz.results87 rfl (by decide) (by simp) rfl rfl ?_
  simp [rlL, rlC]
  refine ⟨by kernel_rfl, ?_⟩
  refine asks (k37 r hl (by omega) hf) ?_ ?_ ?_ <;> simp [rlL, rlC]
  refine asks q ?_ ?_ ?_ <;> simp
  exact ⟨[], by simp⟩
/-- Of members, of rules. -/
def ownT : List Ts → Ts
  | [] => .nil
  | t :: r => .cons (liftTup t).h (liftTup t).x (ownT r)
def argsT : List Rl → Ts
  | [] => .nil
  | r :: l => .cons (liftTup (typesT r.g r.g 0 0)).h (liftTup (typesT r.g r.g 0 0)).x (argsT l)
theorem ownT_app : ∀ a b : List Ts, ownT (a ++ b) = (ownT a).app (ownT b)
  | [], _ => rfl
  | t :: a, b => by simp only [List.cons_append, ownT, Ts.app, ownT_app a b]
theorem ownT_len : ∀ a : List Ts, (ownT a).len = a.length
  | [] => rfl
  | t :: a => by simp only [ownT, Ts.len, ownT_len a, List.length_cons]
theorem argsT_app : ∀ a b : List Rl, argsT (a ++ b) = (argsT a).app (argsT b)
  | [], _ => rfl
  | t :: a, b => by simp only [List.cons_append, argsT, Ts.app, argsT_app a b]
theorem argsT_len : ∀ a : List Rl, (argsT a).len = a.length
  | [] => rfl
  | t :: a => by simp only [argsT, Ts.len, argsT_len a, List.length_cons]
theorem rowsDs_app (a b : List Ts) : rowsDs (a ++ b) = (rowsDs a).app (rowsDs b) := by
  induction a with
  | nil => rfl
  | cons x r ih => simp [rowsDs, Ds.app, ih]
theorem rulesDs_app (a b : List Rl) : rulesDs (a ++ b) = (rulesDs a).app (rulesDs b) := by
  induction a with
  | nil => rfl
  | cons x r ih => simp [rulesDs, Ds.app, ih]
theorem dp_rows {l a b : List Ts} (h : a ++ b = l) : (rowsDs l).dp a.length = rowsDs b := by
  rw [← h, rowsDs_app, ← rowsDs_len' a, Ds.dp_app]
theorem dp_rules {l a b : List Rl} (h : a ++ b = l) : (rulesDs l).dp (a.length * 3) = rulesDs b := by
  rw [← h, rulesDs_app, ← rulesDs_len a, Ds.dp_app]
def membersA (l : List Ts) : AV := .c (.row none 1 80 (rowsDs l) .nil)
abbrev eachA (f : Nat) : AV := .fn (.func f) .nil (.cons (.el (.lit fv82 .nil)) .nil)
def st84 (l a : List Ts) : St := stOf [(1, eachA 85), (4, .c (.blk 19 (a.length + 1) 5 26 (.seg none (tDs ty (ownT a)) .nil) .nil)), (7, membersA l), (8, iA l.length), (9, iA a.length)] [] [(19, a.length + 1)]
set_option maxRecDepth 10000 in
theorem k84 (l : List Ts) (hl : l.length ≤ 1000) (hf : ∀ t ∈ l, t.fits ∧ t.size ≤ 1000000) : HH 84 [membersA l, eachA 85] (tsA none (ownT l)) := by
  refine ab Tryz.func84 Tryz.ntmps84 Tryz.results84 rfl (by decide) (by simp) rfl rfl ?_
  simp [membersA, rowsDs_len']
  refine lp (α := { q : List Ts × List Ts // q.1 ++ q.2 = l }) (fun q => st84 l q.1.1) (fun q => q.1.2.length) ⟨([], l), rfl⟩ ?_ ?_
  · refine le_of [((19, 0), [(19, 0)])] ?_ ?_ ?_ <;> simp [AV.ok, Dc.ok, ownT, membersA]
  · rintro ⟨⟨a, q⟩, hq⟩
    simp only at hq
    cases q with
    | nil =>
      have e : a = l := by rw [← hq]; simp
      subst e
      simp [st84, Ds.app_nil]
      exact ⟨[], by simp⟩
    | cons t q =>
      have h1 : a.length < l.length := by rw [← hq]; simp
      have h2 := dp_rows hq
      obtain ⟨h3, h4⟩ := hf t (by rw [← hq]; simp)
      have hw : IntKind.i64.wrap ((a.length : Int) + 1) = a.length + 1 := by rw [IntKind.wrap_i64]; omega
      have e1 : ownT (a ++ [t]) = (ownT a).app (.cons (liftTup t).h (liftTup t).x .nil) := by rw [ownT_app]; rfl
      have q1 := k85 t h3 h4
      generalize liftTup t = P at *
      simp [st84, membersA, h1, h2, rowsDs]
      refine ⟨by rw [rowsDs_len']; omega, ?_⟩
      refine asks q1 ?_ ?_ ?_ <;> simp
      refine ⟨by rw [tDs_len, ownT_len]; omega, a ++ [t], q, by simp, by rw [List.append_assoc]; exact hq, ?_⟩
      refine le_of [((19, 0), [(19, 0)])] ?_ ?_ ?_ <;> simp [AV.ok, Dc.ok, hw, e1]
      rw [tDs_app]; rfl
def st86 (l a : List Rl) : St := stOf [(1, eachA 87), (4, .c (.blk 19 (a.length + 1) 5 26 (.seg none (tDs ty (argsT a)) .nil) .nil)), (7, rulesA l), (8, iA l.length), (9, iA a.length)] [] [(19, a.length + 1)]
set_option maxRecDepth 10000 in
theorem k86 (l : List Rl) (hl : l.length ≤ 1000) (hf : ∀ r ∈ l, r.g.length ≤ 500 ∧ szAg r.g ≤ 1000 ∧ agFits r.g) : HH 86 [rulesA l, eachA 87] (tsA none (argsT l)) := by
  have d0 : l.length * 3 / 3 = l.length := by omega
  refine ab Tryz.func86 Tryz.ntmps86 Tryz.results86 rfl (by decide) (by simp) rfl rfl ?_
  simp [rulesA, rulesDs_len, d0]
  refine lp (α := { q : List Rl × List Rl // q.1 ++ q.2 = l }) (fun q => st86 l q.1.1) (fun q => q.1.2.length) ⟨([], l), rfl⟩ ?_ ?_
  · refine le_of [((19, 0), [(19, 0)])] ?_ ?_ ?_ <;> simp [AV.ok, Dc.ok, argsT, rulesA]
  · rintro ⟨⟨a, q⟩, hq⟩
    simp only at hq
    cases q with
    | nil =>
      have e : a = l := by rw [← hq]; simp
      subst e
      simp [st86, Ds.app_nil]
      exact ⟨[], by simp⟩
    | cons t q =>
      have h1 : a.length < l.length := by rw [← hq]; simp
      have h2 := dp_rules hq
      obtain ⟨h3, h4, h5⟩ := hf t (by rw [← hq]; simp)
      have hw : IntKind.i64.wrap ((a.length : Int) + 1) = a.length + 1 := by rw [IntKind.wrap_i64]; omega
      have e1 : argsT (a ++ [t]) = (argsT a).app (.cons (liftTup (typesT t.g t.g 0 0)).h (liftTup (typesT t.g t.g 0 0)).x .nil) := by rw [argsT_app]; rfl
      have q1 := k87 t h3 h4 h5
      generalize liftTup (typesT t.g t.g 0 0) = P at *
      simp [st86, rulesA, h1, h2, rulesDs]
      refine ⟨by rw [rulesDs_len]; omega, ?_⟩
      refine asks q1 ?_ ?_ ?_ <;> simp [rlL, rlC]
      refine ⟨by rw [tDs_len, argsT_len]; omega, a ++ [t], q, by simp, by rw [List.append_assoc]; exact hq, ?_⟩
      refine le_of [((19, 0), [(19, 0)])] ?_ ?_ ?_ <;> simp [AV.ok, Dc.ok, hw, e1]
      rw [tDs_app]; rfl
end Go.Proofs.YtkcmapimcgppmaaGreatDoor
end
section
namespace Go.Proofs.YtkcmapimcgppmaaGreatDoor
open Go.RowKit
attribute [local simp] ty_p ty_l ty_t kH tDs lvDs Tm.ts finH elemH ac_skip ac_label ac_region ac_seq ac_cond ac_block ac_loop ac_exit ac_ret seqK_n seqK_r seqK_e vo_nil vo_cons blkK loopK callOf vout aout abuiltin aslice ev startSt nmOf St.out putE updo upd contOf freshC K0 asC fillD fieldOf rowD astore aapp srcOf elsOf tb Dc.tk Dc.dp Dc.over Dc.app Dc.ln Dc.ds Dc.sing Dc.cont AV.cont Ds.hd Value.oneCell' retK resOf one1 AV.imp Dc.imp φOf calleeOf AV.isLL AV.list AV.app AV.arg AV.isL AV.ren Dc.ren Dc.lent tmC tmA tsA iA lo? abin AV.nth Dc.own Dc.toks stOf envOf bxOf τOf
attribute [local simp] AV.room amake agC lentAgC Ds.len Ds.dp

theorem recsI_mem : ∀ (l : List Ag) (k0 : Nat) (i : Int), i ∈ recsI l k0 → ∃ k : Nat, i = k ∧ k0 ≤ k ∧ k < k0 + l.length
  | [], _, _, h => by simp [recsI] at h
  | a :: r, k0, i, h => by
    unfold recsI at h
    split at h
    · rcases List.mem_cons.1 h with rfl | h
      · exact ⟨k0, rfl, Nat.le_refl _, by simp⟩
      · obtain ⟨k, h1, h2, h3⟩ := recsI_mem r (k0 + 1) i h
        exact ⟨k, h1, by omega, by simp; omega⟩
    · obtain ⟨k, h1, h2, h3⟩ := recsI_mem r (k0 + 1) i h
      exact ⟨k, h1, by omega, by simp; omega⟩
/-- A rule that is small. -/
structure Small (r : Rl) : Prop where
  len : r.g.length ≤ 4
  sz : szAg r.g ≤ 40
  isz : r.i.size ≤ 40
  fit : agFits r.g
  ifit : r.i.fits
def teleI (r : Rl) (v : Ts) (i : Int) : Ts := match r.g[i.toNat]? with
  | some a => teleT r.g v 3 i.toNat .nil a.e
  | none => .nil
def brT (r : Rl) (v : Ts) (i : Int) : Tm := tup (teleI r v i)
def brsT (r : Rl) (v : Ts) : List Int → Ts
  | [] => .nil
  | i :: l => .cons (brT r v i).h (brT r v i).x (brsT r v l)
theorem brsT_app (r : Rl) (v : Ts) : ∀ a b : List Int, brsT r v (a ++ b) = (brsT r v a).app (brsT r v b)
  | [], _ => rfl
  | t :: a, b => by simp only [List.cons_append, brsT, Ts.app, brsT_app r v a b]
theorem brsT_len (r : Rl) (v : Ts) : ∀ a : List Int, (brsT r v a).len = a.length
  | [] => rfl
  | t :: a => by simp only [brsT, Ts.len, brsT_len r v a, List.length_cons]
theorem teleI_at {r : Rl} {v : Ts} {k : Nat} (hk : k < r.g.length) : teleI r v k = teleT r.g v 3 k .nil r.g[k].e := by
  have : r.g[(k : Int).toNat]? = some r.g[k] := by simp [hk]
  simp only [teleI, this]
  simp
theorem teleI_fits (r : Rl) (v : Ts) (i : Int) (hv : v.fits) (hf : agFits r.g) : (teleI r v i).fits := by
  unfold teleI
  split
  · rename_i a ha
    exact teleT_fits _ _ _ _ hv _ _ trivial (hf a (List.mem_of_getElem? ha)).2.1
  · trivial
theorem teleI_size (r : Rl) (v : Ts) (i : Int) : (teleI r v i).size ≤ szAg r.g * (v.size + 1) := by
  unfold teleI
  split
  · rename_i a ha
    obtain ⟨hk, rfl⟩ := List.getElem?_eq_some_iff.1 ha
    have h1 := teleT_size r.g v 3 i.toNat r.g[i.toNat].e .nil
    have h2 := szAg_at hk
    exact Nat.le_trans h1 (Nat.mul_le_mul_right _ (by omega))
  · simp [Ts.size]
theorem brsT_fits (r : Rl) (v : Ts) (hv : v.fits) (hf : agFits r.g) : ∀ l : List Int, (brsT r v l).fits
  | [] => trivial
  | i :: l => ⟨(tup_fits _ (teleI_fits r v i hv hf)).1, (tup_fits _ (teleI_fits r v i hv hf)).2, brsT_fits r v hv hf l⟩
theorem brsT_size (r : Rl) (v : Ts) : ∀ l : List Int, (brsT r v l).size ≤ l.length * (2 * (szAg r.g * (v.size + 1)) + 1)
  | [] => by simp [brsT, Ts.size]
  | i :: l => by
    have h1 := brsT_size r v l
    have h2 := tup_size' (teleI r v i)
    have h3 := teleI_size r v i
    have h4 : Tm.size ⟨(brT r v i).h, (brT r v i).x⟩ = (tup (teleI r v i)).size := rfl
    simp only [brsT]
    rw [cons_size, h4, List.length_cons, Nat.add_mul, Nat.one_mul]
    omega
abbrev plA (r : Rl) (v : Ts) : AV := .fn (.func 164) .nil (.cons (.el (rlC r).ds) (.cons (.el (.row 5 26 (tDs ty v) .nil .nil)) .nil))
theorem k164 (r : Rl) (v : Ts) (i : Int) (hi : i ∈ recsI r.g 0) (hr : Small r) (hv : v.fits) (hvs : v.size ≤ 100) : HH 164 [iA i, .el (rlC r).ds, .el (.row 5 26 (tDs ty v) .nil .nil)] (tmL (brT r v i)) := by
  obtain ⟨k, rfl, -, hk⟩ := recsI_mem _ _ _ hi
  rw [Nat.zero_add] at hk
  have hl := hr.len
  have h1 := hr.sz
  have m1 : k * (v.size + 1) ≤ 4 * 101 := Nat.mul_le_mul (by omega) (by omega)
  have q1 := k38 r v 3 k hk (by omega) (by omega) hr.fit hv (by omega) (by omega)
  rw [← teleI_at hk] at q1
  have h2 := teleI_size r v k
  have h3 : szAg r.g * (v.size + 1) ≤ 40 * 101 := Nat.mul_le_mul (by omega) (by omega)
  have q2 := h12 (teleI r v k) (teleI_fits r v k hv hr.fit) (by omega)
  change HH 12 _ (tmO (brT r v k)) at q2
  generalize brT r v k = B at *
  generalize teleI r v k = T at *
  refine ab Tryz.func164 Tryz.ntmps164 Tryz.results164 rfl (by decide) (by simp) rfl rfl ?_
  simp [rlC]
  refine asks q1 ?_ ?_ ?_ <;> simp [rlL, rlC]
  refine asks q2 ?_ ?_ ?_ <;> simp
  exact ⟨[], by simp⟩
def intsA (l : List Int) : AV := .c (.row none 1 3 (inDs l) .nil)
theorem dp_ints {l a b : List Int} (h : a ++ b = l) : (inDs l).dp a.length = inDs b := by
  rw [← h, inDs_app, ← inDs_len a, Ds.dp_app]
def st163 (r : Rl) (v : Ts) (l a : List Int) : St := stOf [(1, plA r v), (4, .c (.blk 19 (a.length + 1) 5 26 (.seg none (tDs ty (brsT r v a)) .nil) .nil)), (7, intsA l), (8, iA l.length), (9, iA a.length)] [] [(19, a.length + 1)]
set_option maxRecDepth 10000 in
theorem k163 (r : Rl) (v : Ts) (l : List Int) (hl : l.length ≤ 1000) (hm : ∀ i ∈ l, i ∈ recsI r.g 0) (hr : Small r) (hv : v.fits) (hvs : v.size ≤ 100) : HH 163 [intsA l, plA r v] (tsA none (brsT r v l)) := by
  refine ab Tryz.func163 Tryz.ntmps163 Tryz.results163 rfl (by decide) (by simp) rfl rfl ?_
  simp [intsA, inDs_len]
  refine lp (α := { q : List Int × List Int // q.1 ++ q.2 = l }) (fun q => st163 r v l q.1.1) (fun q => q.1.2.length) ⟨([], l), rfl⟩ ?_ ?_
  · refine le_of [((19, 0), [(19, 0)])] ?_ ?_ ?_ <;> simp [AV.ok, Dc.ok, brsT, intsA]
  · rintro ⟨⟨a, q⟩, hq⟩
    simp only at hq
    cases q with
    | nil =>
      have e : a = l := by rw [← hq]; simp
      subst e
      simp [st163, Ds.app_nil]
      exact ⟨[], by simp⟩
    | cons t q =>
      have h1 : a.length < l.length := by rw [← hq]; simp
      have h2 := dp_ints hq
      have h3 := hm t (by rw [← hq]; simp)
      have hw : IntKind.i64.wrap ((a.length : Int) + 1) = a.length + 1 := by rw [IntKind.wrap_i64]; omega
      have e1 : brsT r v (a ++ [t]) = (brsT r v a).app (.cons (brT r v t).h (brT r v t).x .nil) := by rw [brsT_app]; rfl
      have q1 := k164 r v t h3 hr hv hvs
      generalize brT r v t = P at *
      simp [st163, intsA, h1, h2, inDs]
      refine ⟨by rw [inDs_len]; omega, ?_⟩
      refine asks q1 ?_ ?_ ?_ <;> simp
      refine ⟨by rw [tDs_len, brsT_len]; omega, a ++ [t], q, by simp, by rw [List.append_assoc]; exact hq, ?_⟩
      refine le_of [((19, 0), [(19, 0)])] ?_ ?_ ?_ <;> simp [AV.ok, Dc.ok, hw, e1]
      rw [tDs_app]; rfl
theorem k81 (d : Dl) (l : List Rl) (base : Int) (hs : d.s.length ≤ 1000000) : HH 81 [.agg (bkC d l base)] (tmL (sortT d.s)) := by
  refine ab Tryz.func81 Tryz.ntmps81 Tryz.results81 rfl (by decide) (by simp) rfl rfl ?_
  simp [bkC, dlC]
  refine asks (k161 d.s hs) ?_ ?_ ?_ <;> simp [lvA]
  exact ⟨[], by simp⟩
end Go.Proofs.YtkcmapimcgppmaaGreatDoor
end
section
namespace Go.Proofs.YtkcmapimcgppmaaGreatDoor
open Go.RowKit
attribute [local simp] ty_p ty_l ty_t kH tDs lvDs Tm.ts finH elemH ac_skip ac_label ac_region ac_seq ac_cond ac_block ac_loop ac_exit ac_ret seqK_n seqK_r seqK_e vo_nil vo_cons blkK loopK callOf vout aout abuiltin aslice ev startSt nmOf St.out putE updo upd contOf freshC K0 asC fillD fieldOf rowD astore aapp srcOf elsOf tb Dc.tk Dc.dp Dc.over Dc.app Dc.ln Dc.ds Dc.sing Dc.cont AV.cont Ds.hd Value.oneCell' retK resOf one1 AV.imp Dc.imp φOf calleeOf AV.isLL AV.list AV.app AV.arg AV.isL AV.ren Dc.ren Dc.lent tmC tmA tsA iA lo? abin AV.nth Dc.own Dc.toks stOf envOf bxOf τOf
attribute [local simp] AV.room amake agC lentAgC Ds.len Ds.dp

def finT (n : Int) : Tm := ⟨finH n, .nil⟩
theorem finT_fits {n : Int} (h : 0 ≤ n ∧ n ≤ 1000000000) : (finT n).fits := ⟨num_fits (by decide) h (by decide), trivial⟩
theorem sortT_fits {s : Lv} (h : ∀ q ∈ s, (-9223372036854775808 ≤ q.1 ∧ q.1 ≤ 9223372036854775807) ∧ (-9223372036854775808 ≤ q.2 ∧ q.2 ≤ 9223372036854775807)) : (sortT s).fits :=
  ⟨hd_fits (by decide) (by decide) (by decide) (fun p hp q hq => by
    simp only [List.mem_singleton] at hp
    subst hp
    exact h q hq), trivial⟩
theorem sortT_size (s : Lv) : (sortT s).size = 1 + s.length := by simp [sortT, Tm.size, lvSize, Ts.size]
abbrev lvFits (s : Lv) : Prop := ∀ q ∈ s, (-9223372036854775808 ≤ q.1 ∧ q.1 ≤ 9223372036854775807) ∧ (-9223372036854775808 ≤ q.2 ∧ q.2 ≤ 9223372036854775807)
/-- The parts that a rule's plain arguments are. -/
def plainV (r : Rl) : Ts := partsT (r.g.length - (recsI r.g 0).length) (vT 1)
theorem plainV_fits (r : Rl) : (plainV r).fits := partsT_fits _ _ (vT_fits (by decide))
theorem plainV_size {r : Rl} (hr : Small r) : (plainV r).size ≤ 28 := by
  have h1 := parts_size (r.g.length - (recsI r.g 0).length) (vT 1)
  have h2 := hr.len
  have h3 : (vT 1).size = 0 := rfl
  rw [h3] at h1
  have h4 : (r.g.length - (recsI r.g 0).length) * (0 + (r.g.length - (recsI r.g 0).length) + 3) ≤ 4 * (0 + 4 + 3) := Nat.mul_le_mul (by omega) (by omega)
  unfold plainV
  omega
def caseB (s : Lv) (r : Rl) : Tm := caseT (aboveT 5 (finT (recsI r.g 0).length).ts (sortT s)) (brsT r (plainV r) (recsI r.g 0)) (vT 0)
def placesT (s : Lv) (r : Rl) : Tm := if recsI r.g 0 = [] then finT 0 else ⟨kH 12, .cons (finH (recsI r.g 0).length) .nil (caseB s r).ts⟩
theorem brs_size {r : Rl} (hr : Small r) : (brsT r (plainV r) (recsI r.g 0)).size ≤ 10000 := by
  have h1 := brsT_size r (plainV r) (recsI r.g 0)
  have h2 := recsI_len r.g 0
  have h3 := hr.len
  have h4 := plainV_size hr
  have h5 : szAg r.g * ((plainV r).size + 1) ≤ 40 * 29 := Nat.mul_le_mul hr.sz (by omega)
  have h6 : (recsI r.g 0).length * (2 * (szAg r.g * ((plainV r).size + 1)) + 1) ≤ 4 * (2 * (40 * 29) + 1) := Nat.mul_le_mul (by omega) (by omega)
  omega
theorem caseB_size {s : Lv} {r : Rl} (hr : Small r) (hs : s.length ≤ 100) : (caseB s r).size ≤ 11000 := by
  have h1 := brs_size hr
  have h2 := aboveK_size 5 (finT (recsI r.g 0).length).ts (sortT s)
  rw [sortT_size, ts_size] at h2
  have h3 : (finT (recsI r.g 0).length).size = 0 := rfl
  have h4 : (vT 0).size = 0 := rfl
  unfold caseB
  rw [case_size', h4]
  omega
theorem caseB_fits {s : Lv} {r : Rl} (hr : Small r) (hs : lvFits s) : (caseB s r).fits := by
  have h1 := recsI_len r.g 0
  have h2 := hr.len
  exact case_fits (aboveK_fits 5 (by decide) (ts_fits (finT_fits (by omega))) (sortT_fits hs)) (brsT_fits _ _ (plainV_fits r) hr.fit _) (vT_fits (by decide)) (by rw [brsT_len]; omega)
theorem placesT_size {s : Lv} {r : Rl} (hr : Small r) (hs : s.length ≤ 100) : (placesT s r).size ≤ 12000 := by
  unfold placesT
  split
  · decide
  · have := caseB_size hr hs
    show lvSize [] + Ts.size (.cons (finH _) .nil (caseB s r).ts) ≤ 12000
    have h4 : Tm.size ⟨finH (recsI r.g 0).length, .nil⟩ = 0 := rfl
    have h5 : lvSize [] = 0 := rfl
    rw [cons_size, ts_size, h4, h5]
    omega
theorem placesT_fits {s : Lv} {r : Rl} (hr : Small r) (hs : lvFits s) : (placesT s r).fits := by
  unfold placesT
  have h1 := recsI_len r.g 0
  have h2 := hr.len
  split
  · exact finT_fits (by decide)
  · exact ⟨kH_fits (by decide), num_fits (by decide) (by omega) (by decide), trivial, ts_fits (caseB_fits hr hs)⟩
set_option maxRecDepth 10000 in
set_option maxHeartbeats 1000000 in
theorem k89 (d : Dl) (l : List Rl) (base : Int) (r : Rl) (hr : Small r) (hs : d.s.length ≤ 100) (hsf : lvFits d.s) : HH 89 [.agg (bkC d l base), rlL r] (tmL (placesT d.s r)) := by
  have h1 := recsI_len r.g 0
  have h2 := hr.len
  have d9 : r.g.length * 9 / 9 = r.g.length := by omega
  have q46 := k46 r (by omega)
  have q81 := k81 d l base (by omega)
  have c1 := caseB_size hr hs
  have c2 := caseB_fits hr hsf
  have c3 := brs_size hr
  have c4 := brsT_fits r (plainV r) (plainV_fits r) hr.fit (recsI r.g 0)
  have c5 := plainV_size hr
  have q15 := k15 (vT 1) ((r.g.length : Int) - (recsI r.g 0).length) (vT_fits (by decide)) (by decide) (by omega)
  have e15 : ((r.g.length : Int) - (recsI r.g 0).length).toNat = r.g.length - (recsI r.g 0).length := by omega
  rw [e15] at q15
  change HH 15 _ (tsA (some (0, 0)) (plainV r)) at q15
  have w1 : IntKind.i64.wrap ((r.g.length : Int) - (recsI r.g 0).length) = (r.g.length : Int) - (recsI r.g 0).length := by rw [IntKind.wrap_i64]; omega
  have q163 := k163 r (plainV r) (recsI r.g 0) (by omega) (fun i hi => hi) hr (plainV_fits r) (by omega)
  have q88 := k88 (finT (recsI r.g 0).length).ts (sortT d.s) (ts_fits (finT_fits (by omega))) (by rw [ts_size]; have h3 : (finT (recsI r.g 0).length).size = 0 := rfl; omega) (sortT_fits hsf) (by rw [sortT_size]; omega)
  have q14 := g14 (aboveT 5 (finT (recsI r.g 0).length).ts (sortT d.s)) (brsT r (plainV r) (recsI r.g 0)) (vT 0) (aboveK_fits 5 (by decide) (ts_fits (finT_fits (by omega))) (sortT_fits hsf)) c4 (vT_fits (by decide)) (by
    have h2 := aboveK_size 5 (finT (recsI r.g 0).length).ts (sortT d.s)
    rw [sortT_size, ts_size] at h2
    have h3 : (finT (recsI r.g 0).length).size = 0 := rfl
    have h4 : (vT 0).size = 0 := rfl
    omega) (by rw [brsT_len]; omega)
  change HH 14 _ (tmO (caseB d.s r)) at q14
  have q59 := g59 12 (.cons (finH (recsI r.g 0).length) .nil (caseB d.s r).ts) (by decide) ⟨num_fits (by decide) (by omega) (by decide), trivial, ts_fits c2⟩ (by simp only [Ts.size, lvSize, finH, ts_size]; omega)
  refine ab Tryz.func89 Tryz.ntmps89 Tryz.results89 rfl (by decide) (by simp) rfl rfl ?_
  by_cases h0 : recsI r.g 0 = []
  · have e0 : placesT d.s r = finT 0 := by unfold placesT; rw [if_pos h0]
    rw [e0]
    rw [h0] at q46
    simp [bkC, dlC, rlL, rlC]
    refine asks q46 ?_ ?_ ?_ <;> simp [rlL, rlC, inDs]
    refine asks (g57 0) ?_ ?_ ?_ <;> simp [finT]
    exact ⟨[], by simp⟩
  · have e0 : placesT d.s r = ⟨kH 12, .cons (finH (recsI r.g 0).length) .nil (caseB d.s r).ts⟩ := by unfold placesT; rw [if_neg h0]
    have hne : (recsI r.g 0).length ≠ 0 := fun h => h0 (List.eq_nil_of_length_eq_zero h)
    rw [e0]
    clear e0 h0
    generalize caseB d.s r = C at *
    generalize hA : aboveT 5 (finT (recsI r.g 0).length).ts (sortT d.s) = A at *
    generalize hBr : brsT r (plainV r) (recsI r.g 0) = B at *
    generalize plainV r = V at *
    generalize hR : recsI r.g 0 = R at *
    simp [bkC, dlC, rlL, rlC]
    refine asks q46 ?_ ?_ ?_ <;> simp [rlL, rlC, inDs_len, hne]
    refine ⟨by kernel_rfl, ?_⟩
    refine asks (g92 1) ?_ ?_ ?_ <;> simp [agDs_len, d9, inDs_len, w1]
    refine asks q15 ?_ ?_ ?_ <;> simp [vT, inDs_len]
    refine asks (g57 R.length) ?_ ?_ ?_ <;> simp
    refine ⟨by kernel_rfl, ?_⟩
    refine asks q81 ?_ ?_ ?_ <;> simp [bkC, dlC]
    refine asks q88 ?_ ?_ ?_ <;> simp [finT]
    refine asks q163 ?_ ?_ ?_ <;> simp [intsA, rlC]
    · exact ⟨⟨_, _, ⟨rfl, rfl⟩, rfl⟩, ⟨_, _, ⟨rfl, rfl⟩, rfl⟩⟩
    refine asks (g92 0) ?_ ?_ ?_ <;> simp
    refine asks q14 ?_ ?_ ?_ <;> simp [vT]
    refine asks q59 ?_ ?_ ?_ <;> simp [finT]
    exact ⟨[], by simp⟩
end Go.Proofs.YtkcmapimcgppmaaGreatDoor
end
section
namespace Go.Proofs.YtkcmapimcgppmaaGreatDoor
open Go.RowKit
attribute [local simp] ty_p ty_l ty_t kH tDs lvDs Tm.ts finH elemH ac_skip ac_label ac_region ac_seq ac_cond ac_block ac_loop ac_exit ac_ret seqK_n seqK_r seqK_e vo_nil vo_cons blkK loopK callOf vout aout abuiltin aslice ev startSt nmOf St.out putE updo upd contOf freshC K0 asC fillD fieldOf rowD astore aapp srcOf elsOf tb Dc.tk Dc.dp Dc.over Dc.app Dc.ln Dc.ds Dc.sing Dc.cont AV.cont Ds.hd Value.oneCell' retK resOf one1 AV.imp Dc.imp φOf calleeOf AV.isLL AV.list AV.app AV.arg AV.isL AV.ren Dc.ren Dc.lent tmC tmA tsA iA lo? abin AV.nth Dc.own Dc.toks stOf envOf bxOf τOf
attribute [local simp] AV.room amake agC lentAgC Ds.len Ds.dp

theorem k220 (r : Rl) (hl : r.g.length ≤ 1000) : HH 220 [rlL r] (iA ((r.g.length : Int) - (recsI r.g 0).length)) := by
  have h1 := recsI_len r.g 0
  have d9 : r.g.length * 9 / 9 = r.g.length := by omega
  have w1 : IntKind.i64.wrap ((r.g.length : Int) - (recsI r.g 0).length) = (r.g.length : Int) - (recsI r.g 0).length := by rw [IntKind.wrap_i64]; omega
  refine ab Tryz.func220 Tryz.ntmps220 Tryz.results220 rfl (by decide) (by simp) rfl rfl ?_
  simp [rlL, rlC, agDs_len, d9]
  refine ⟨by kernel_rfl, ?_⟩
  refine asks (k47 r (by omega)) ?_ ?_ ?_ <;> simp [rlL, rlC, inDs_len, w1]
  exact ⟨[], by simp⟩
def st173 (d : Dl) (r : Rl) (a : List Int) : St := stOf [(3, .bx 4 0), (4, .bx 5 0), (5, .bx 6 0), (6, intsA (recsI r.g 0)), (7, .c (.blk 39 (a.length + 1) 5 26 (.seg none (tDs ty (brsT r (plainV r) a)) .nil) .nil)), (8, iA a.length)] [(4, 65, rlC r), (5, 26, zC), (6, 26, tmC none none (sortT d.s).h (sortT d.s).x)] [(39, a.length + 1)]
set_option maxRecDepth 10000 in
set_option maxHeartbeats 1000000 in
theorem k173 (d : Dl) (r : Rl) (hr : Small r) (hs : d.s.length ≤ 100) (hsf : lvFits d.s) : HH 173 [dlL d, rlL r] (tmL (placesT d.s r)) := by
  have h1 := recsI_len r.g 0
  have h2 := hr.len
  have d9 : r.g.length * 9 / 9 = r.g.length := by omega
  have q47 := k47 r (by omega)
  have q169 := k169 d.s (by omega)
  refine ab Tryz.func173 Tryz.ntmps173 Tryz.results173 rfl (by decide) (by simp) rfl rfl ?_
  by_cases h0 : recsI r.g 0 = []
  · have e0 : placesT d.s r = finT 0 := by unfold placesT; rw [if_pos h0]
    rw [e0]
    rw [h0] at q47
    simp [dlL, dlC, rlL, rlC]
    refine asks q169 ?_ ?_ ?_ <;> simp [lvA]
    refine asks q47 ?_ ?_ ?_ <;> simp [rlL, rlC, inDs]
    refine asks (g62 0) ?_ ?_ ?_ <;> simp [finT]
    exact ⟨[], by simp⟩
  · have e0 : placesT d.s r = ⟨kH 12, .cons (finH (recsI r.g 0).length) .nil (caseB d.s r).ts⟩ := by unfold placesT; rw [if_neg h0]
    have hne : (recsI r.g 0).length ≠ 0 := fun h => h0 (List.eq_nil_of_length_eq_zero h)
    have c1 := caseB_size hr hs
    have c2 := caseB_fits hr hsf
    have c3 := brs_size hr
    have c4 := brsT_fits r (plainV r) (plainV_fits r) hr.fit (recsI r.g 0)
    have c5 := plainV_size hr
    have c6 := plainV_fits r
    have e15 : ((r.g.length : Int) - (recsI r.g 0).length).toNat = r.g.length - (recsI r.g 0).length := by omega
    have q220 := k220 r (by omega)
    have q21 := g21 (r.g.length - (recsI r.g 0).length) ((r.g.length : Int) - (recsI r.g 0).length) (vT 1) e15 (vT_fits (by decide)) (by omega) (by have : (vT 1).size = 0 := rfl; omega)
    rw [e15] at q21
    change HH 21 _ (tsA none (plainV r)) at q21
    rw [e0]
    clear e0 h0
    simp [dlL, dlC, rlL, rlC]
    refine asks q169 ?_ ?_ ?_ <;> simp [lvA]
    refine asks q47 ?_ ?_ ?_ <;> simp [rlL, rlC, inDs_len, hne]
    refine lp (α := { q : List Int × List Int // q.1 ++ q.2 = recsI r.g 0 }) (fun q => st173 d r q.1.1) (fun q => q.1.2.length) ⟨([], recsI r.g 0), rfl⟩ ?_ ?_
    · refine le_of [((39, 0), [(39, 0)])] ?_ ?_ ?_ <;> simp [AV.ok, Dc.ok, brsT, intsA, rlC]
    · rintro ⟨⟨a, q⟩, hq⟩
      simp only at hq
      cases q with
      | nil =>
        have e : a = recsI r.g 0 := by rw [← hq]; simp
        subst e
        have q171 := k171 (finT (recsI r.g 0).length) (sortT d.s) (finT_fits (by omega)) (by have h3 : (finT (recsI r.g 0).length).size = 0 := rfl; omega) (sortT_fits hsf) (by rw [sortT_size]; omega)
        have q19 := g19 (aboveT 5 (finT (recsI r.g 0).length).ts (sortT d.s)) (brsT r (plainV r) (recsI r.g 0)) (vT 0) (aboveK_fits 5 (by decide) (ts_fits (finT_fits (by omega))) (sortT_fits hsf)) c4 (vT_fits (by decide)) (by
          have h2 := aboveK_size 5 (finT (recsI r.g 0).length).ts (sortT d.s)
          rw [sortT_size, ts_size] at h2
          have h3 : (finT (recsI r.g 0).length).size = 0 := rfl
          have h4 : (vT 0).size = 0 := rfl
          omega) (by rw [brsT_len]; omega)
        change HH 19 _ (tmL (caseB d.s r)) at q19
        simp only [st173]
        generalize caseB d.s r = C at *
        generalize aboveT 5 (finT (recsI r.g 0).length).ts (sortT d.s) = A at *
        generalize brsT r (plainV r) (recsI r.g 0) = B at *
        generalize hR : recsI r.g 0 = R at *
        simp [intsA, inDs_len, Ds.app_nil]
        refine ⟨by kernel_rfl, ?_⟩
        refine asks (g62 R.length) ?_ ?_ ?_ <;> simp
        refine asks (g62 R.length) ?_ ?_ ?_ <;> simp
        refine asks q171 ?_ ?_ ?_ <;> simp [finT]
        refine asks (g175 0) ?_ ?_ ?_ <;> simp
        refine asks q19 ?_ ?_ ?_ <;> simp [vT, Ds.app_nil]
        refine asks (g64 12 (finT R.length) C) ?_ ?_ ?_ <;> simp [finT]
        exact ⟨[], by simp⟩
      | cons t q =>
        have hm : t ∈ recsI r.g 0 := by rw [← hq]; simp
        have h1 : a.length < (recsI r.g 0).length := by rw [← hq]; simp
        have h2' := dp_ints hq
        obtain ⟨k, rfl, -, hk⟩ := recsI_mem _ _ _ hm
        rw [Nat.zero_add] at hk
        have hw : IntKind.i64.wrap ((a.length : Int) + 1) = a.length + 1 := by rw [IntKind.wrap_i64]; omega
        have e1 : brsT r (plainV r) (a ++ [(k : Int)]) = (brsT r (plainV r) a).app (.cons (brT r (plainV r) k).h (brT r (plainV r) k).x .nil) := by rw [brsT_app]; rfl
        have m1 : k * ((plainV r).size + 1) ≤ 4 * 101 := Nat.mul_le_mul (by omega) (by omega)
        have hsz := hr.sz
        have q42 := k42 r (plainV r) 3 k hk (by omega) (by omega) hr.fit c6 (by omega) (by omega)
        rw [← teleI_at hk] at q42
        have t2 := teleI_size r (plainV r) k
        have t3 : szAg r.g * ((plainV r).size + 1) ≤ 40 * 101 := Nat.mul_le_mul (by omega) (by omega)
        have q17 := h17 (teleI r (plainV r) k) (teleI_fits r (plainV r) k c6 hr.fit) (by omega)
        change HH 17 _ (tmO (brT r (plainV r) k)) at q17
        simp only [st173]
        rw [show ((k : Int)) = ((k : Nat) : Int) from rfl] at *
        generalize brT r (plainV r) k = B at *
        generalize teleI r (plainV r) k = T at *
        simp [intsA, inDs_len, h1, h2', inDs, rlC]
        refine ⟨by kernel_rfl, by omega, ?_⟩
        refine asks (g175 1) ?_ ?_ ?_ <;> simp
        refine asks q220 ?_ ?_ ?_ <;> simp [rlL, rlC]
        refine asks q21 ?_ ?_ ?_ <;> simp [vT]
        refine asks q42 ?_ ?_ ?_ <;> simp [rlL, rlC]
        refine asks q17 ?_ ?_ ?_ <;> simp
        refine ⟨by rw [tDs_len, brsT_len]; omega, a ++ [(k : Int)], q, by simp, by rw [List.append_assoc]; exact hq, ?_⟩
        refine le_of [((39, 0), [(39, 0)])] ?_ ?_ ?_ <;> simp [AV.ok, Dc.ok, hw, e1, intsA, rlC]
        rw [tDs_app]; rfl
end Go.Proofs.YtkcmapimcgppmaaGreatDoor
end
