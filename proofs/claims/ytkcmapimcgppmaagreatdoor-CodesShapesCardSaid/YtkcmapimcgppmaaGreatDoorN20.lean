/-
  The document's row of a recursive argument, moved. Conditions: no more than 500 arguments, 300000 nodes, levels, parts; numbers that a word holds. The program's walk, by Put's turn: what is known of the world; the turn. Conditions: no more than 1000000 nodes, levels, parts; numbers that a word holds. The program's put: what its turn makes of a node, the walk by it. Conditions: no more than 1000000 nodes, levels, parts; numbers that a word holds. The program's walk by Put's turn. Conditions: no more than 1000000 nodes, levels, parts; numbers that a word holds. The program's put. Conditions: no more than 1000000 nodes, levels, parts; numbers that a word holds; the table of kinds lies where it was laid. The program's terms, moved: the call's own. Conditions: what comes between is no greater than 1000000, its numbers a word holds. The program's terms, moved: the call's own. Conditions: what comes between is no greater than 1000000, its numbers a word holds. Conditions: as each lemma states them.
-/
import Derived.Test.YtkcmapimcgppmaaGreatDoorN19
import Derived.Test.YtkcmapimcgppmaaGreatDoorN18
set_option linter.all false
set_option linter.unusedVariables false
set_option linter.unusedSimpArgs false
set_option linter.unnecessarySimpa false
section
namespace Go.Proofs.YtkcmapimcgppmaaGreatDoor
open Go.RowKit
attribute [local simp] ty_p ty_l ty_t kH tDs lvDs Tm.ts finH elemH ac_skip ac_label ac_region ac_seq ac_cond ac_block ac_loop ac_exit ac_ret seqK_n seqK_r seqK_e vo_nil vo_cons blkK loopK callOf vout aout abuiltin aslice ev startSt nmOf St.out putE updo upd contOf freshC K0 asC fillD fieldOf rowD astore aapp srcOf elsOf tb Dc.tk Dc.dp Dc.over Dc.app Dc.ln Dc.ds Dc.sing Dc.cont AV.cont Ds.hd Value.oneCell' retK resOf one1 AV.imp Dc.imp φOf calleeOf AV.isLL AV.list AV.app AV.arg AV.isL AV.ren Dc.ren Dc.lent tmC tmA tsA iA lo? abin AV.nth Dc.own Dc.toks stOf envOf bxOf τOf
attribute [local simp] AV.room amake agC lentAgC Ds.len Ds.dp

/-- Each term of a row below those ahead of it, moved. -/
def teleT (g : List Ag) (v : Ts) (far : Int) (i : Nat) : Ts → Ts → Ts
  | _, .nil => .nil
  | p, .cons h x q => .cons (movedT g v far i p ⟨h, x⟩).h (movedT g v far i p ⟨h, x⟩).x (teleT g v far i (p.app (.cons h x .nil)) q)
theorem teleT_app (g : List Ag) (v : Ts) (far : Int) (i : Nat) : ∀ a b p : Ts, teleT g v far i p (a.app b) = (teleT g v far i p a).app (teleT g v far i (p.app a) b)
  | .nil, b, p => by simp only [Ts.app, teleT, Ts.app_nil]
  | .cons h x a, b, p => by
    simp only [Ts.app, teleT]
    rw [teleT_app g v far i a b, Ts.app_assoc]; rfl
theorem teleT_len (g : List Ag) (v : Ts) (far : Int) (i : Nat) : ∀ a p : Ts, (teleT g v far i p a).len = a.len
  | .nil, _ => rfl
  | .cons h x a, p => by simp only [teleT, Ts.len]; rw [teleT_len g v far i a]
theorem tk_mid (a r : Ts) : (tDs ty (a.app r)).tk (a.len * 5) = tDs ty a := by
  rw [tDs_app, ← tDs_len ty]; exact Ds.tk_app _ _
theorem k42_out (r : Rl) (v : Ts) (far n : Int) (hl : r.g.length ≤ 500) (hn : n < 0 ∨ (r.g.length : Int) ≤ n) : HH 42 [rlL r, iA n, tsA none v, iA far] (tsA none .nil) := by
  refine ab Tryz.func42 Tryz.ntmps42 Tryz.results42 rfl (by decide) (by simp) rfl rfl ?_
  have d0 : r.g.length * 9 / 9 = r.g.length := by omega
  by_cases h0 : n < 0
  · simp [rlL, rlC, h0]
    exact ⟨[], by simp⟩
  · have h1 : (r.g.length : Int) ≤ n := by omega
    simp [rlL, rlC, h0, agDs_len, d0, h1]
    exact ⟨[], by simp⟩
def st42 (r : Rl) (v : Ts) (far : Int) (i : Nat) (e a : Ts) : St := stOf [(1, iA i), (2, tsA none v), (3, iA far), (4, .bx 5 0), (9, .c (.blk 48 (a.len + 1) 5 26 (.seg none (tDs ty (teleT r.g v far i .nil a)) .nil) .nil)), (10, tsA none e), (11, iA a.len)] [(5, 65, rlC r)] [(48, a.len + 1)]
set_option maxRecDepth 10000 in
set_option maxHeartbeats 2000000 in
theorem k42 (r : Rl) (v : Ts) (far : Int) (i : Nat) (hi : i < r.g.length) (hl : r.g.length ≤ 500) (hs : szAg r.g ≤ 300000) (hf : agFits r.g) (hv : v.fits) (hsz : i * (v.size + 1) ≤ 1000000) (hvs : v.size ≤ 1000000) :
    HH 42 [rlL r, iA i, tsA none v, iA far] (tsA none (teleT r.g v far i .nil r.g[i].e)) := by
  have h1 := dp_ag hi
  have hsa := szAg_at hi
  obtain ⟨f1, f2, f3⟩ := hf _ (List.getElem_mem hi)
  have hvl : v.len ≤ 1000000 := Nat.le_trans (len_le_size v) hvs
  have dg : r.g.length * 9 / 9 = r.g.length := by omega
  have hby := by_size v (r.g.take i) 0
  rw [List.length_take, show min i r.g.length = i by omega] at hby
  generalize r.g.drop (i + 1) = qq at h1
  generalize r.g[i] = b at *
  have hil : b.e.len ≤ 1000000 := Nat.le_trans (len_le_size b.e) (by omega)
  have d0 : b.e.len * 5 / 5 = b.e.len := by omega
  have h0 : ¬ (i : Int) < 0 := by omega
  have hi2 : ¬ r.g.length ≤ i := by omega
  refine ab Tryz.func42 Tryz.ntmps42 Tryz.results42 rfl (by decide) (by simp) rfl rfl ?_
  simp [rlL, rlC, h0, agDs_len, dg, hi, hi2, h1, agDs]
  refine ⟨by omega, ?_⟩
  refine lp (α := { q : Ts × Ts // q.1.app q.2 = b.e }) (fun q => st42 r v far i b.e q.1.1) (fun q => q.1.2.len) ⟨(.nil, b.e), rfl⟩ ?_ ?_
  · refine le_of [((48, 0), [(48, 0)])] ?_ ?_ ?_ <;> simp [AV.ok, Dc.ok, rlC, teleT, Ts.len]
  · rintro ⟨⟨a, q⟩, hq⟩
    simp only at hq
    cases q with
    | nil =>
      have e : a = b.e := by rw [← hq]; exact (Ts.app_nil a).symm
      rw [← e] at d0
      simp [st42, rlC, tDs_len, d0, ← e, Ds.app_nil]
      exact ⟨[], by simp⟩
    | cons h y q =>
      have h3 : a.len < b.e.len := by rw [← hq]; simp [Ts.app_len, Ts.len]
      have h2 : (tDs ty b.e).dp (a.len * 5) = tDs ty (.cons h y q) := by rw [← hq]; exact dp_mid a _
      have h6 : (tDs ty b.e).tk (a.len * 5) = tDs ty a := by rw [← hq]; exact tk_mid a _
      have h4 : h.fits ∧ y.fits := app_fits (a := a) (by rw [hq]; exact f2)
      have h5 : lvSize h.l + y.size + 1 ≤ b.e.size := by rw [← hq]; exact app_size
      have h7 : a.fits ∧ a.size ≤ b.e.size := by
        have hfa : ∀ (a r : Ts), (a.app r).fits → a.fits := fun a => by
          induction a with
          | nil => intro _ _; trivial
          | cons h x a _ ih => intro r h9; exact ⟨h9.1, h9.2.1, ih r h9.2.2⟩
        have e9 : b.e.size = a.size + (Ts.cons h y q).size := by rw [← hq, size_app]
        exact ⟨hfa a _ (by rw [hq]; exact f2), by omega⟩
      have hw : IntKind.i64.wrap ((a.len : Int) + 1) = a.len + 1 := by rw [IntKind.wrap_i64]; omega
      have hts : (⟨h, y⟩ : Tm).size ≤ 300000 := by unfold Tm.size; simp only; omega
      have hab := above_size a ⟨h, y⟩
      have q1 := k116 r i a ⟨h, y⟩ v far (by omega) (by omega) hvl h7.1 (by omega) h4 (by omega) (above_fits h7.1 h4) (by omega) (lift_fits _ _ (above_fits h7.1 h4)) (by rw [lift_size]; omega) (by_fits hv _ _) (by omega)
      have e1 : teleT r.g v far i .nil (a.app (.cons h y .nil)) = (teleT r.g v far i .nil a).app (.cons (movedT r.g v far i a ⟨h, y⟩).h (movedT r.g v far i a ⟨h, y⟩).x .nil) := by rw [teleT_app]; rfl
      generalize movedT r.g v far i a ⟨h, y⟩ = P at *
      simp [st42, rlC, tDs_len, d0, h3, h2, h6]
      refine ⟨by kernel_rfl, by omega, by omega, ?_⟩
      refine asks q1 ?_ ?_ ?_ <;> simp [rlL, rlC]
      refine ⟨by rw [tDs_len, teleT_len]; omega, a.app (.cons h y .nil), q, by simp [Ts.len], by rw [Ts.app_assoc]; exact hq, ?_⟩
      refine le_of [((48, 0), [(48, 0)])] ?_ ?_ ?_ <;> simp [Ts.len, Ts.app_len, AV.ok, Dc.ok, hw, rlC, e1]
      rw [tDs_app]; rfl
end Go.Proofs.YtkcmapimcgppmaaGreatDoor
end
section
namespace Go.Proofs.YtkcmapimcgppmaaGreatDoor
open Go.RowKit
attribute [local simp] ty_p ty_l ty_t kH tDs lvDs Tm.ts finH elemH ac_skip ac_label ac_region ac_seq ac_cond ac_block ac_loop ac_exit ac_ret seqK_n seqK_r seqK_e vo_nil vo_cons blkK loopK callOf vout aout abuiltin aslice ev startSt nmOf St.out putE updo upd contOf freshC K0 asC fillD fieldOf rowD astore aapp srcOf elsOf tb Dc.tk Dc.dp Dc.over Dc.app Dc.ln Dc.ds Dc.sing Dc.cont AV.cont Ds.hd Value.oneCell' retK resOf one1 AV.imp Dc.imp φOf calleeOf AV.isLL AV.list AV.app AV.arg AV.isL AV.ren Dc.ren Dc.lent tmC tmA tsA iA lo? abin AV.nth Dc.own Dc.toks stOf envOf bxOf τOf
attribute [local simp] AV.room amake agC lentAgC Ds.len Ds.dp

/-- The table lies where it was laid, a cell holds a row that reads so. -/
def GP (b : Nat) (y : Ts) (w : World) : Prop := KA w ∧ ∃ v, U w b 0 = some v ∧ RT ty w v y
theorem stGP (b : Nat) (y : Ts) : Stays (GP b y) := fun w w' hb ⟨h1, v, h2, h3⟩ => ⟨stKA w w' hb h1, v, U_below hb _ _ _ (U_lt h2) h2, h3.on hb⟩
theorem Holds.under {P : Program} {G G' : World → Prop} (h : ∀ w, G' w → G w) {f : Nat} {a r : AV} (hh : Holds P G f a r) : Holds P G' f a r :=
  ⟨hh.1, hh.2.1, fun F w vs hF hG hv => hh.2.2 F w vs hF (h w hG) hv⟩
abbrev HG (b : Nat) (y : Ts) (f : Nat) (ps : List AV) (r : AV) : Prop := Holds Tryz.prog (GP b y) f (.list ps) r
theorem HH.gp {f : Nat} {ps : List AV} {r : AV} (h : HH f ps r) (b : Nat) (y : Ts) : HG b y f ps r := Holds.under (fun _ h => h.1) h
theorem abG {b : Nat} {y : Ts} {f : Nat} {fn : Func} {c : Code} {l : List AV} {r : AV} {N : Nat} {rs : Array ResultVar} (hf : Tryz.prog.funcs[f]? = some fn) (hN : fn.ntmps = N) (hrs : fn.results = rs) (hb : fn.body = some c) (hname : fn.name ≠ "runtime.NumGoroutine")
    (hl : l.length ≤ N) (ho : (l.all AV.bare) = true) (hr : (r.plain && r.still && r.flat) = true) (h : acode Tryz.prog (GP b y) tb N c (retK tb N rs.toList r) (startSt l)) : HG b y f l r := by
  subst hN hrs
  simp only [Bool.and_eq_true] at hr
  exact holds_of tbOk (stGP b y) mixed hf hb hname hl (fun a ha => AV.bare_ok (List.all_eq_true.1 ho a ha) _ _) hr.1.1 hr.1.2 hr.2 h
theorem lpG {b : Nat} {y : Ts} {α : Type} (I : α → St) (μ : α → Nat) (x0 : α) {c : Code} {Q : Exit → St → Prop} {st : St} {N : Nat} (h0 : Le (GP b y) N st (I x0)) (hr : ∀ x, acode Tryz.prog (GP b y) tb N c (loopK (GP b y) N I μ x Q) (I x)) : ALoop Tryz.prog (GP b y) N c Q st := aloop tbOk (stGP b y) mixed I μ x0 h0 hr
theorem k124 (d n : Int) : HH 124 [.agg (.lit (.int .i64 d) .nil), iA n] (.tup (AV.list [iA (wrap64 (n - d)), .v (.bool (decide (d ≤ n)))])) := by
  refine ⟨code_of Tryz.func124 (by decide) rfl, rfl, fun F w vs hF hG hv => ?_⟩
  obtain ⟨u, v, rfl, h1, h2⟩ := list2 hv
  rw [iA_eq h2]
  obtain ⟨ys, e, -, zs, rfl, rfl⟩ := h1
  cases e
  refine (means_any d n w).mono ?_
  rintro e w' ⟨rfl, h5⟩
  exact ⟨_, fun _ => [], rfl, h5, ⟨_, rfl, _, _, rfl, rfl, _, _, rfl, rfl, rfl⟩, fun k b hb => (by cases hb), fun k k' b hb => (by cases hb)⟩
/-- A node whose levels are the call's own. -/
def nodeA (h : Hd) (x : Ts) : AV := .agg (tmC (some (0, 0)) none h x)
end Go.Proofs.YtkcmapimcgppmaaGreatDoor
end
section
namespace Go.Proofs.YtkcmapimcgppmaaGreatDoor
open Go.RowKit
attribute [local simp] ty_p ty_l ty_t kH tDs lvDs Tm.ts finH elemH ac_skip ac_label ac_region ac_seq ac_cond ac_block ac_loop ac_exit ac_ret seqK_n seqK_r seqK_e vo_nil vo_cons blkK loopK callOf vout aout abuiltin aslice ev startSt nmOf St.out putE updo upd contOf freshC K0 asC fillD fieldOf rowD astore aapp srcOf elsOf tb Dc.tk Dc.dp Dc.over Dc.app Dc.ln Dc.ds Dc.sing Dc.cont AV.cont Ds.hd Value.oneCell' retK resOf one1 AV.imp Dc.imp φOf calleeOf AV.isLL AV.list AV.app AV.arg AV.isL AV.ren Dc.ren Dc.lent tmC tmA tsA iA lo? abin AV.nth Dc.own Dc.toks stOf envOf bxOf τOf
attribute [local simp] AV.room amake agC lentAgC Ds.len Ds.dp

/-- A walk at a depth. -/
def wkA (d : Nat) (FV : Value) : AV := .agg (.lit (.int .i64 d) (.lit FV .nil))
theorem k203 (fn : Fn) (fi cp : Array Value) (d : Nat) (k : Int) (i : Nat) (hd : d ≤ 4000000000) : HH 203 [wkA d (.func fn fi cp), iA k, iA i] (wkA (deeper k i d) (.func fn fi cp)) := by
  refine ⟨code_of Tryz.func203 (by decide) rfl, rfl, fun F w vs hF hG hv => ?_⟩
  obtain ⟨u, v, z, rfl, h1, h2, h3⟩ := list3 hv
  rw [iA_eq h2, iA_eq h3]
  obtain ⟨ys, e, -, _, rfl, -, _, rfl, rfl⟩ := h1
  cases e
  refine (below_any d fn fi cp k i w hG hd).mono ?_
  rintro e w' ⟨rfl, h5⟩
  exact ⟨_, fun _ => [], rfl, h5, ⟨_, rfl, rfl, _, rfl, rfl, _, rfl, rfl⟩, fun k b hb => (by cases hb), fun k k' b hb => (by cases hb)⟩
/-- A node whose kids are just this. -/
def litC (j : Option Tk) (h : Hd) (S : Value) : Dc := .lit (.int .i64 h.k) (.lit (.int .i64 h.n) (.lit (.int .i64 h.a) (.row j 1 43 (lvDs ty h.l) (.lit S .nil))))
theorem k125l (h : Hd) (r : Option Addr) (m d : Nat) (hs : lvSize h.l ≤ 2000000) : HH 125 [.agg (litC none h (.slice r m d))] (.agg (litC (some (0, 0)) h (.slice r m d))) := by
  refine ⟨code_of Tryz.func125 (by decide) rfl, rfl, fun F w vs hF hG hv => ?_⟩
  obtain ⟨u, rfl, h1⟩ := list1 hv
  obtain ⟨ys, e, h1⟩ := h1
  obtain ⟨-, _, rfl, -, _, rfl, -, _, rfl, -, v1, _, rfl, q1, -, -, _, rfl, rfl⟩ := h1
  cases e
  obtain ⟨p, n, c, rfl, -⟩ := id q1
  refine (own_any h.k h.n h.a h.l p r n c m d w (q1.mono (fun b o v _ hv => hF b o v hv) (Nat.le_refl _)) hs).mono ?_
  rintro e w' ⟨r', m', d', S, rfl, h5, h6, h7⟩
  obtain ⟨_, _, e3, q3, -⟩ := Vs.res (F := F) (fp := fp1 S) (Nat.le_refl _) h6
  cases e3
  refine ⟨_, fp1 S, rfl, h5, ⟨_, rfl, rfl, _, rfl, rfl, _, rfl, rfl, _, rfl, lvDs_good _, _, _, rfl, q3, (fun j e => ?_), rfl, _, rfl, rfl⟩, fun k b hb => ?_, fun k k' b h1 h2 => ?_⟩
  · cases e
    exact ⟨rfl, S, h6, h7, fun b hb => mem_fp1.2 ⟨rfl, hb⟩⟩
  · exact h6.mem b (mem_fp1.1 hb).2
  · rw [(mem_fp1.1 h1).1, (mem_fp1.1 h2).1]
/-- The row that is put, a place that holds it. -/
abbrev byEl (y : Ts) : AV := .el (.row 5 26 (tDs ty y) .nil .nil)
theorem put_inl {y : Ts} {h : Hd} {d : Nat} {u : Tm} (hp : putNode y h d = .inl u) : h.k = 1 ∧ (d : Int) ≤ h.n ∧ h.n - d < y.len ∧ u = (y.tm (y.len - 1 - (h.n - d).toNat)).lift d 0 := by
  unfold putNode at hp
  split at hp
  · rename_i c1
    split at hp
    · rename_i c2
      cases hp
      exact ⟨c1.1, c1.2, c2, rfl⟩
    · cases hp
  · cases hp
set_option maxRecDepth 10000 in
theorem k224p (y : Ts) (FV : Value) (h : Hd) (x : Ts) (d : Nat) (u : Tm) (hp : putNode y h d = .inl u) (hy : y.fits) (hys : y.size ≤ 1000000) (hd : d ≤ 1000000) (hn : h.n ≤ 9223372036854775807) :
    HH 224 [wkA d FV, tmL ⟨h, x⟩, byEl y] (.tup (AV.list [tmO u, .v (.bool true)])) := by
  obtain ⟨c1k, c1n, c2, rfl⟩ := put_inl hp
  have hyl : y.len ≤ 1000000 := Nat.le_trans (len_le_size y) hys
  have d0 : y.len * 5 / 5 = y.len := by omega
  have w1 : wrap64 (h.n - d) = h.n - d := by unfold wrap64; omega
  obtain ⟨j, hj⟩ : ∃ j : Nat, (y.len : Int) - 1 - (h.n - d) = j := ⟨((y.len : Int) - 1 - (h.n - d)).toNat, by omega⟩
  have hjl : j < y.len := by omega
  have e1 : y.len - 1 - (h.n - d).toNat = j := by omega
  have w2 : IntKind.i64.wrap ((y.len : Int) - 1) = y.len - 1 := by rw [IntKind.wrap_i64]; omega
  have w3 : IntKind.i64.wrap ((y.len : Int) - 1 - (h.n - d)) = j := by rw [IntKind.wrap_i64]; omega
  have h2 := dp_drop y j
  have h3 := Ts.drop_step hjl
  have h4 := Ts.fits_hd hy hjl
  have h5 := Ts.size_kd hjl
  rw [h3] at h2
  rw [e1]
  clear e1 h3 hp
  have q1 := k124 d h.n
  rw [w1, decide_eq_true c1n] at q1
  unfold Ts.tm
  generalize y.hd j = uh at *
  generalize y.kd j = ux at *
  generalize y.drop (j + 1) = ur at *
  refine ab Tryz.func224 Tryz.ntmps224 Tryz.results224 rfl (by decide) (by simp) rfl rfl ?_
  simp [wkA]
  refine asks q1 ?_ ?_ ?_ <;> simp [tDs_len, d0, c1k, c2, w2, w3, h2]
  refine ⟨by kernel_rfl, by omega, ?_⟩
  refine asks (h60 ⟨uh, ux⟩ d 0 h4 (by unfold Tm.size; simp only; omega)) ?_ ?_ ?_ <;> simp
  exact ⟨[((0, 0), [(48, 0)]), ((0, 1), [(48, 1)])], by simp⟩
set_option maxRecDepth 10000 in
theorem k224n (y : Ts) (FV : Value) (h h' : Hd) (r : Option Addr) (m c : Nat) (d : Nat) (hp : putNode y h d = .inr h') (hys : y.size ≤ 1000000) (hd : d ≤ 1000000) (hn : h.n ≤ 9223372036854775807) (hls : lvSize h.l ≤ 2000000) :
    HH 224 [wkA d FV, .agg (litC none h (.slice r m c)), byEl y] (.tup (AV.list [.agg (litC (some (0, 0)) h' (.slice r m c)), .v (.bool false)])) := by
  have hyl : y.len ≤ 1000000 := Nat.le_trans (len_le_size y) hys
  have d0 : y.len * 5 / 5 = y.len := by omega
  have q1 := k124 d h.n
  obtain ⟨hk, hn', ha, hl⟩ := h
  simp only at hn hls q1
  by_cases c1 : hk = 1
  · subst c1
    by_cases c2 : (d : Int) ≤ hn'
    · have w1 : wrap64 (hn' - d) = hn' - d := by unfold wrap64; omega
      by_cases c3 : hn' - d < y.len
      · simp [putNode, c2, c3] at hp
      · simp [putNode, c2, c3] at hp
        subst hp
        rw [w1, decide_eq_true c2] at q1
        refine ab Tryz.func224 Tryz.ntmps224 Tryz.results224 rfl (by decide) (by simp) rfl rfl ?_
        simp [wkA, litC]
        refine asks q1 ?_ ?_ ?_ <;> simp [tDs_len, d0, c3]
        refine asks (k125l ⟨1, IntKind.i64.wrap (hn' - y.len), ha, hl⟩ r m c hls) ?_ ?_ ?_ <;> simp [litC]
        exact ⟨[((0, 0), [(50, 0)])], by simp⟩
    · simp [putNode, c2] at hp
      subst hp
      rw [decide_eq_false c2] at q1
      refine ab Tryz.func224 Tryz.ntmps224 Tryz.results224 rfl (by decide) (by simp) rfl rfl ?_
      simp [wkA, litC]
      refine asks q1 ?_ ?_ ?_ <;> simp
      refine asks (k125l ⟨1, hn', ha, hl⟩ r m c hls) ?_ ?_ ?_ <;> simp [litC]
      exact ⟨[((0, 0), [(50, 0)])], by simp⟩
  · simp [putNode, c1] at hp
    subst hp
    refine ab Tryz.func224 Tryz.ntmps224 Tryz.results224 rfl (by decide) (by simp) rfl rfl ?_
    simp [wkA, litC]
    refine asks q1 ?_ ?_ ?_ <;> simp [c1]
    refine asks (k125l ⟨hk, hn', ha, hl⟩ r m c hls) ?_ ?_ ?_ <;> simp [litC]
    exact ⟨[((0, 0), [(50, 0)])], by simp⟩
/-- All rows of it are the call's own, or just what they are. -/
def Dc.ownd : Dc → Bool
  | .nil => true
  | .lit _ r => r.ownd
  | .nilr _ _ r => r.ownd
  | .row (some _) _ _ _ r => r.ownd
  | _ => false
theorem RepC.conv {F F' : Mem} {w w' : World} {fp : Tk → List Nat} : ∀ {d : Dc} {xs : List Value}, d.ownd = true → RepC (resGh F' w w' fp) d xs → RepC (resGh F w w' fp) d xs := by
  intro d
  induction d with
  | nil => intro xs _ h; exact h
  | lit v r ih => rintro xs ho ⟨h0, ys, e, h⟩; exact ⟨h0, ys, e, ih ho h⟩
  | nilr sz e r ih => rintro xs ho ⟨ys, e, h⟩; exact ⟨ys, e, ih ho h⟩
  | row k sz e x r ih =>
    cases k with
    | none => intro xs ho; cases ho
    | some k =>
      rintro xs ho ⟨h0, v, ys, e, -, how, h⟩
      obtain ⟨h1, S, h2, h3, h4⟩ := how k rfl
      obtain ⟨_, _, e2, h5, -⟩ := Vs.res (F := F) (fp := fp) (Nat.le_refl _) h2
      cases e2
      refine ⟨h0, v, ys, e, h5, fun j e3 => ?_, ih ho h⟩
      cases e3
      exact ⟨h1, S, h2, h3, h4⟩
  | seg k d r _ => intro xs ho; cases ho
  | blk k v sz e x r _ _ => intro xs ho; cases ho
theorem el_arg {b : Nat} {y : Ts} {w : World} (hG : GP b y w) : RepV (argGh (U w) w) (byEl y) [.pointer (some ⟨b, 0, none⟩)] := by
  obtain ⟨-, v, h1, h2⟩ := hG
  refine ⟨⟨tDs_good y, trivial, trivial⟩, b, 0, [v], rfl, U_lt h1, ⟨v, [], rfl, h2, rfl⟩, fun j u hj => ?_⟩
  cases j with
  | zero =>
    simp at hj
    subst hj
    show (if b < w.heap.size then _ else _) = _
    rw [if_pos (U_lt h1)]
    exact h1
  | succ j => simp at hj
/-- The function that Put walks by. -/
abbrev putF (b : Nat) : Value := .func (.func 224) #[] #[.pointer (some ⟨b, 0, none⟩)]
abbrev putP (b : Nat) : AV := .v (.pointer (some ⟨b, 0, none⟩))
theorem g224p (b : Nat) (y : Ts) (h : Hd) (x : Ts) (d : Nat) (u : Tm) (hp : putNode y h d = .inl u) (hy : y.fits) (hys : y.size ≤ 1000000) (hd : d ≤ 1000000) (hn : h.n ≤ 9223372036854775807) :
    HG b y 224 [wkA d (putF b), tmL ⟨h, x⟩, putP b] (.tup (AV.list [tmO u, .v (.bool true)])) := by
  refine ⟨code_of Tryz.func224 (by decide) rfl, rfl, fun F w vs hF hG hv => ?_⟩
  obtain ⟨u1, v, z, rfl, h1, h2, h3⟩ := list3 hv
  obtain rfl : z = .pointer (some ⟨b, 0, none⟩) := by simpa [RepV] using h3
  have ht := tm_arg (tmA_rm hF h2)
  refine ((k224p y (putF b) h x d u hp hy hys hd hn).2.2 (U w) w [u1, v, .pointer (some ⟨b, 0, none⟩)] (fun _ _ _ h => h) hG.1 ⟨_, _, rfl, h1, _, _, rfl, ht, _, _, rfl, el_arg hG, rfl⟩).mono ?_
  rintro e w' ⟨v', fp, rfl, hb, ⟨zs, e, a1, _, rfl, ⟨ys, e2, hc⟩, r1⟩, m1, m2⟩
  exact ⟨v', fp, rfl, hb, ⟨_, e, a1, _, rfl, ⟨ys, e2, RepC.conv rfl hc⟩, r1⟩, m1, m2⟩
theorem g224n (b : Nat) (y : Ts) (h h' : Hd) (x : Ts) (d : Nat) (hp : putNode y h d = .inr h') (hys : y.size ≤ 1000000) (hd : d ≤ 1000000) (hn : h.n ≤ 9223372036854775807) (hls : lvSize h.l ≤ 2000000) :
    HG b y 224 [wkA d (putF b), tmL ⟨h, x⟩, putP b] (.tup (AV.list [nodeA h' x, .v (.bool false)])) := by
  refine ⟨code_of Tryz.func224 (by decide) rfl, rfl, fun F w vs hF hG hv => ?_⟩
  obtain ⟨u1, v, z, rfl, h1, h2, h3⟩ := list3 hv
  obtain rfl : z = .pointer (some ⟨b, 0, none⟩) := by simpa [RepV] using h3
  obtain ⟨ys, e, -, _, rfl, -, _, rfl, -, _, rfl, -, v1, _, rfl, q1, -, -, v2, _, rfl, q2, -, rfl⟩ := h2
  cases e
  obtain ⟨p', n', c', rfl, -⟩ := id q2
  have hk := (k224n y (putF b) h h' p' n' c' d hp hys hd hn hls).2.2 (U w) w [u1, .agg #[.int .i64 h.k, .int .i64 h.n, .int .i64 h.a, v1, .slice p' n' c'], .pointer (some ⟨b, 0, none⟩)] (fun _ _ _ h => h) hG.1
    ⟨_, _, rfl, h1, _, _, rfl, ⟨_, rfl, rfl, _, rfl, rfl, _, rfl, rfl, _, rfl, lvDs_good _, _, _, rfl, q1.mono (fun b o v _ hv => hF b o v hv) (Nat.le_refl _), Gh.Ow_none, rfl, _, rfl, rfl⟩, _, _, rfl, el_arg hG, rfl⟩
  refine hk.mono ?_
  rintro e w' ⟨v', fp, rfl, hb, ⟨zs, e, a1, _, rfl, ⟨ys, e2, g1, _, rfl, g2, _, rfl, g3, _, rfl, g4, l1, _, rfl, g5, g6, g7, _, rfl, rfl⟩, r1⟩, m1, m2⟩
  obtain ⟨j0, _, _, e3, j2, j3, -⟩ := RepC.conv (F := F) (F' := U w) (d := .row (some (0, 0)) 1 43 (lvDs ty h'.l) .nil) (xs := [l1]) rfl ⟨g4, _, _, rfl, g5, g6, rfl⟩
  cases e3
  have q4 : Rd (resGh F w w' fp).F w'.heap.size (.slice p' n' c') 5 (tDs ty x) .nil := q2.mono (fun b o v hb' hv => by
    show (if b < w.heap.size then F b o else _) = _
    exact (if_pos (show b < w.heap.size from hb')).trans hv) hb.size
  exact ⟨v', fp, rfl, hb, ⟨_, e, a1, _, rfl, ⟨_, e2, g1, _, rfl, g2, _, rfl, g3, _, rfl, j0, _, _, rfl, j2, j3, tDs_good _, _, _, rfl, q4, Gh.Ow_none, rfl⟩, r1⟩, m1, m2⟩
end Go.Proofs.YtkcmapimcgppmaaGreatDoor
end
section
namespace Go.Proofs.YtkcmapimcgppmaaGreatDoor
open Go.RowKit
attribute [local simp] ty_p ty_l ty_t kH tDs lvDs Tm.ts finH elemH ac_skip ac_label ac_region ac_seq ac_cond ac_block ac_loop ac_exit ac_ret seqK_n seqK_r seqK_e vo_nil vo_cons blkK loopK callOf vout aout abuiltin aslice ev startSt nmOf St.out putE updo upd contOf freshC K0 asC fillD fieldOf rowD astore aapp srcOf elsOf tb Dc.tk Dc.dp Dc.over Dc.app Dc.ln Dc.ds Dc.sing Dc.cont AV.cont Ds.hd Value.oneCell' retK resOf one1 AV.imp Dc.imp φOf calleeOf AV.isLL AV.list AV.app AV.arg AV.isL AV.ren Dc.ren Dc.lent tmC tmA tsA iA lo? abin AV.nth Dc.own Dc.toks stOf envOf bxOf τOf
attribute [local simp] AV.room amake agC lentAgC Ds.len Ds.dp

@[simp] theorem calleeOf_put (b : Nat) : calleeOf (.v (.func (.func 224) #[] #[.pointer (some ⟨b, 0, none⟩)])) = some (224, .nil, .cons (.v (.pointer (some ⟨b, 0, none⟩))) .nil) := rfl
def st126 (b : Nat) (y : Ts) (d : Nat) (h h' : Hd) (x a : Ts) : St := stOf [(2, .bx 3 0), (3, .bx 4 0), (4, .bx 5 0), (5, .bx 6 0), (23, tsA none x), (24, iA x.len), (25, iA a.len)]
  [(3, 166, .lit (.int .i64 d) (.lit (putF b) .nil)), (4, 26, tmC none none h x), (5, 26, .lit (.int .i64 0) (.lit (.int .i64 0) (.lit (.int .i64 0) (.nilr 1 43 (.nilr 5 26 .nil))))), (6, 26, .lit (.int .i64 h'.k) (.lit (.int .i64 h'.n) (.lit (.int .i64 h'.a) (.row (some (16, 0)) 1 43 (lvDs ty h'.l) (.blk 41 (a.len + 1) 5 26 (.seg (some (100, 0)) (tDs ty (putR y h.k 0 d a)) .nil) .nil)))))]
  [(41, a.len + 1), (16, 0), (100, 0)]
set_option maxRecDepth 10000 in
set_option maxHeartbeats 4000000 in
theorem k126 (b : Nat) (y : Ts) (hy : y.fits) (hys : y.size ≤ 1000000) : ∀ (M : Nat) (t : Tm) (d : Nat), t.size < M → t.fits → t.size + d ≤ 1000000 → HG b y 126 [wkA d (putF b), tmL t] (tmO (putAt y d t)) := by
  intro M
  induction M with
  | zero => intro t d h; omega
  | succ M ih =>
    rintro ⟨h, x⟩ d hM hf hs
    have dx : x.len * 5 / 5 = x.len := by omega
    have hxl : x.len ≤ 1000000 := by have := len_le_size x; unfold Tm.size at hs; simp only at hs; omega
    have hnb : h.n ≤ 9223372036854775807 := hf.1.2.1.2
    refine abG Tryz.func126 Tryz.ntmps126 Tryz.results126 rfl (by decide) (by simp) rfl rfl ?_
    cases hp : putNode y h d with
    | inl u =>
      have e1 : putAt y d ⟨h, x⟩ = u := by simp only [putAt, hp]
      rw [e1]
      simp [wkA]
      refine asks (g224p b y h x d u hp hy hys (by omega) hnb) ?_ ?_ ?_ <;> simp [wkA]
      exact ⟨[((0, 0), [(16, 0)]), ((0, 1), [(16, 1)])], by simp⟩
    | inr h' =>
      have e1 : putAt y d ⟨h, x⟩ = ⟨h', putR y h.k 0 d x⟩ := by simp only [putAt, hp]
      rw [e1]
      clear e1
      have q1 := g224n b y h h' x d hp hys (by omega) hnb (by unfold Tm.size at hs; simp only at hs; omega)
      clear hp
      simp [wkA]
      refine asks q1 ?_ ?_ ?_ <;> simp [wkA, nodeA]
      refine lpG (α := { q : Ts × Ts // q.1.app q.2 = x }) (fun q => st126 b y d h h' x q.1.1) (fun q => q.1.2.len) ⟨(.nil, x), rfl⟩ ?_ ?_
      · refine le_of [((16, 0), [(16, 0)]), ((41, 0), [(41, 0)])] ?_ ?_ ?_ <;> simp [putR, Ts.len, AV.ok, Dc.ok, tDs_len]
      · rintro ⟨⟨a, r⟩, hq⟩
        simp only at hq
        cases r with
        | nil =>
          have e : a = x := by rw [← hq]; exact (Ts.app_nil a).symm
          subst e
          simp [st126, Ds.app_nil]
          exact ⟨[((0, 0), [(16, 0)]), ((0, 1), [(41, 0), (100, 0)])], by simp⟩
        | cons hh hx r =>
          have h1 : a.len < x.len := by rw [← hq]; simp [Ts.app_len, Ts.len]
          have h2 : (tDs ty x).dp (a.len * 5) = tDs ty (.cons hh hx r) := by rw [← hq]; exact dp_mid a _
          have h3 : hh.fits ∧ hx.fits := app_fits (a := a) (by rw [hq]; exact hf.2)
          have h4 : lvSize hh.l + hx.size + 1 ≤ x.size := by rw [← hq]; exact app_size
          have hw : IntKind.i64.wrap ((a.len : Int) + 1) = a.len + 1 := by rw [IntKind.wrap_i64]; omega
          have hdp : deeper h.k a.len d ≤ d + 1 := by unfold deeper; split <;> omega
          have hne : tDs ty (putR y h.k 0 d (a.app (.cons hh hx .nil))) = (tDs ty (putR y h.k 0 d a)).app (tDs ty (putAt y (deeper h.k a.len d) ⟨hh, hx⟩).ts) := by
            rw [putR_app, putR_cons, tDs_app, Nat.zero_add]; rfl
          have hsz : x.size ≤ (⟨h, x⟩ : Tm).size := by unfold Tm.size; simp only; omega
          have hsz2 : (⟨hh, hx⟩ : Tm).size + 1 ≤ x.size := h4
          have ihh := ih ⟨hh, hx⟩ (deeper h.k a.len d) (by omega) h3 (by omega)
          generalize putAt y (deeper h.k a.len d) ⟨hh, hx⟩ = P at *
          simp [st126, h1, h2]
          refine ⟨by rw [tDs_len]; omega, by kernel_rfl, ?_⟩
          refine asks ((k203 (.func 224) #[] #[.pointer (some ⟨b, 0, none⟩)] d h.k a.len (by omega)).gp b y) ?_ ?_ ?_ <;> simp [wkA]
          refine asks ihh ?_ ?_ ?_ <;> simp [wkA]
          refine ⟨by rw [tDs_len, putR_len]; omega, a.app (.cons hh hx .nil), r, by simp [Ts.len], by rw [Ts.app_assoc]; exact hq, ?_⟩
          refine le_of [((16, 0), [(16, 0)]), ((41, 0), [(41, 0)]), ((100, 0), [(100, 0), (39, 0), (39, 1)])] ?_ ?_ ?_ <;> simp [Ts.len, Ts.app_len, AV.ok, Dc.ok, hw, hne]
end Go.Proofs.YtkcmapimcgppmaaGreatDoor
end
section
namespace Go.Proofs.YtkcmapimcgppmaaGreatDoor
open Go.RowKit

theorem Holds.made {P : Program} {G : World → Prop} {f : Nat} {ps : List AV} {t : Tm} (h : Holds P G f (.list ps) (tmO t)) {w : World} {vs : List Value} (hG : G w) (hv : RepV (argGh (U w) w) (.list ps) vs) : Calls P f vs.toArray w (MakesT t.h t.x w) :=
  (h.2.2 (U w) w vs (fun _ _ _ h => h) hG hv).mono fun e w' ⟨v, fp, h1, h2, h3, h6, h7⟩ => by
    obtain ⟨ys, e, h⟩ := h3
    obtain ⟨-, _, rfl, -, _, rfl, -, _, rfl, -, v1, _, rfl, h4, o1, -, v2, _, rfl, h5, o2, rfl⟩ := h
    cases e
    obtain ⟨p, n, c, rfl, -⟩ := id h4
    obtain ⟨p', n', c', rfl, -⟩ := id h5
    obtain ⟨-, S1, w1, n1, m1⟩ := o1 (0, 0) rfl
    obtain ⟨-, S2, w2, n2, m2⟩ := o2 (0, 1) rfl
    obtain ⟨_, _, z1, u1, B1, A1, A2, A3, e1, a1, a2, a3, ⟨e5, rfl⟩, rfl⟩ := w1
    cases e1
    have hS : ∀ x, x ∈ B1 ++ (A1 ++ (A2 ++ [])) → x ∉ S2 := fun x hx hy => by
      have := h7 _ _ x (m1 x hx) (m2 x hy)
      cases this
    refine ⟨p, n, c, p', n', c', B1 ++ (A1 ++ (A2 ++ S2)), h1, h2, ⟨_, rfl, _, rfl, _, rfl, _, _, z1, u1, B1, A1, A2, S2, rfl, a1, a2, a3, w2, rfl⟩, ?_⟩
    have e : B1 ++ (A1 ++ (A2 ++ S2)) = (B1 ++ (A1 ++ (A2 ++ []))) ++ S2 := by simp [List.append_assoc]
    rw [e]
    exact List.nodup_append.2 ⟨n1, n2, fun x hx y hy e => by subst e; exact hS x hx hy⟩

set_option maxRecDepth 100000 in
set_option maxHeartbeats 2000000 in
theorem putT_any (h : Hd) (x y : Ts) (va vy : Value) (w : World) (ha : RM ty w va h x) (hy : RT ty w vy y) (hf : Tm.fits ⟨h, x⟩) (hyf : y.fits) (hs : Tm.size ⟨h, x⟩ ≤ 1000000) (hys : y.size ≤ 1000000) (hKA : KA w) :
    Calls Tryz.prog 192 #[va, vy] w (MakesT (putAt y 0 ⟨h, x⟩).h (putAt y 0 ⟨h, x⟩).x w) := by
  obtain ⟨q, c, r, m, rfl, -, -, -, -, hl, hx⟩ := ha.agg
  obtain ⟨p, n, cc, rfl, -⟩ := id hy
  obtain ⟨w2, hw2⟩ : ∃ w2, ((w.alloc (.cells #[.int .i64 h.k, .int .i64 h.n, .int .i64 h.a, .slice q h.l.length c, .slice r x.len m] 26)).alloc (.cells #[.slice p n cc] 22)).alloc (.cells zeros 26) = w2 := ⟨_, rfl⟩
  have hb2 : Below w.heap.size w w2 := by rw [← hw2]; exact below_step (below_step (below_alloc _ _) (below_alloc _ _)) (below_alloc _ _)
  have hs2 : w2.heap.size = w.heap.size + 3 := by rw [← hw2]; simp
  have p1 : ∀ o v, (#[.int .i64 h.k, .int .i64 h.n, .int .i64 h.a, .slice q h.l.length c, .slice r x.len m] : Array Value)[o]? = some v → U w2 w.heap.size o = some v := fun o v hv => by
    rw [← hw2]
    exact U_below (below_alloc _ _) _ _ _ (by first | (simp; done) | (simp; omega)) (U_below (below_alloc _ _) _ _ _ (by first | (simp; done) | (simp; omega)) (laid_cell hv))
  have pn : U w2 (w.heap.size + 1) 0 = some (.slice p n cc) := by
    have := laid_cell (w := w.alloc (.cells #[.int .i64 h.k, .int .i64 h.n, .int .i64 h.a, .slice q h.l.length c, .slice r x.len m] 26)) (cs := #[.slice p n cc]) (ty := 22) (o := 0) rfl
    rw [World.size_alloc] at this
    rw [← hw2]
    exact U_below (below_alloc _ _) _ _ _ (by first | (simp; done) | (simp; omega)) this
  have p2 : ∀ o v, zeros[o]? = some v → U w2 (w.heap.size + 1 + 1) o = some v := fun o v hv => by
    have := laid_cell (w := (w.alloc (.cells #[.int .i64 h.k, .int .i64 h.n, .int .i64 h.a, .slice q h.l.length c, .slice r x.len m] 26)).alloc (.cells #[.slice p n cc] 22)) (ty := 26) hv
    rw [World.size_alloc, World.size_alloc, hw2] at this
    exact this
  have c0 := U_cell (p1 0 _ rfl)
  have c1 := U_cell (p1 1 _ rfl)
  have c2 := U_cell (p1 2 _ rfl)
  have c3 := U_cell (p1 3 _ rfl)
  have c4 := U_cell (p1 4 _ rfl)
  have hGP : GP (w.heap.size + 1) y w2 := ⟨hKA.on hb2 hKA.1, _, pn, hy.on hb2⟩
  have HC := Lib.hid ((k126 (w.heap.size + 1) y hyf hys _ ⟨h, x⟩ 0 (Nat.lt_succ_self _) hf (by omega)).made (w := w2) (vs := [.agg #[.int .i64 0, putF (w.heap.size + 1)], .agg #[.int .i64 h.k, .int .i64 h.n, .int .i64 h.a, .slice q h.l.length c, .slice r x.len m]]) hGP ⟨_, _, rfl, ⟨_, rfl, rfl, _, rfl, rfl, _, rfl, rfl⟩, _, _, rfl, tm_arg (ha.on hb2), rfl⟩)
  have HB2 := Lib.hid hb2
  have HS2 := Lib.hid hs2
  have P2 := Lib.hid p2
  unfold zeros at hw2
  unfold putF at HC
  have hmf : ∀ (fn : Fn) (first cap : Array Value) (w : World), (Instr.makeFunc fn first cap).run Tryz.prog w = .ok (.func fn first cap) w := fun _ _ _ _ => rfl
  clear hl hx ha hf hyf hs hys hb2 hs2 p1 p2 pn hKA hGP hy
  go_enter Tryz.func192, Tryz.ntmps192
  go_wp2_with fail
  refine HC.out.mono ?_
  rintro e wy ⟨s1, n1, d1, s2, n2, d2, S, rfl, hby, ho, hn⟩
  have hlt : w.heap.size + 1 + 1 < w2.heap.size := by have := HS2.out; omega
  have z2 : ∀ o v, zeros[o]? = some v → U wy (w.heap.size + 1 + 1) o = some v := fun o v hv => U_below hby _ _ _ hlt (P2.out o v hv)
  have m0 := U_cell (z2 0 _ rfl)
  have m1 := U_cell (z2 1 _ rfl)
  have m2 := U_cell (z2 2 _ rfl)
  have m3 := U_cell (z2 3 _ rfl)
  have m4 := U_cell (z2 4 _ rfl)
  have o0 := U_frozen (z2 0 _ rfl)
  have o1 := U_frozen (z2 1 _ rfl)
  have o2 := U_frozen (z2 2 _ rfl)
  have o3 := U_frozen (z2 3 _ rfl)
  have o4 := U_frozen (z2 4 _ rfl)
  have HBY := Lib.hid (below_step HB2.out hby)
  have HO := Lib.hid ho
  have HN := Lib.hid hn
  have Z2 := Lib.hid z2
  generalize putAt y 0 ⟨h, x⟩ = R at *
  obtain ⟨k1, hk1⟩ : ∃ z, R.h.k = z := ⟨_, rfl⟩
  obtain ⟨k2, hk2⟩ : ∃ z, R.h.n = z := ⟨_, rfl⟩
  obtain ⟨k3, hk3⟩ : ∃ z, R.h.a = z := ⟨_, rfl⟩
  have HK1 := Lib.hid hk1
  have HK2 := Lib.hid hk2
  have HK3 := Lib.hid hk3
  rw [hk1, hk2, hk3] at HO ⊢
  clear hby ho hn z2 c0 c1 c2 c3 c4 hk1 hk2 hk3 hlt hw2
  go_wp2_with fail
  obtain ⟨W, hW⟩ : ∃ W, ((((wy.setCell ⟨w.heap.size + 1 + 1, 0, none⟩ (.int .i64 k1)).setCell ⟨w.heap.size + 1 + 1, 1, none⟩ (.int .i64 k2)).setCell ⟨w.heap.size + 1 + 1, 2, none⟩ (.int .i64 k3)).setCell ⟨w.heap.size + 1 + 1, 3, none⟩ (.slice s1 n1 d1)).setCell ⟨w.heap.size + 1 + 1, 4, none⟩ (.slice s2 n2 d2) = W := ⟨_, rfl⟩
  obtain ⟨⟨x0, x1, x2, x3, x4⟩, hBF, hkW⟩ := res5 Z2.out HBY.out (by omega) hW
  rw [hW]
  refine bodyPost_ret (v := .agg #[.int .i64 k1, .int .i64 k2, .int .i64 k3, .slice s1 n1 d1, .slice s2 n2 d2]) (by simp [results, Tryz.results192, go_sem, x0, x1, x2, x3, x4]) rfl ⟨s1, n1, d1, s2, n2, d2, S, by rw [HK1.out, HK2.out, HK3.out], hBF, ?_, HN.out⟩
  rw [HK1.out, HK2.out, HK3.out]
  exact (HO.out.lower (by have := HS2.out; omega)).kept fun b hb => hkW b (by have := (HO.out.mem b hb).1; have := HS2.out; omega)
theorem k192 (t : Tm) (y : Ts) (hy : y.fits) (hys : y.size ≤ 1000000) (hf : t.fits) (hs : t.size ≤ 1000000) : HH 192 [tmL t, tsA none y] (tmO (putAt y 0 t)) := by
  refine holds_tm (code_of Tryz.func192 (by decide) rfl) fun F w vs hF hG hv => ?_
  obtain ⟨u, v, rfl, h1, h2⟩ := list2 hv
  exact putT_any t.h t.x y u v w (tmA_rm hF h1) (tsA_rt hF h2) hf hy hs hys hG
end Go.Proofs.YtkcmapimcgppmaaGreatDoor
end
section
namespace Go.Proofs.YtkcmapimcgppmaaGreatDoor
open Go.RowKit
attribute [local simp] ty_p ty_l ty_t kH tDs lvDs Tm.ts finH elemH ac_skip ac_label ac_region ac_seq ac_cond ac_block ac_loop ac_exit ac_ret seqK_n seqK_r seqK_e vo_nil vo_cons blkK loopK callOf vout aout abuiltin aslice ev startSt nmOf St.out putE updo upd contOf freshC K0 asC fillD fieldOf rowD astore aapp srcOf elsOf tb Dc.tk Dc.dp Dc.over Dc.app Dc.ln Dc.ds Dc.sing Dc.cont AV.cont Ds.hd Value.oneCell' retK resOf one1 AV.imp Dc.imp φOf calleeOf AV.isLL AV.list AV.app AV.arg AV.isL AV.ren Dc.ren Dc.lent tmC tmA tsA iA lo? abin AV.nth Dc.own Dc.toks stOf envOf bxOf τOf
attribute [local simp] AV.room amake agC lentAgC Ds.len Ds.dp

/-- The last kid of a node of two: where it lies; it is owned as well. -/
theorem own_kid {w : World} {base : Nat} {h a b : Hd} {p q r : Ts} {us : List Value} {S : List Nat} (ho : Own w base (tDs ty (.cons h (.cons a p (.cons b q r)) .nil)) us S) (hn : S.Nodup) :
    ∃ l g n cap vl vk S', us = [.int .i64 h.k, .int .i64 h.n, .int .i64 h.a, l, .slice (some ⟨g, 0, none⟩) n cap] ∧ 2 ≤ n ∧ n ≤ cap ∧ w.cell? ⟨g, 5, none⟩ = some (.int .i64 b.k) ∧ w.cell? ⟨g, 6, none⟩ = some (.int .i64 b.n) ∧ w.cell? ⟨g, 7, none⟩ = some (.int .i64 b.a) ∧ w.cell? ⟨g, 8, none⟩ = some vl ∧ w.cell? ⟨g, 9, none⟩ = some vk ∧
      Own w base (tDs ty (.cons b q .nil)) [.int .i64 b.k, .int .i64 b.n, .int .i64 b.a, vl, vk] S' ∧ S'.Nodup ∧ (∀ x ∈ S', x ∈ S) ∧ (∃ p n c, vl = Value.slice p n c) ∧ ∃ p n c, vk = Value.slice p n c := by
  obtain ⟨_, rfl, _, rfl, _, rfl, l, us, lz, lu, B1, T1, T2, T3, rfl, lo, -, -, ⟨k, us', zs, es, B2, A1, A2, A3, rfl, ko, kz, ⟨rfl, rfl⟩, ⟨rfl, rfl⟩, rfl⟩, rfl⟩ := ho
  rw [List.append_nil] at ko
  have hkl := kz.len
  obtain ⟨_, rfl, _, rfl, _, rfl, l1, _, l1z, l1u, C1, D1, D2, D3, rfl, -, -, -, ⟨k1, _, k1z, k1u, C2, E1, E2, E3, rfl, -, -, -, hz, rfl⟩, rfl⟩ := kz
  obtain ⟨_, rfl, _, rfl, _, rfl, vl, _, vz, vu, F1, G1, G2, G3, rfl, w1, w2, w3, ⟨vk, rs, kz', ku', H1, I1, I2, I3, rfl, w4, w5, w6, w7, rfl⟩, rfl⟩ := hz
  have hx : (tDs ty (.cons a p (.cons b q r))).len = (r.len + 2) * 5 := by rw [tDs_len]; rfl
  rcases ko with ⟨_, -, h0, -⟩ | ⟨g, n, cap, cur, rfl, rfl, hg, hb, hnc, hcl, hcs, hm, hle, hle2, htk⟩
  · rw [hx] at h0; omega
  · have cell := row_cell hb htk
    have one : ∀ {x s : Ds} {v : Value} {sz e m : Nat} {xs : List Value} {B : List Nat}, RowO w base sz e v m xs B → ∃ p n c, v = Value.slice p n c := fun h => by
      rcases h with ⟨_, rfl, -⟩ | ⟨_, _, _, _, -, rfl, -⟩ <;> exact ⟨_, _, _, rfl⟩
    have sub : ((F1 ++ (G1 ++ (G2 ++ (H1 ++ (I1 ++ (I2 ++ [])))))).Sublist (F1 ++ (G1 ++ (G2 ++ (H1 ++ (I1 ++ (I2 ++ I3))))))) := by
      refine (List.Sublist.refl _).append ((List.Sublist.refl _).append ((List.Sublist.refl _).append ((List.Sublist.refl _).append ((List.Sublist.refl _).append ((List.Sublist.refl _).append (List.nil_sublist _))))))
    have sub2 : (F1 ++ (G1 ++ (G2 ++ (H1 ++ (I1 ++ (I2 ++ [])))))).Sublist (B1 ++ (T1 ++ (T2 ++ ([g] ++ ((C1 ++ (D1 ++ (D2 ++ (C2 ++ (E1 ++ (E2 ++ (F1 ++ (G1 ++ (G2 ++ (H1 ++ (I1 ++ (I2 ++ I3)))))))))))) ++ ([] ++ [])))))) := by
      refine List.Sublist.trans ?_ (List.sublist_append_right _ _)
      refine List.Sublist.trans ?_ (List.sublist_append_right _ _)
      refine List.Sublist.trans ?_ (List.sublist_append_right _ _)
      refine List.Sublist.trans ?_ (List.sublist_append_right _ _)
      refine List.Sublist.trans ?_ (List.sublist_append_left _ _)
      refine List.Sublist.trans ?_ (List.sublist_append_right _ _)
      refine List.Sublist.trans ?_ (List.sublist_append_right _ _)
      refine List.Sublist.trans ?_ (List.sublist_append_right _ _)
      refine List.Sublist.trans ?_ (List.sublist_append_right _ _)
      refine List.Sublist.trans ?_ (List.sublist_append_right _ _)
      refine List.Sublist.trans ?_ (List.sublist_append_right _ _)
      exact sub
    refine ⟨l, g, n, cap, vl, vk, _, rfl, by rw [hx] at hm; omega, hnc, ?_, ?_, ?_, ?_, ?_, ⟨_, rfl, _, rfl, _, rfl, vl, _, vz, vu, F1, G1, G2, _, rfl, w1, w2, w3, ⟨vk, _, kz', ku', H1, I1, I2, [], rfl, w4, w5, w6, ⟨rfl, rfl⟩, rfl⟩, rfl⟩, ?_, fun x hx => sub2.subset hx, one (x := .nil) (s := .nil) w1, one (x := .nil) (s := .nil) w4⟩
    · have := U_cell (cell 5 _ rfl); simpa using this
    · have := U_cell (cell 6 _ rfl); simpa using this
    · have := U_cell (cell 7 _ rfl); simpa using this
    · have := U_cell (cell 8 _ rfl); simpa using this
    · have := U_cell (cell 9 _ rfl); simpa using this
    · exact sub2.nodup hn
end Go.Proofs.YtkcmapimcgppmaaGreatDoor
end
section
namespace Go.Proofs.YtkcmapimcgppmaaGreatDoor
open Go.RowKit
attribute [local simp] ty_p ty_l ty_t kH tDs lvDs Tm.ts finH elemH ac_skip ac_label ac_region ac_seq ac_cond ac_block ac_loop ac_exit ac_ret seqK_n seqK_r seqK_e vo_nil vo_cons blkK loopK callOf vout aout abuiltin aslice ev startSt nmOf St.out putE updo upd contOf freshC K0 asC fillD fieldOf rowD astore aapp srcOf elsOf tb Dc.tk Dc.dp Dc.over Dc.app Dc.ln Dc.ds Dc.sing Dc.cont AV.cont Ds.hd Value.oneCell' retK resOf one1 AV.imp Dc.imp φOf calleeOf AV.isLL AV.list AV.app AV.arg AV.isL AV.ren Dc.ren Dc.lent tmC tmA tsA iA lo? abin AV.nth Dc.own Dc.toks stOf envOf bxOf τOf
attribute [local simp] AV.room amake agC lentAgC Ds.len Ds.dp

abbrev zC : Dc := .lit (.int .i64 0) (.lit (.int .i64 0) (.lit (.int .i64 0) (.nilr 1 43 (.nilr 5 26 .nil))))
/-- Where the rounds of move.term begin. -/
def sa111 (r : Rl) (v : Ts) (far : Int) (i : Nat) (row : Ts) (t : Tm) : St := stOf [(1, iA i), (2, tsA none row), (4, .bx 5 0), (7, .bx 8 0), (8, .bx 9 0)] [(5, 150, mvC r v far), (8, 26, tmC none none t.h t.x), (9, 26, zC)] []
def sb111 (row : Ts) (P : Tm) : St := stOf [(2, tsA none row), (8, .bx 9 0), (9, .bx 10 0)] [(9, 26, zC), (10, 26, tmC (some (21, 0)) (some (21, 1)) P.h P.x)] [(21, 0)]
theorem Box.U {w : World} {b T : Nat} {cs : Array Value} (h : Box w b T cs) : ∀ o v, cs[o]? = some v → U w b o = some v := fun o v hv => U_mk (h.cell hv) (by have h' : w.heap[b]? = _ := h; simp [World.frozen?, h'])
set_option maxRecDepth 100000 in
set_option maxHeartbeats 4000000 in
theorem k111 (r : Rl) (i : Nat) (row : Ts) (t : Tm) (v : Ts) (far : Int) (hi : i ≤ r.g.length) (hl : r.g.length ≤ 1000000) (hv : v.len ≤ 1000000) (hr : row.fits) (hrs : row.size ≤ 1000000) (ht : t.fits) (hts : t.size ≤ 1000000)
    (hA : (aboveT 5 row t).fits) (hAs : (aboveT 5 row t).size ≤ 1000000) (hL : ((aboveT 5 row t).lift far i).fits) (hLs : ((aboveT 5 row t).lift far i).size ≤ 1000000) (hB : (byT (r.g.take i) 0 v).fits) (hBs : (byT (r.g.take i) 0 v).size ≤ 1000000) :
    HH 111 [.agg (mvC r v far), iA i, tsA none row, tmL t] (tmO (movedT r.g v far i row t)) := by
  refine holds_tm (code_of Tryz.func111 (by decide) rfl) fun F w vs hF hG hvs => ?_
  have hrl : row.len ≤ 1000000 := Nat.le_trans (len_le_size row) hrs
  have d0 : row.len * 5 / 5 = row.len := by omega
  have hdeep : deepT row.len (putAt (byT (r.g.take i) 0 v) 0 ((aboveT 5 row t).lift far i)) := deep_put _ _ _ _ (deep_lift far i _ _ 0 (deep_above row t))
  have hres : movedT r.g v far i row t = inner row.len (putAt (byT (r.g.take i) 0 v) 0 ((aboveT 5 row t).lift far i)) := rfl
  have q1 := k162 row t hr hrs ht hts
  have q2 := h60 (aboveT 5 row t) far i hA hAs
  have q3 := k193 r v far i hi hl hv
  have q4 := k192 ((aboveT 5 row t).lift far i) (byT (r.g.take i) 0 v) hB hBs hL hLs
  rw [hres]
  clear hres hA hAs hL hLs hB hBs
  generalize putAt (byT (r.g.take i) 0 v) 0 ((aboveT 5 row t).lift far i) = P at *
  generalize (aboveT 5 row t).lift far i = L at *
  generalize byT (r.g.take i) 0 v = B at *
  generalize aboveT 5 row t = A at *
  have hs := start_sat (N := 31) hG (RepV.mv (g := argGh F w) (g' := argGh (U w) w) hF (Nat.le_refl _) (.inl rfl) rfl hvs) (by simp) (fun a ha => AV.bare_ok (by simp at ha; rcases ha with rfl | rfl | rfl | rfl <;> rfl) _ _)
  clear hvs hF
  refine calls_of_wp Tryz.func111 rfl ?_
  refine seq_state tbOk stKA mixed (st' := sa111 r v far i row t) hs ?_ (fun a1 w1 hs1 => ?_)
  · clear hs
    simp [toK, mvC]
    refine le_of [] ?_ ?_ ?_ <;> simp [AV.ok, Dc.ok, mvC]
  refine seq_state tbOk stKA mixed (st' := sb111 row P) hs1 ?_ (fun a2 w2 hs2 => ?_)
  · clear hs hs1
    simp [sa111, mvC]
    refine ⟨by kernel_rfl, ?_⟩
    refine asks q1 ?_ ?_ ?_ <;> simp
    refine asks q2 ?_ ?_ ?_ <;> simp
    refine asks q3 ?_ ?_ ?_ <;> simp [mvC]
    refine asks q4 ?_ ?_ ?_ <;> simp [toK]
    refine le_of [((21, 0), [(21, 0)]), ((21, 1), [(21, 1)])] ?_ ?_ ?_ <;> simp [AV.ok, Dc.ok]
  clear hs1 hs q1 q2 q3 q4
  obtain ⟨g, rfl, hI, hbx, hτ, hbase, hF0, hsl⟩ := hs2.gh
  have bB := hs2.below
  obtain ⟨x9, b9, q9⟩ := sat_box hI (k := 9) (T := 26) (d := zC) (by rw [hbx]; rfl)
  obtain ⟨x10, b10, q10⟩ := sat_box hI (k := 10) (T := 26) (d := tmC (some (21, 0)) (some (21, 1)) P.h P.x) (by rw [hbx]; rfl)
  obtain ⟨S, hown, hnd, hS⟩ := own_of hI q10 (by simp only [tmC, Dc.own, hτ]; simp) (by simp only [tmC, Dc.toks]; decide)
  have k9 : w.heap.size ≤ g.B 9 := hbase ▸ (hI.box 9 26 zC (by rw [hbx]; rfl)).1
  have k10 : w.heap.size ≤ g.B 10 := hbase ▸ (hI.box 10 26 _ (by rw [hbx]; rfl)).1
  have hne : g.B 10 ≠ g.B 9 := fun e => by
    have := hI.inj 10 9 (by rw [hbx]; exact Option.some_ne_none _) (by rw [hbx]; exact Option.some_ne_none _) e
    omega
  have nS : ∀ b ∈ S, b ≠ g.B 10 ∧ b ≠ g.B 9 := fun b hb => by
    obtain ⟨tk, -, h1, h2⟩ := hS b hb
    have h3 := (hI.fpb tk.1 tk.2 b h1 h2).2.2
    exact ⟨h3 10 (by rw [hbx]; exact Option.some_ne_none _), h3 9 (by rw [hbx]; exact Option.some_ne_none _)⟩
  rw [hbase] at hown
  have s8 : a2.tmps.getD 8 undef = .pointer (some ⟨g.B 9, 0, none⟩) := by have := (hsl 8 (by decide)).1; simpa using this
  have s9 : a2.tmps.getD 9 undef = .pointer (some ⟨g.B 10, 0, none⟩) := by have := (hsl 9 (by decide)).1; simpa using this
  obtain ⟨p2, c2, s2⟩ : ∃ p c, a2.tmps.getD 2 undef = .slice p row.len c := by
    obtain ⟨-, v2, _, e2, ⟨p, n, c, e3, h3, -⟩, -, -⟩ := hsl 2 (by decide)
    cases e2
    rw [tDs_len] at h3
    obtain rfl : n = row.len := by omega
    exact ⟨p, c, e3⟩
  have hsz := hs2.size
  have hdf := hs2.defers
  obtain rfl : x9 = [.int .i64 0, .int .i64 0, .int .i64 0, .slice none 0 0, .slice none 0 0] := by
    obtain ⟨-, _, rfl, -, _, rfl, -, _, rfl, _, rfl, _, rfl, rfl⟩ := q9
    rfl
  obtain ⟨q, m, d, q', m', d', rfl⟩ := lit5 q10
  have X9 := Lib.hid b9.U
  have X10 := Lib.hid b10.U
  have HO := Lib.hid hown
  have HND := Lib.hid hnd
  have HNS := Lib.hid nS
  have HBB := Lib.hid bB
  have HDP := Lib.hid hdeep
  have HK := Lib.hid (And.intro k9 k10)
  obtain ⟨tmps, defers⟩ := a2
  obtain rfl : defers = [] := hdf
  clear hs2 hI hbx hτ hbase hF0 hsl q9 q10 hS hown hnd nS b9 b10 bB hdeep k9 k10 hr hrs ht hts hi hl hv hG
  have e1 : tmps = #[tmps.getD 0 undef, tmps.getD 1 undef, tmps.getD 2 undef, tmps.getD 3 undef, tmps.getD 4 undef, tmps.getD 5 undef, tmps.getD 6 undef, tmps.getD 7 undef, tmps.getD 8 undef, tmps.getD 9 undef, tmps.getD 10 undef, tmps.getD 11 undef, tmps.getD 12 undef, tmps.getD 13 undef, tmps.getD 14 undef, tmps.getD 15 undef, tmps.getD 16 undef, tmps.getD 17 undef, tmps.getD 18 undef, tmps.getD 19 undef, tmps.getD 20 undef, tmps.getD 21 undef, tmps.getD 22 undef, tmps.getD 23 undef, tmps.getD 24 undef, tmps.getD 25 undef, tmps.getD 26 undef, tmps.getD 27 undef, tmps.getD 28 undef, tmps.getD 29 undef, tmps.getD 30 undef] := arr_lit hsz
  clear hsz
  simp only at s8 s9 s2
  generalize tmps.getD 0 undef = x0 at *
  generalize tmps.getD 1 undef = x1 at *
  generalize tmps.getD 2 undef = x2 at *
  generalize tmps.getD 3 undef = x3 at *
  generalize tmps.getD 4 undef = x4 at *
  generalize tmps.getD 5 undef = x5 at *
  generalize tmps.getD 6 undef = x6 at *
  generalize tmps.getD 7 undef = x7 at *
  generalize tmps.getD 8 undef = x8 at *
  generalize tmps.getD 9 undef = x9 at *
  generalize tmps.getD 10 undef = x10 at *
  generalize tmps.getD 11 undef = x11 at *
  generalize tmps.getD 12 undef = x12 at *
  generalize tmps.getD 13 undef = x13 at *
  generalize tmps.getD 14 undef = x14 at *
  generalize tmps.getD 15 undef = x15 at *
  generalize tmps.getD 16 undef = x16 at *
  generalize tmps.getD 17 undef = x17 at *
  generalize tmps.getD 18 undef = x18 at *
  generalize tmps.getD 19 undef = x19 at *
  generalize tmps.getD 20 undef = x20 at *
  generalize tmps.getD 21 undef = x21 at *
  generalize tmps.getD 22 undef = x22 at *
  generalize tmps.getD 23 undef = x23 at *
  generalize tmps.getD 24 undef = x24 at *
  generalize tmps.getD 25 undef = x25 at *
  generalize tmps.getD 26 undef = x26 at *
  generalize tmps.getD 27 undef = x27 at *
  generalize tmps.getD 28 undef = x28 at *
  generalize tmps.getD 29 undef = x29 at *
  generalize tmps.getD 30 undef = x30 at *
  subst e1
  subst s8 s9 s2
  generalize g.w = W0 at *
  generalize g.B 9 = B9 at *
  generalize g.B 10 = B10 at *
  go_wp2_with fail
  go_loopw [23] (fun i wr => ∃ (k : Nat) (u3 u4 : Value) (S : List Nat), k ≤ row.len ∧ i = .int .i64 k ∧ Below w.heap.size w wr ∧ (∀ o v, zeros[o]? = some v → U wr B9 o = some v) ∧
    (∀ o v, (#[.int .i64 (inner k P).h.k, .int .i64 (inner k P).h.n, .int .i64 (inner k P).h.a, u3, u4] : Array Value)[o]? = some v → U wr B10 o = some v) ∧
    Own wr w.heap.size (tDs ty (inner k P).ts) [.int .i64 (inner k P).h.k, .int .i64 (inner k P).h.n, .int .i64 (inner k P).h.a, u3, u4] S ∧ S.Nodup ∧ (∀ b ∈ S, b ≠ B10 ∧ b ≠ B9)) (fun i _ => row.len - (intOf i).toNat)
  case atStart => exact ⟨0, _, _, S, Nat.zero_le _, rfl, HBB.out, X9.out, X10.out, HO.out, HND.out, HNS.out⟩
  case round =>
    obtain ⟨k, u3, u4, S', hk, rfl, hB, hZ, hX, hO, hN, hNS⟩ := hrel
    clear HO HND HNS X9 X10 HBB
    by_cases hlt : k < row.len
    · have r1 : decide ((k : Int) < (row.len : Int)) = true := decide_eq_true (by omega)
      have h1 := deep_inner k (row.len - k - 1 + 1) P (by rw [show k + (row.len - k - 1 + 1) = row.len by omega]; exact HDP.out)
      have h2 := inner_succ k P
      generalize hI : inner k P = I at *
      generalize hJ : inner (k + 1) P = J at *
      obtain ⟨ih, ix⟩ := I
      obtain ⟨-, h3, -⟩ := h1
      match ix, h3, h2, hI with
      | .cons a pp (.cons b qq .nil), _, h2, hI =>
        obtain ⟨l, g', n, cap, vl, vk, S2, e, hn2, hnc, c5, c6, c7, c8, c9, hO2, hN2, hsub, ⟨z1, z2, z3, rfl⟩, z4, z5, z6, rfl⟩ := own_kid hO hN
        simp only [List.cons.injEq, true_and, and_true] at e
        obtain ⟨rfl, rfl⟩ := e
        have i1 : (1 : Int) < (n : Int) := by omega
        have f4 := U_cell (hX 4 _ rfl)
        have f3 := U_cell (hX 3 _ rfl)
        have f2 := U_cell (hX 2 _ rfl)
        have f1 := U_cell (hX 1 _ rfl)
        have f0 := U_cell (hX 0 _ rfl)
        have y4 := U_frozen (hX 4 _ rfl)
        have y3 := U_frozen (hX 3 _ rfl)
        have y2 := U_frozen (hX 2 _ rfl)
        have y1 := U_frozen (hX 1 _ rfl)
        have y0 := U_frozen (hX 0 _ rfl)
        have HX := Lib.hid hX
        have HZ := Lib.hid hZ
        have HB := Lib.hid hB
        have HO2 := Lib.hid hO2
        have HN2 := Lib.hid hN2
        have HS := Lib.hid fun x hx => hNS x (hsub x hx)
        have HJ := Lib.hid hJ
        have H2 := Lib.hid h2
        simp only at f0 f1 f2 f3 f4 y0 y1 y2 y3 y4
        clear hX hZ hB hO2 hN2 hsub hNS hJ h2 hO hN hI
        go_wp2_with fail
        obtain ⟨W, hW⟩ : ∃ W, ((((wr.setCell ⟨B10, 0, none⟩ (.int .i64 b.k)).setCell ⟨B10, 1, none⟩ (.int .i64 b.n)).setCell ⟨B10, 2, none⟩ (.int .i64 b.a)).setCell ⟨B10, 3, none⟩ (.slice z1 z2 z3)).setCell ⟨B10, 4, none⟩ (.slice z4 z5 z6) = W := ⟨_, rfl⟩
        obtain ⟨a0, a1, a2, a3, a4, hkW⟩ := five_set (HX.out 0 _ rfl) (HX.out 1 _ rfl) (HX.out 2 _ rfl) (HX.out 3 _ rfl) (HX.out 4 _ rfl) hW
        have hBW : Below w.heap.size w W := by
          rw [← hW]
          exact (((((HB.out.setCell (p := ⟨B10, 0, none⟩) HK.out.2 _).setCell (p := ⟨B10, 1, none⟩) HK.out.2 _).setCell (p := ⟨B10, 2, none⟩) HK.out.2 _).setCell (p := ⟨B10, 3, none⟩) HK.out.2 _).setCell (p := ⟨B10, 4, none⟩) HK.out.2 _)
        rw [hW]
        clear hW
        have hJJ : inner (k + 1) P = ⟨b, qq⟩ := HJ.out.trans H2.out
        go_roundw
        case rel =>
          refine ⟨k + 1, .slice z1 z2 z3, .slice z4 z5 z6, S2, by omega, by go_num, hBW, fun o v hv => ?_, ?_, ?_, HN2.out, HS.out⟩
          · rw [U_block (hkW B9 hne.symm)]; exact HZ.out o v hv
          · rw [hJJ]
            intro o v hv
            rcases o with _ | _ | _ | _ | _ | o
            · cases hv; exact a0
            · cases hv; exact a1
            · cases hv; exact a2
            · cases hv; exact a3
            · cases hv; exact a4
            · simp at hv
          · rw [hJJ]
            exact HO2.out.kept fun x hx => hkW x (HS.out x hx).1
        case measure => simp [intOf]; omega
    · obtain rfl : k = row.len := by omega
      have r1 : decide ((row.len : Int) < (row.len : Int)) = false := decide_eq_false (by omega)
      have f4 := U_cell (hX 4 _ rfl)
      have f3 := U_cell (hX 3 _ rfl)
      have f2 := U_cell (hX 2 _ rfl)
      have f1 := U_cell (hX 1 _ rfl)
      have f0 := U_cell (hX 0 _ rfl)
      have y4 := U_frozen (hZ 4 _ rfl)
      have y3 := U_frozen (hZ 3 _ rfl)
      have y2 := U_frozen (hZ 2 _ rfl)
      have y1 := U_frozen (hZ 1 _ rfl)
      have y0 := U_frozen (hZ 0 _ rfl)
      have g4 := U_cell (hZ 4 _ rfl)
      have g3 := U_cell (hZ 3 _ rfl)
      have g2 := U_cell (hZ 2 _ rfl)
      have g1 := U_cell (hZ 1 _ rfl)
      have g0 := U_cell (hZ 0 _ rfl)
      obtain ⟨z1, z2, z3, rfl⟩ : ∃ p n c, u3 = Value.slice p n c := by
        obtain ⟨_, e, _, e2, _, e3, v', _, _, _, _, _, _, _, e4, ro, -⟩ := hO
        cases e; cases e2; cases e3; cases e4
        rcases ro with ⟨_, rfl, -⟩ | ⟨_, _, _, _, -, rfl, -⟩ <;> exact ⟨_, _, _, rfl⟩
      obtain ⟨z4, z5, z6, rfl⟩ : ∃ p n c, u4 = Value.slice p n c := by
        obtain ⟨_, e, _, e2, _, e3, v', _, _, _, _, _, _, _, e4, -, -, -, ⟨_, _, _, _, _, _, _, _, e5, ro, -⟩, -⟩ := hO
        cases e; cases e2; cases e3; cases e4; cases e5
        rcases ro with ⟨_, rfl, -⟩ | ⟨_, _, _, _, -, rfl, -⟩ <;> exact ⟨_, _, _, rfl⟩
      have HZ := Lib.hid hZ
      have HB := Lib.hid hB
      have HO := Lib.hid hO
      have HN := Lib.hid hN
      have HS := Lib.hid hNS
      generalize inner row.len P = I at *
      obtain ⟨⟨k1, k2, k3, il⟩, ix⟩ := I
      clear hX hZ hB hO hN hNS
      go_wp2_with fail
      obtain ⟨W, hW⟩ : ∃ W, ((((wr.setCell ⟨B9, 0, none⟩ (.int .i64 k1)).setCell ⟨B9, 1, none⟩ (.int .i64 k2)).setCell ⟨B9, 2, none⟩ (.int .i64 k3)).setCell ⟨B9, 3, none⟩ (.slice z1 z2 z3)).setCell ⟨B9, 4, none⟩ (.slice z4 z5 z6) = W := ⟨_, rfl⟩
      obtain ⟨⟨a0, a1, a2, a3, a4⟩, hBF, hkW⟩ := res5 HZ.out HB.out HK.out.1 hW
      rw [hW]
      refine bodyPost_ret (v := .agg #[.int .i64 k1, .int .i64 k2, .int .i64 k3, .slice z1 z2 z3, .slice z4 z5 z6]) (by simp [results, Tryz.results111, go_sem, a0, a1, a2, a3, a4]) rfl ⟨z1, z2, z3, z4, z5, z6, S', rfl, hBF, ?_, HN.out⟩
      exact HO.out.kept fun x hx => hkW x (HS.out x hx).2
end Go.Proofs.YtkcmapimcgppmaaGreatDoor
end
