/-
  Arguments, rules: likeness; what is lent is kept. Conditions: no more than 1000000 parts. How great tuples, cases, parts are; what a count that stays small tells. How great rules are, counted until a bound is passed; the law on what is moved, where it goes through nothing. Conditions: no more than 2000000 parts. Variables, places of recursive arguments: the program's, the document's. Conditions: no more than 100000. Functions over a row of types: the program's, the document's. Conditions: no more than 1000000 nodes, levels, parts; numbers that a word holds. What putting terms for variables makes of terms; the document's small steps for it. Conditions: no more than 1000000 nodes, levels, parts; numbers that a word holds. Conditions: as each lemma states them.
-/
import Derived.Test.YtkcmapimcgppmaaGreatDoorM18
import Derived.Test.YtkcmapimcgppmaaGreatDoorM09
set_option linter.all false
set_option linter.unusedVariables false
set_option linter.unusedSimpArgs false
set_option linter.unnecessarySimpa false
section
namespace Go.Proofs.YtkcmapimcgppmaaGreatDoor
open Go.RowKit
attribute [local simp] ty_p ty_l ty_t kH tDs lvDs Tm.ts finH elemH ac_skip ac_label ac_region ac_seq ac_cond ac_block ac_loop ac_exit ac_ret seqK_n seqK_r seqK_e vo_nil vo_cons blkK loopK callOf vout aout abuiltin aslice ev startSt nmOf St.out putE updo upd contOf freshC K0 asC fillD fieldOf rowD astore aapp srcOf elsOf tb Dc.tk Dc.dp Dc.over Dc.app Dc.ln Dc.ds Dc.sing Dc.cont AV.cont Ds.hd Value.oneCell' retK resOf one1 AV.imp Dc.imp φOf calleeOf AV.isLL AV.list AV.app AV.arg AV.isL AV.ren Dc.ren Dc.lent tmC tmA tsA iA lo? abin AV.nth Dc.own Dc.toks stOf envOf bxOf τOf
attribute [local simp] AV.room amake agC lentAgC Ds.len

def lentRlC (r : Rl) : Dc := .lit (.int .i64 r.m) (.seg none (.row 9 82 (lentAg r.g) (agDs (agMarks 1 12)) .nil) (.seg none (.row 5 26 (lentT ty r.i) (tDs ty (tMarks 1 12)) .nil) .nil))
theorem k36 (r : Rl) (h1 : szAg r.g ≤ 1000000) (h2 : r.i.size ≤ 2000000) : HH 36 [rlL r] (.agg (lentRlC r)) := by
  refine ab Tryz.func36 Tryz.ntmps36 Tryz.results36 rfl (by decide) (by simp) rfl rfl ?_
  simp [rlL, rlC]
  refine asks (k109 r.g h1) ?_ ?_ ?_ <;> simp [agsA, agsLent]
  refine asks (k10 r.i h2) ?_ ?_ ?_ <;> simp [lentA, lentRlC, Ds.app]
  exact ⟨[], by simp⟩
theorem arg_lentA {F : Mem} {w : World} {t : Ts} {v : Value} (hF : ∀ b o v, F b o = some v → U w b o = some v) (h : RepV (argGh F w) (lentA t) [v]) : Rd (U w) w.heap.size v 5 (lentT ty t) (tDs ty (tMarks 1 12)) := by
  obtain ⟨-, ys, zs, e, ⟨v1, _, rfl, h1, rfl⟩, -, rfl⟩ := h
  cases e
  exact h1.mono (fun b o v _ hv => hF b o v hv) (Nat.le_refl _)
theorem arg_lentM {F : Mem} {w : World} {t : Tm} {v : Value} (hF : ∀ b o v, F b o = some v → U w b o = some v) (h : RepV (argGh F w) (lentM t) [v]) : RLent w v t.h t.x := by
  obtain ⟨ys, e, h⟩ := h
  obtain ⟨-, _, rfl, -, _, rfl, -, _, rfl, -, ys, _, rfl, ⟨v1, _, rfl, h1, rfl⟩, -, -, zs, _, rfl, ⟨v2, _, rfl, h2, rfl⟩, -, rfl⟩ := h
  cases e
  obtain ⟨p, n, c, rfl, -⟩ := id h1
  obtain ⟨p', n', c', rfl, -⟩ := id h2
  exact ⟨p, n, c, p', n', c', rfl, h1.mono (fun b o v _ hv => hF b o v hv) (Nat.le_refl _), h2.mono (fun b o v _ hv => hF b o v hv) (Nat.le_refl _)⟩
theorem k22 (t : Ts) (hs : t.size ≤ 1000000) : HH 22 [lentA t, tsA none t] (.v (.bool true)) := by
  refine ⟨code_of Tryz.func22 (by decide) rfl, rfl, fun F w vs hF hG hv => ?_⟩
  obtain ⟨u, v, rfl, h1, h2⟩ := list2 hv
  refine (keptTerms_any t u v w (arg_lentA hF h1) (tsA_rt hF h2) (by omega)).mono ?_
  rintro e w' ⟨rfl, h5⟩
  exact ⟨_, fun _ => [], rfl, h5, rfl, fun k b hb => (by cases hb), fun k k' b hb => (by cases hb)⟩
theorem k23 (t : Tm) (hs : t.size ≤ 1000000) : HH 23 [lentM t, tmL t] (.v (.bool true)) := by
  refine ⟨code_of Tryz.func23 (by decide) rfl, rfl, fun F w vs hF hG hv => ?_⟩
  obtain ⟨u, v, rfl, h1, h2⟩ := list2 hv
  refine (keptTerm_any t.h t.x u v w (arg_lentM hF h1) (tmA_rm hF h2) (by unfold Tm.size at hs; omega)).mono ?_
  rintro e w' ⟨rfl, h5⟩
  exact ⟨_, fun _ => [], rfl, h5, rfl, fun k b hb => (by cases hb), fun k k' b hb => (by cases hb)⟩
theorem k199 (a : Ag) : HH 199 [agL a, agL a] (.v (.bool true)) := by
  refine ab Tryz.func199 Tryz.ntmps199 Tryz.results199 rfl (by decide) (by simp) rfl rfl ?_
  simp [agL]
  refine asks (k16 a.t) ?_ ?_ ?_ <;> simp
  refine asks (k20 a.e) ?_ ?_ ?_ <;> simp
  refine asks (k20 a.i) ?_ ?_ ?_ <;> simp
  exact ⟨[], by simp⟩
theorem k198 (a : Ag) (h1 : a.t.size ≤ 1000000) (h2 : a.e.size ≤ 1000000) (h3 : a.i.size ≤ 1000000) : HH 198 [.agg (lentAgC a), agL a] (.v (.bool true)) := by
  refine ab Tryz.func198 Tryz.ntmps198 Tryz.results198 rfl (by decide) (by simp) rfl rfl ?_
  simp [agL]
  refine asks (k199 a) ?_ ?_ ?_ <;> simp [agL]
  · exact .inr (by simp [Ds.app, Ds.strip, lentT_strip, lentLv_strip, ty])
  refine asks (k23 a.t h1) ?_ ?_ ?_ <;> simp [lentM, lentF]
  refine asks (k22 a.e h2) ?_ ?_ ?_ <;> simp [lentA]
  refine asks (k22 a.i h3) ?_ ?_ ?_ <;> simp [lentA]
  exact ⟨[], by simp⟩
def st188 (l : List Ag) (k : Nat) : St := stOf [(0, agsA l), (1, agsA l), (5, iA k)] [] []
theorem k188 (l : List Ag) (hl : l.length ≤ 1000000) : HH 188 [agsA l, agsA l] (.v (.bool true)) := by
  refine ab Tryz.func188 Tryz.ntmps188 Tryz.results188 rfl (by decide) (by simp) rfl rfl ?_
  have d0 : l.length * 9 / 9 = l.length := by omega
  simp [agsA, agDs_len, d0]
  refine lp (α := { k : Nat // k ≤ l.length }) (fun k => st188 l k.1) (fun k => l.length - k.1) ⟨0, Nat.zero_le _⟩ ?_ ?_
  · refine le_of [] ?_ ?_ ?_ <;> simp [agsA, AV.ok, Dc.ok]
  · rintro ⟨k, hk⟩
    by_cases hlt : k < l.length
    · have h1 := dp_ag hlt
      simp [st188, agsA, agDs_len, d0, hlt, h1, agDs]
      refine ⟨by kernel_rfl, by omega, ?_⟩
      refine asks (k199 l[k]) ?_ ?_ ?_ <;> simp [agL]
      have hw : IntKind.i64.wrap ((k : Int) + 1) = k + 1 := by rw [IntKind.wrap_i64]; omega
      refine ⟨k + 1, by omega, by omega, ?_⟩
      refine le_of [] ?_ ?_ ?_ <;> simp [AV.ok, Dc.ok, hw, Ds.app]
    · obtain rfl : k = l.length := by omega
      simp [st188, agsA, agDs_len, d0]
      exact ⟨[], by simp⟩
theorem k107 (r : Rl) (hl : r.g.length ≤ 1000000) : HH 107 [rlL r, rlL r] (.v (.bool true)) := by
  refine ab Tryz.func107 Tryz.ntmps107 Tryz.results107 rfl (by decide) (by simp) rfl rfl ?_
  simp [rlL, rlC]
  refine asks (k188 r.g hl) ?_ ?_ ?_ <;> simp [agsA]
  refine asks (k20 r.i) ?_ ?_ ?_ <;> simp
  exact ⟨[], by simp⟩
theorem dp_lentAg {l : List Ag} {k : Nat} (h : k < l.length) (y : Ds) : ((lentAg l).app y).dp (k * 9) = (lentAg (l[k] :: l.drop (k + 1))).app y := by
  have e : l = l.take k ++ (l[k] :: l.drop (k + 1)) := by rw [← List.drop_eq_getElem_cons h, List.take_append_drop]
  have h2 : (lentAg (l.take k)).len = k * 9 := by rw [lentAg_len, List.length_take]; congr 1; omega
  conv => lhs; rw [e, lentAg_app, Ds.app_assoc, ← h2, Ds.dp_app]
theorem hd_lent (a : Ag) (r : List Ag) (y : Ds) : Ds.hd 9 ((lentAg (a :: r)).app y) = some (lentAgC a) := rfl
theorem dp_marks {l : List Ag} {n i : Nat} (h : i < n) : ((lentAg l).app (agDs (agMarks 1 n))).dp ((l.length + i) * 9) = agDs (markAg 1 i :: (agMarks 1 n).drop (i + 1)) := by
  have h0 : i < (agMarks 1 n).length := by rw [agMarks_len]; exact h
  have e : agMarks 1 n = (agMarks 1 n).take i ++ (markAg 1 i :: (agMarks 1 n).drop (i + 1)) := by
    have e2 : (agMarks 1 n)[i] = markAg 1 i := by simp [agMarks]
    rw [← e2, ← List.drop_eq_getElem_cons h0, List.take_append_drop]
  have h2 : ((lentAg l).app (agDs ((agMarks 1 n).take i))).len = (l.length + i) * 9 := by
    rw [Ds.app_len, lentAg_len, agDs_len, List.length_take, agMarks_len]
    have : min i n = i := by omega
    rw [this]; omega
  conv => lhs; rw [e, agDs_app, ← Ds.app_assoc, ← h2, Ds.dp_app]
def st118 (l : List Ag) (X : Ds) (k : Nat) : St := stOf [(1, agsA l), (5, .c (.seg none (.row 9 82 X .nil .nil) .nil)), (6, iA k)] [] []
set_option maxRecDepth 10000 in
set_option maxHeartbeats 2000000 in
theorem k118 (l : List Ag) (hs : szAg l ≤ 1000000) : HH 118 [agsLent l, agsA l] (.v (.bool true)) := by
  have hl : l.length ≤ 1000000 := Nat.le_trans (szAg_len l) hs
  refine ab Tryz.func118 Tryz.ntmps118 Tryz.results118 rfl (by decide) (by simp) rfl rfl ?_
  have d0 : l.length * 9 / 9 = l.length := by omega
  have w0 : IntKind.i64.wrap ((l.length : Int) + 12) = l.length + 12 := by rw [IntKind.wrap_i64]; omega
  have e1 : ((l.length : Int) + 12).toNat = l.length + 12 := by omega
  have hL : ((lentAg l).app (agDs (agMarks 1 12))).len = (l.length + 12) * 9 := by rw [Ds.app_len, lentAg_len, agDs_len, agMarks_len]; omega
  have d1 : ((l.length + 12) * 9) / 9 = l.length + 12 := by omega
  simp [agsA, agsLent, agDs_len, lentAg_len, agMarks_len, d0, w0, e1]
  refine ⟨⟨by omega, by omega⟩, ?_⟩
  have t1 : Ds.tk ((l.length + 12) * 9) ((lentAg l).app (agDs (agMarks 1 12))) = (lentAg l).app (agDs (agMarks 1 12)) := by
    rw [← hL]; have := Ds.tk_app ((lentAg l).app (agDs (agMarks 1 12))) .nil; rwa [Ds.app_nil] at this
  have t2 : Ds.dp ((l.length + 12) * 9) ((lentAg l).app (agDs (agMarks 1 12))) = .nil := by
    rw [← hL]; have := Ds.dp_app ((lentAg l).app (agDs (agMarks 1 12))) .nil; rwa [Ds.app_nil] at this
  rw [t1, t2]
  have m1 : ∀ k (h : k < l.length), ∃ y, Ds.dp (k * 9) ((lentAg l).app (agDs (agMarks 1 12))) = (lentAg (l[k] :: l.drop (k + 1))).app y := fun k h => ⟨_, dp_lentAg h _⟩
  have m2 : ∀ j, j < 12 → ∃ r, Ds.dp ((l.length + j) * 9) ((lentAg l).app (agDs (agMarks 1 12))) = agDs (markAg 1 j :: r) := fun j h => ⟨_, dp_marks h⟩
  generalize (lentAg l).app (agDs (agMarks 1 12)) = X at *
  clear t1 t2
  refine lp (α := { k : Nat // k ≤ l.length + 12 }) (fun k => st118 l X k.1) (fun k => l.length + 12 - k.1) ⟨0, Nat.zero_le _⟩ ?_ ?_
  · refine le_of [] ?_ ?_ ?_ <;> simp [agsA, AV.ok, Dc.ok, Ds.app]
  · rintro ⟨k, hk⟩
    have hw : IntKind.i64.wrap ((k : Int) + 1) = k + 1 := by rw [IntKind.wrap_i64]; omega
    by_cases hlt : k < l.length
    · have h1 := dp_ag hlt
      obtain ⟨y, h2⟩ := m1 k hlt
      have hsz := szAg_at hlt
      have h3 : (k : Int) < (l.length : Int) + 12 := by omega
      have h4 : ¬ (l.length : Int) ≤ k := by omega
      generalize l.drop (k + 1) = r at h1 h2
      generalize l[k] = a at *
      simp [st118, agsA, agDs_len, d0, d1, hL, hlt, h1, h2, h3, agDs, hd_lent, -lentAgC]
      refine ⟨by kernel_rfl, by omega, by omega, ?_⟩
      refine asks (k198 a (by omega) (by omega) (by omega)) ?_ ?_ ?_
      · refine ⟨⟨rfl, .inl rfl⟩, rfl, ⟨⟨rfl, .inl ?_⟩, rfl, trivial⟩⟩
        simp [Ds.app]
      · simp
      simp [hlt, h3, h4, d0, d1, hL, agDs_len, -lentAgC]
      refine ⟨k + 1, by omega, by omega, ?_⟩
      refine le_of [] ?_ ?_ ?_ <;> simp [AV.ok, Dc.ok, hw, Ds.app]
    · by_cases hlt2 : k < l.length + 12
      · obtain ⟨j, hj⟩ := Nat.exists_eq_add_of_le (Nat.le_of_not_lt hlt)
        obtain ⟨r, h1⟩ := m2 j (by omega)
        rw [← hj] at h1
        have h3 : (k : Int) < (l.length : Int) + 12 := by omega
        have h4 : (l.length : Int) ≤ k := by omega
        have w3 : IntKind.i64.wrap ((k : Int) - l.length) = j := by rw [IntKind.wrap_i64]; omega
        simp [st118, agsA, agDs_len, d0, d1, hL, hlt, h1, h3, h4, w3, agDs]
        refine ⟨by kernel_rfl, by omega, ?_⟩
        refine asks (k191 j (by omega)) ?_ ?_ ?_ <;> simp
        refine asks (k199 (markAg 1 j)) ?_ ?_ ?_ <;> simp [agL, markAg]
        refine ⟨k + 1, by omega, by omega, ?_⟩
        refine le_of [] ?_ ?_ ?_ <;> simp [AV.ok, Dc.ok, hw, Ds.app]
      · obtain rfl : k = l.length + 12 := by omega
        simp [st118, agsA, agDs_len, d0, d1, hL]
        exact ⟨[], by simp⟩
theorem k48 (r : Rl) (h1 : szAg r.g ≤ 1000000) (h2 : r.i.size ≤ 1000000) : HH 48 [.agg (lentRlC r), rlL r] (.v (.bool true)) := by
  have hl : r.g.length ≤ 1000000 := Nat.le_trans (szAg_len r.g) h1
  refine ab Tryz.func48 Tryz.ntmps48 Tryz.results48 rfl (by decide) (by simp [lentRlC]) rfl rfl ?_
  simp [rlL, rlC, lentRlC]
  refine asks (k107 r hl) ?_ ?_ ?_ <;> simp [rlL, rlC]
  · exact .inr (by simp [Ds.app, Ds.strip, lentT_strip, lentAg_strip, ty])
  refine asks (k118 r.g h1) ?_ ?_ ?_ <;> simp [agsLent, agsA]
  refine asks (k22 r.i h2) ?_ ?_ ?_ <;> simp [lentA]
  exact ⟨[], by simp⟩
end Go.Proofs.YtkcmapimcgppmaaGreatDoor
end
section
namespace Go.Proofs.YtkcmapimcgppmaaGreatDoor
open Go.RowKit

theorem ts_size (t : Tm) : t.ts.size = 1 + t.size := by simp only [Tm.ts, Ts.size, Tm.size]; omega
def cntM (t : Tm) : Int := 1 + lvCount t.h.l 500 0 + t.x.cnt 500 0
theorem cntM_le (t : Tm) (h : t.size ≤ 2000000) : 0 ≤ cntM t ∧ cntM t ≤ 10000000000 := by
  have h1 := t.x.cnt_le 500 0 (by decide) (by decide) (by decide)
  have h2 := t.x.cnt_ge 500 0 (by decide)
  have h3 := t.x.count_le_size
  have h4 := lvCount_le t.h.l 500 0 (by decide) (by decide)
  have h5 := lvCount_ge t.h.l 500 0 (by decide)
  unfold cntM Tm.size at *
  omega
theorem cntM_ge (t : Tm) : 0 ≤ cntM t := by
  have h2 := t.x.cnt_ge 500 0 (by decide)
  have h5 := lvCount_ge t.h.l 500 0 (by decide)
  unfold cntM
  omega
theorem len_le_size (t : Ts) : t.len ≤ t.size := by
  induction t with
  | nil => exact Nat.le_refl _
  | cons h x r _ ih => simp only [Ts.len, Ts.size]; omega
end Go.Proofs.YtkcmapimcgppmaaGreatDoor
end
section
namespace Go.Proofs.YtkcmapimcgppmaaGreatDoor
open Go.RowKit
attribute [local simp] ty_p ty_l ty_t kH tDs lvDs Tm.ts finH elemH ac_skip ac_label ac_region ac_seq ac_cond ac_block ac_loop ac_exit ac_ret seqK_n seqK_r seqK_e vo_nil vo_cons blkK loopK callOf vout aout abuiltin aslice ev startSt nmOf St.out putE updo upd contOf freshC K0 asC fillD fieldOf rowD astore aapp srcOf elsOf tb Dc.tk Dc.dp Dc.over Dc.app Dc.ln Dc.ds Dc.sing Dc.cont AV.cont Ds.hd Value.oneCell' retK resOf one1 AV.imp Dc.imp φOf calleeOf AV.isLL AV.list AV.app AV.arg AV.isL AV.ren Dc.ren Dc.lent tmC tmA tsA iA lo? abin AV.nth Dc.own Dc.toks stOf envOf bxOf τOf
attribute [local simp] AV.room amake agC lentAgC Ds.len Ds.dp

def agOne (a : Ag) : Int := 1 + cntM a.t + a.e.cnt 500 0 + a.i.cnt 500 0
def agCount : List Ag → Int → Int
  | [], n => n
  | a :: r, n => if n ≤ 500 then agCount r (n + agOne a) else n
theorem agOne_le (a : Ag) (h1 : a.t.size ≤ 2000000) (h2 : a.e.size ≤ 2000000) (h3 : a.i.size ≤ 2000000) : (0 ≤ cntM a.t ∧ cntM a.t ≤ 10000000000) ∧ (0 ≤ a.e.cnt 500 0 ∧ a.e.cnt 500 0 ≤ 10000000000) ∧ (0 ≤ a.i.cnt 500 0 ∧ a.i.cnt 500 0 ≤ 10000000000) := by
  have e1 := cntM_le a.t h1
  have e2 := a.e.cnt_le 500 0 (by decide) (by decide) (by decide)
  have e3 := a.e.cnt_ge 500 0 (by decide)
  have e4 := a.e.count_le_size
  have e5 := a.i.cnt_le 500 0 (by decide) (by decide) (by decide)
  have e6 := a.i.cnt_ge 500 0 (by decide)
  have e7 := a.i.count_le_size
  omega
theorem agOne_ge (a : Ag) : 1 ≤ agOne a := by
  have e1 := cntM_ge a.t
  have e3 := a.e.cnt_ge 500 0 (by decide)
  have e6 := a.i.cnt_ge 500 0 (by decide)
  unfold agOne; omega
theorem agCount_ge : ∀ (l : List Ag) (n : Int), n ≤ agCount l n
  | [], n => Int.le_refl _
  | a :: r, n => by
    unfold agCount
    split
    · have := agCount_ge r (n + agOne a)
      have := agOne_ge a
      omega
    · exact Int.le_refl _
theorem cntM_eq {t : Tm} (h : cntM t ≤ 500) : cntM t = 1 + t.size := by
  have h2 := t.x.cnt_ge 500 0 (by decide)
  have h5 := lvCount_ge t.h.l 500 0 (by decide)
  unfold cntM at h ⊢
  have e1 := Ts.cnt_eq t.x 500 0 (by decide) (by decide) (by omega)
  have e2 := lvCount_eq t.h.l 500 0 (by decide) (by decide) (by omega)
  unfold Tm.size
  omega
theorem agOne_size {a : Ag} (h : agOne a ≤ 500) : 1 + a.t.size + a.e.size + a.i.size ≤ agOne a := by
  have e1 := cntM_ge a.t
  have e3 := a.e.cnt_ge 500 0 (by decide)
  have e6 := a.i.cnt_ge 500 0 (by decide)
  unfold agOne at *
  have f1 := cntM_eq (t := a.t) (by omega)
  have f2 := Ts.cnt_eq a.e 500 0 (by decide) (by decide) (by omega)
  have f3 := Ts.cnt_eq a.i 500 0 (by decide) (by decide) (by omega)
  omega
theorem agCount_size : ∀ (l : List Ag) (n : Int), 0 ≤ n → agCount l n ≤ 500 → n + szAg l ≤ agCount l n
  | [], n, _, _ => by simp [agCount, szAg]
  | a :: r, n, h0, h => by
    have h9 : n ≤ 500 := Int.le_trans (agCount_ge (a :: r) n) h
    unfold agCount at h ⊢
    rw [if_pos h9] at h ⊢
    have h1 := agCount_ge r (n + agOne a)
    have h2 := agOne_ge a
    have h3 := agOne_size (a := a) (by omega)
    have h4 := agCount_size r (n + agOne a) (by omega) h
    simp only [szAg, List.map_cons, List.sum_cons] at h4 ⊢
    omega
def st73 (l : List Ag) (k : Nat) (n : Int) : St := stOf [(0, agsA l), (1, iA 500), (5, iA n), (6, iA k)] [] []
theorem k73 (l : List Ag) (hs : szAg l ≤ 2000000) : HH 73 [agsA l, iA 500] (iA (agCount l 0)) := by
  have hl : l.length ≤ 2000000 := Nat.le_trans (szAg_len l) hs
  refine ab Tryz.func73 Tryz.ntmps73 Tryz.results73 rfl (by decide) (by simp) rfl rfl ?_
  have d0 : l.length * 9 / 9 = l.length := by omega
  simp [agsA, agDs_len, d0]
  refine lp (α := { q : Nat × Int // q.1 ≤ l.length ∧ 0 ≤ q.2 ∧ agCount (l.drop q.1) q.2 = agCount l 0 }) (fun q => st73 l q.1.1 q.1.2) (fun q => l.length - q.1.1) ⟨(0, 0), Nat.zero_le _, Int.le_refl _, rfl⟩ ?_ ?_
  · refine le_of [] ?_ ?_ ?_ <;> simp [agsA, AV.ok, Dc.ok]
  · rintro ⟨⟨k, n⟩, hk, hn0, hc⟩
    simp only at hk hn0 hc
    by_cases hlt : k < l.length
    · have h1 := dp_ag hlt
      have hsz := szAg_at hlt
      have hd : l.drop k = l[k] :: l.drop (k + 1) := List.drop_eq_getElem_cons hlt
      rw [hd, agCount] at hc
      generalize hr : l.drop (k + 1) = r at h1 hc hd
      obtain ⟨b1, b2, b3⟩ := agOne_le l[k] (by omega) (by omega) (by omega)
      have q1 := k8 l[k].t (by omega)
      have q2 := k7 l[k].e (by omega)
      have q3 := k7 l[k].i (by omega)
      change HH 8 _ (iA (cntM l[k].t)) at q1
      by_cases hn : n ≤ 500
      · rw [if_pos hn] at hc
        unfold agOne at hc
        generalize l[k].e.cnt 500 0 = c2 at *
        generalize l[k].i.cnt 500 0 = c3 at *
        generalize cntM l[k].t = c1 at *
        have w1 : IntKind.i64.wrap (n + 1) = n + 1 := by rw [IntKind.wrap_i64]; omega
        have w2 : IntKind.i64.wrap (n + 1 + c1) = n + 1 + c1 := by rw [IntKind.wrap_i64]; omega
        have w3 : IntKind.i64.wrap (n + 1 + c1 + c2) = n + 1 + c1 + c2 := by rw [IntKind.wrap_i64]; omega
        have w4 : IntKind.i64.wrap (n + 1 + c1 + c2 + c3) = n + 1 + c1 + c2 + c3 := by rw [IntKind.wrap_i64]; omega
        have hw : IntKind.i64.wrap ((k : Int) + 1) = k + 1 := by rw [IntKind.wrap_i64]; omega
        simp [st73, agsA, agDs_len, d0, hlt, hn, h1, agDs]
        refine ⟨by kernel_rfl, by omega, ?_⟩
        refine asks q1 ?_ ?_ ?_ <;> simp [w1, w2, h1, agDs, agDs_len]
        refine ⟨by omega, ?_⟩
        refine asks q2 ?_ ?_ ?_ <;> simp [w3, h1, agDs, agDs_len]
        refine ⟨by omega, ?_⟩
        refine asks q3 ?_ ?_ ?_ <;> simp [w4, hw]
        refine ⟨k + 1, by omega, n + 1 + c1 + c2 + c3, ⟨by omega, by omega, ?_⟩, ?_⟩
        · rw [hr, show n + 1 + c1 + c2 + c3 = n + (1 + c1 + c2 + c3) by omega]; exact hc
        · refine le_of [] ?_ ?_ ?_ <;> simp [AV.ok, Dc.ok]
      · rw [if_neg hn] at hc
        subst hc
        simp [st73, agsA, agDs_len, d0, hlt, hn]
        exact ⟨[], by simp⟩
    · obtain rfl : k = l.length := by omega
      rw [List.drop_length, agCount] at hc
      subst hc
      simp [st73, agsA, agDs_len, d0]
      exact ⟨[], by simp⟩
def rlDs (r : Rl) : Ds := .lit (.int .i64 r.m) (.row 9 82 (agDs r.g) .nil (.row 5 26 (tDs ty r.i) .nil .nil))
def rlCount (r : Rl) : Int := 1 + agCount r.g 0 + r.i.cnt 500 0
theorem agCount_le : ∀ (l : List Ag) (n : Int), szAg l ≤ 2000000 → n ≤ 500 → agCount l n ≤ 40000000000
  | [], n, _, hn => by simp only [agCount]; omega
  | a :: r, n, hs, hn => by
    unfold agCount
    rw [if_pos hn]
    simp only [szAg, List.map_cons, List.sum_cons] at hs
    obtain ⟨b1, b2, b3⟩ := agOne_le a (by omega) (by omega) (by omega)
    by_cases h5 : n + agOne a ≤ 500
    · exact agCount_le r _ (by unfold szAg; omega) h5
    · have : agCount r (n + agOne a) = n + agOne a := by
        cases r with
        | nil => rfl
        | cons b r => unfold agCount; rw [if_neg h5]
      rw [this]
      unfold agOne
      omega
def st26 (r : Rl) (k : Nat) : St := stOf [(0, .c (.row none 3 65 (rlDs r) .nil)), (1, iA 500), (5, iA (if k = 0 then 0 else rlCount r)), (6, iA k)] [] []
theorem k26 (r : Rl) (h1 : szAg r.g ≤ 2000000) (h2 : r.i.size ≤ 2000000) : HH 26 [.c (.row none 3 65 (rlDs r) .nil), iA 500] (iA (rlCount r)) := by
  have b1 := agCount_le r.g 0 h1 (by decide)
  have b0 := agCount_ge r.g 0
  have b2 : 0 ≤ r.i.cnt 500 0 ∧ r.i.cnt 500 0 ≤ 10000000000 := by
    have e5 := r.i.cnt_le 500 0 (by decide) (by decide) (by decide)
    have e6 := r.i.cnt_ge 500 0 (by decide)
    have e7 := r.i.count_le_size
    omega
  refine ab Tryz.func26 Tryz.ntmps26 Tryz.results26 rfl (by decide) (by simp) rfl rfl ?_
  simp [rlDs]
  refine lp (α := { k : Nat // k ≤ 1 }) (fun k => st26 r k.1) (fun k => 1 - k.1) ⟨0, by decide⟩ ?_ ?_
  · refine le_of [] ?_ ?_ ?_ <;> simp [rlDs, AV.ok, Dc.ok]
  · rintro ⟨k, hk⟩
    have q1 := k73 r.g h1
    have q2 := k7 r.i h2
    by_cases h0 : k = 0
    · subst h0
      have w2 : IntKind.i64.wrap (1 + agCount r.g 0) = 1 + agCount r.g 0 := by rw [IntKind.wrap_i64]; omega
      have w3 : IntKind.i64.wrap (1 + agCount r.g 0 + r.i.cnt 500 0) = 1 + agCount r.g 0 + r.i.cnt 500 0 := by rw [IntKind.wrap_i64]; omega
      have w4 : IntKind.i64.wrap 1 = 1 := by decide
      simp [st26, rlDs]
      refine ⟨by kernel_rfl, ?_⟩
      refine asks q1 ?_ ?_ ?_ <;> simp [agsA, w4, w2]
      refine asks q2 ?_ ?_ ?_ <;> simp [w3, w4]
      refine ⟨1, rfl, Nat.le_refl _, ?_⟩
      refine le_of [] ?_ ?_ ?_ <;> simp [AV.ok, Dc.ok, rlCount]
    · obtain rfl : k = 1 := by omega
      simp [st26, rlDs]
      exact ⟨[], by simp⟩
theorem k35 (r : Rl) (h1 : szAg r.g ≤ 2000000) (h2 : r.i.size ≤ 2000000) : HH 35 [rlL r, iA 500] (iA (rlCount r)) := by
  refine ab Tryz.func35 Tryz.ntmps35 Tryz.results35 rfl (by decide) (by simp) rfl rfl ?_
  simp [rlL, rlC]
  refine asks (k26 r h1 h2) ?_ ?_ ?_ <;> simp [rlDs]
  exact ⟨[], by simp⟩
/-- Places of recursive arguments. -/
def recsI : List Ag → Nat → List Int
  | [], _ => []
  | a :: r, k => if a.r then (k : Int) :: recsI r (k + 1) else recsI r (k + 1)
def inDs : List Int → Ds
  | [] => .nil
  | n :: r => .lit (.int .i64 n) (inDs r)
theorem inDs_len (l : List Int) : (inDs l).len = l.length := by
  induction l with
  | nil => rfl
  | cons a r ih => simp [inDs, Ds.len, ih]
theorem inDs_app (p q : List Int) : inDs (p ++ q) = (inDs p).app (inDs q) := by
  induction p with
  | nil => rfl
  | cons a r ih => simp [inDs, Ds.app, ih]
/-- Variables. -/
def varsT (far : Int) : Nat → Ts
  | 0 => .nil
  | n + 1 => .cons ⟨1, IntKind.i64.wrap (far + n), 0, []⟩ .nil (varsT far n)
end Go.Proofs.YtkcmapimcgppmaaGreatDoor
end
section
namespace Go.Proofs.YtkcmapimcgppmaaGreatDoor
open Go.RowKit
attribute [local simp] ty_p ty_l ty_t kH tDs lvDs Tm.ts finH elemH ac_skip ac_label ac_region ac_seq ac_cond ac_block ac_loop ac_exit ac_ret seqK_n seqK_r seqK_e vo_nil vo_cons blkK loopK callOf vout aout abuiltin aslice ev startSt nmOf St.out putE updo upd contOf freshC K0 asC fillD fieldOf rowD astore aapp srcOf elsOf tb Dc.tk Dc.dp Dc.over Dc.app Dc.ln Dc.ds Dc.sing Dc.cont AV.cont Ds.hd Value.oneCell' retK resOf one1 AV.imp Dc.imp φOf calleeOf AV.isLL AV.list AV.app AV.arg AV.isL AV.ren Dc.ren Dc.lent tmC tmA tsA iA lo? abin AV.nth Dc.own Dc.toks stOf envOf bxOf τOf
attribute [local simp] AV.room amake agC lentAgC Ds.len Ds.dp

theorem varsT_len (f : Int) : ∀ n, (varsT f n).len = n
  | 0 => rfl
  | n + 1 => by simp [varsT, Ts.len, varsT_len f n]
theorem varsT_at (f : Int) : ∀ (n k : Nat), k < n → (varsT f n).hd k = ⟨1, IntKind.i64.wrap (f + (n - 1 - k : Nat)), 0, []⟩ ∧ (varsT f n).kd k = .nil
  | n + 1, 0, _ => ⟨by simp [varsT, Ts.hd], rfl⟩
  | n + 1, k + 1, h => by
    have := varsT_at f n k (by omega)
    simp only [varsT, Ts.hd, Ts.kd]
    rw [this.1, this.2, show n + 1 - 1 - (k + 1) = n - 1 - k by omega]
    exact ⟨rfl, rfl⟩
theorem g175 (n : Int) : HH 175 [iA n] (.agg (.lit (.int .i64 1) (.lit (.int .i64 n) (.lit (.int .i64 0) (.nilr 1 43 (.nilr 5 26 .nil)))))) := by
  refine ab Tryz.func175 Tryz.ntmps175 Tryz.results175 rfl (by decide) (by simp) rfl rfl ?_
  simp
  exact ⟨[], by simp⟩
def st110 (n k : Nat) : St := stOf [(0, iA n), (1, iA 0), (4, .c (.blk 21 (k + 1) 5 26 (.seg none (tDs ty ((varsT 0 n).take k)) .nil) .nil)), (7, iA n), (8, iA k)] [] [(21, k + 1)]
theorem k110 (n : Nat) (hn : n ≤ 100000) : HH 110 [iA n, iA 0] (tsA none (varsT 0 n)) := by
  refine ab Tryz.func110 Tryz.ntmps110 Tryz.results110 rfl (by decide) (by simp) rfl rfl ?_
  have h0 : ¬ (n : Int) < 0 := by omega
  simp [h0]
  refine lp (α := { k : Nat // k ≤ n }) (fun k => st110 n k.1) (fun k => n - k.1) ⟨0, Nat.zero_le _⟩ ?_ ?_
  · refine le_of [] ?_ ?_ ?_ <;> simp [AV.ok, Dc.ok, Ts.take]
  · rintro ⟨k, hk⟩
    by_cases hlt : k < n
    · have w1 : IntKind.i64.wrap (n : Int) = n := by rw [IntKind.wrap_i64]; omega
      have w2 : IntKind.i64.wrap ((n : Int) - 1) = n - 1 := by rw [IntKind.wrap_i64]; omega
      have w3 : IntKind.i64.wrap ((n : Int) - 1 - k) = n - 1 - k := by rw [IntKind.wrap_i64]; omega
      have hw : IntKind.i64.wrap ((k : Int) + 1) = k + 1 := by rw [IntKind.wrap_i64]; omega
      have e0 : 0 + (n - 1 - k : Nat) = (n : Int) - 1 - k := by omega
      simp [st110, hlt, w1, w2, w3, hw]
      refine ⟨by rw [tDs_len, Ts.take_len_le (by rw [varsT_len]; omega)]; omega, k + 1, by omega, by omega, ?_⟩
      refine le_of [((21, 0), [(21, 0)])] ?_ ?_ ?_ <;> simp [AV.ok, Dc.ok]
      obtain ⟨v1, v2⟩ := varsT_at 0 n k hlt
      rw [Ts.take_succ (by rw [varsT_len]; exact hlt), v1, v2, e0, w3, Ts.snoc, tDs_app]; rfl
    · obtain rfl : k = n := by omega
      have e1 : Ts.take k (varsT 0 k) = varsT 0 k := by have := Ts.take_len (varsT 0 k); rwa [varsT_len] at this
      simp [st110, e1, Ds.app_nil]
      exact ⟨[], by simp⟩
def st117 (n k : Nat) : St := stOf [(0, iA n), (1, iA 0), (5, .c (.blk 22 (k + 1) 5 26 (.seg none (tDs ty ((varsT 0 n).take k)) .nil) .nil)), (6, iA ((n : Int) - 1 - k))] [] [(22, k + 1)]
theorem k117 (n : Nat) (hn : n ≤ 100000) : HH 117 [iA n, iA 0] (tsA none (varsT 0 n)) := by
  refine ab Tryz.func117 Tryz.ntmps117 Tryz.results117 rfl (by decide) (by simp) rfl rfl ?_
  by_cases h0 : n = 0
  · subst h0
    simp [varsT]
    exact ⟨[], by simp⟩
  have h1 : ¬ (n : Int) < 1 := by omega
  have w0 : IntKind.i64.wrap ((n : Int) - 1) = n - 1 := by rw [IntKind.wrap_i64]; omega
  simp [h1, w0]
  refine lp (α := { k : Nat // k ≤ n }) (fun k => st117 n k.1) (fun k => n - k.1) ⟨0, Nat.zero_le _⟩ ?_ ?_
  · refine le_of [] ?_ ?_ ?_ <;> simp [AV.ok, Dc.ok, Ts.take]
  · rintro ⟨k, hk⟩
    by_cases hlt : k < n
    · have w3 : IntKind.i64.wrap ((n : Int) - 1 - k) = n - 1 - k := by rw [IntKind.wrap_i64]; omega
      have w4 : IntKind.i64.wrap ((n : Int) - 1 - k - 1) = n - 1 - (k + 1) := by rw [IntKind.wrap_i64]; omega
      have e0 : 0 + (n - 1 - k : Nat) = (n : Int) - 1 - k := by omega
      have h2 : (k : Int) ≤ (n : Int) - 1 := by omega
      simp [st117, h2, w3]
      refine asks (g175 ((n : Int) - 1 - k)) ?_ ?_ ?_ <;> simp [w3]
      refine ⟨by rw [tDs_len, Ts.take_len_le (by rw [varsT_len]; omega)]; omega, k + 1, by omega, by omega, ?_⟩
      refine le_of [((22, 0), [(22, 0)])] ?_ ?_ ?_ <;> simp [AV.ok, Dc.ok, w4]
      obtain ⟨v1, v2⟩ := varsT_at 0 n k hlt
      rw [Ts.take_succ (by rw [varsT_len]; exact hlt), v1, v2, e0, w3, Ts.snoc, tDs_app]; rfl
    · obtain rfl : k = n := by omega
      have e1 : Ts.take k (varsT 0 k) = varsT 0 k := by have := Ts.take_len (varsT 0 k); rwa [varsT_len] at this
      have h2 : ¬ (k : Int) ≤ (k : Int) - 1 := by omega
      simp [st117, e1, Ds.app_nil, h2]
      exact ⟨[], by simp⟩
theorem recsI_app : ∀ (a b : List Ag) (k : Nat), recsI (a ++ b) k = recsI a k ++ recsI b (k + a.length)
  | [], b, k => by simp [recsI]
  | a :: r, b, k => by
    have := recsI_app r b (k + 1)
    have e : k + 1 + r.length = k + (r.length + 1) := by omega
    simp only [List.cons_append, recsI, List.length_cons]
    rw [this, e]
    split <;> rfl
theorem recsI_take {l : List Ag} {k : Nat} (h : k < l.length) : recsI (l.take (k + 1)) 0 = recsI (l.take k) 0 ++ (if l[k].r then [(k : Int)] else []) := by
  rw [take_ag h, recsI_app]
  have : (l.take k).length = k := by rw [List.length_take]; omega
  rw [this, Nat.zero_add]
  simp only [recsI]
theorem recsI_len : ∀ (l : List Ag) (k : Nat), (recsI l k).length ≤ l.length
  | [], _ => Nat.le_refl _
  | a :: r, k => by
    have := recsI_len r (k + 1)
    simp only [recsI, List.length_cons]
    split <;> simp <;> omega
def st46 (r : Rl) (k : Nat) : St := stOf [(1, .bx 2 0), (2, .c (.blk 19 ((recsI (r.g.take k) 0).length + 1) 1 3 (.seg none (inDs (recsI (r.g.take k) 0)) .nil) .nil)), (6, agsA r.g), (7, iA r.g.length), (8, iA k)] [(2, 65, rlC r)] [(19, (recsI (r.g.take k) 0).length + 1)]
theorem k46 (r : Rl) (hl : r.g.length ≤ 1000000) : HH 46 [rlL r] (.c (.row none 1 3 (inDs (recsI r.g 0)) .nil)) := by
  refine ab Tryz.func46 Tryz.ntmps46 Tryz.results46 rfl (by decide) (by simp) rfl rfl ?_
  have d0 : r.g.length * 9 / 9 = r.g.length := by omega
  simp [rlL, rlC, agDs_len, d0]
  refine lp (α := { k : Nat // k ≤ r.g.length }) (fun k => st46 r k.1) (fun k => r.g.length - k.1) ⟨0, Nat.zero_le _⟩ ?_ ?_
  · refine le_of [((19, 0), [(19, 0)])] ?_ ?_ ?_ <;> simp [AV.ok, Dc.ok, agsA, rlC, recsI, inDs]
  · rintro ⟨k, hk⟩
    have hw : IntKind.i64.wrap ((k : Int) + 1) = k + 1 := by rw [IntKind.wrap_i64]; omega
    by_cases hlt : k < r.g.length
    · have h1 := dp_ag hlt
      have h9 := recsI_take hlt
      have h8 := recsI_len (r.g.take k) 0
      rw [List.length_take] at h8
      generalize r.g.drop (k + 1) = q at h1
      cases hr : r.g[k].r with
      | true =>
        rw [hr, if_pos rfl] at h9
        simp [st46, agsA, rlC, agDs_len, d0, hlt, h1, agDs, hr, hw]
        refine ⟨by omega, by rw [inDs_len]; omega, k + 1, by omega, by omega, ?_⟩
        refine le_of [((19, 0), [(19, 0)])] ?_ ?_ ?_ <;> simp [AV.ok, Dc.ok, h9, inDs_app, inDs]
      | false =>
        rw [hr, if_neg (by decide), List.append_nil] at h9
        simp [st46, agsA, rlC, agDs_len, d0, hlt, h1, agDs, hr, hw]
        refine ⟨by omega, k + 1, by omega, by omega, ?_⟩
        refine le_of [((19, 0), [(19, 0)])] ?_ ?_ ?_ <;> simp [AV.ok, Dc.ok, h9, Ds.app_nil]
    · obtain rfl : k = r.g.length := by omega
      simp [st46, agsA, rlC, agDs_len, d0, Ds.app_nil]
      exact ⟨[], by simp⟩
def st47 (r : Rl) (k : Nat) : St := stOf [(1, .bx 2 0), (3, .c (.blk 22 ((recsI (r.g.take k) 0).length + 1) 1 3 (.seg none (inDs (recsI (r.g.take k) 0)) .nil) .nil)), (4, iA k)] [(2, 65, rlC r)] [(22, (recsI (r.g.take k) 0).length + 1)]
theorem k47 (r : Rl) (hl : r.g.length ≤ 1000000) : HH 47 [rlL r] (.c (.row none 1 3 (inDs (recsI r.g 0)) .nil)) := by
  refine ab Tryz.func47 Tryz.ntmps47 Tryz.results47 rfl (by decide) (by simp) rfl rfl ?_
  have d0 : r.g.length * 9 / 9 = r.g.length := by omega
  simp [rlL, rlC, agDs_len, d0]
  refine lp (α := { k : Nat // k ≤ r.g.length }) (fun k => st47 r k.1) (fun k => r.g.length - k.1) ⟨0, Nat.zero_le _⟩ ?_ ?_
  · refine le_of [((22, 0), [(22, 0)])] ?_ ?_ ?_ <;> simp [AV.ok, Dc.ok, agsA, rlC, recsI, inDs]
  · rintro ⟨k, hk⟩
    have hw : IntKind.i64.wrap ((k : Int) + 1) = k + 1 := by rw [IntKind.wrap_i64]; omega
    by_cases hlt : k < r.g.length
    · have h1 := dp_ag hlt
      have h9 := recsI_take hlt
      have h8 := recsI_len (r.g.take k) 0
      rw [List.length_take] at h8
      generalize r.g.drop (k + 1) = q at h1
      cases hr : r.g[k].r with
      | true =>
        rw [hr, if_pos rfl] at h9
        simp [st47, agsA, rlC, agDs_len, d0, hlt, h1, agDs, hr, hw]
        refine ⟨by omega, by rw [inDs_len]; omega, k + 1, by omega, by omega, ?_⟩
        refine le_of [((22, 0), [(22, 0)])] ?_ ?_ ?_ <;> simp [AV.ok, Dc.ok, h9, inDs_app, inDs]
      | false =>
        rw [hr, if_neg (by decide), List.append_nil] at h9
        simp [st47, agsA, rlC, agDs_len, d0, hlt, h1, agDs, hr, hw]
        refine ⟨by omega, k + 1, by omega, by omega, ?_⟩
        refine le_of [((22, 0), [(22, 0)])] ?_ ?_ ?_ <;> simp [AV.ok, Dc.ok, h9, Ds.app_nil]
    · obtain rfl : k = r.g.length := by omega
      simp [st47, agsA, rlC, agDs_len, d0, Ds.app_nil]
      exact ⟨[], by simp⟩
theorem dp_in {l : List Int} {k : Nat} (h : k < l.length) : (inDs l).dp k = inDs (l[k] :: l.drop (k + 1)) := by
  have e : l = l.take k ++ (l[k] :: l.drop (k + 1)) := by rw [← List.drop_eq_getElem_cons h, List.take_append_drop]
  have h2 : (inDs (l.take k)).len = k := by rw [inDs_len, List.length_take]; omega
  conv => lhs; rw [e, inDs_app]; arg 1; rw [← h2]
  rw [Ds.dp_app]
def st45 (l : List Int) (k : Nat) : St := stOf [(0, .c (.row none 1 3 (inDs l) .nil)), (1, .c (.row none 1 3 (inDs l) .nil)), (5, iA k)] [] []
theorem k45 (l : List Int) (hl : l.length ≤ 1000000) : HH 45 [.c (.row none 1 3 (inDs l) .nil), .c (.row none 1 3 (inDs l) .nil)] (.v (.bool true)) := by
  refine ab Tryz.func45 Tryz.ntmps45 Tryz.results45 rfl (by decide) (by simp) rfl rfl ?_
  simp [inDs_len]
  refine lp (α := { k : Nat // k ≤ l.length }) (fun k => st45 l k.1) (fun k => l.length - k.1) ⟨0, Nat.zero_le _⟩ ?_ ?_
  · refine le_of [] ?_ ?_ ?_ <;> simp [AV.ok, Dc.ok]
  · rintro ⟨k, hk⟩
    have hw : IntKind.i64.wrap ((k : Int) + 1) = k + 1 := by rw [IntKind.wrap_i64]; omega
    by_cases hlt : k < l.length
    · have h1 := dp_in hlt
      generalize l.drop (k + 1) = q at h1
      generalize l[k] = a at h1
      simp [st45, inDs_len, hlt, h1, inDs, hw]
      refine ⟨by kernel_rfl, by omega, k + 1, by omega, by omega, ?_⟩
      refine le_of [] ?_ ?_ ?_ <;> simp [AV.ok, Dc.ok]
    · obtain rfl : k = l.length := by omega
      simp [st45, inDs_len]
      exact ⟨[], by simp⟩
end Go.Proofs.YtkcmapimcgppmaaGreatDoor
end
section
namespace Go.Proofs.YtkcmapimcgppmaaGreatDoor
open Go.RowKit
attribute [local simp] ty_p ty_l ty_t kH tDs lvDs Tm.ts finH elemH ac_skip ac_label ac_region ac_seq ac_cond ac_block ac_loop ac_exit ac_ret seqK_n seqK_r seqK_e vo_nil vo_cons blkK loopK callOf vout aout abuiltin aslice ev startSt nmOf St.out putE updo upd contOf freshC K0 asC fillD fieldOf rowD astore aapp srcOf elsOf tb Dc.tk Dc.dp Dc.over Dc.app Dc.ln Dc.ds Dc.sing Dc.cont AV.cont Ds.hd Value.oneCell' retK resOf one1 AV.imp Dc.imp φOf calleeOf AV.isLL AV.list AV.app AV.arg AV.isL AV.ren Dc.ren Dc.lent tmC tmA tsA iA lo? abin AV.nth Dc.own Dc.toks stOf envOf bxOf τOf
attribute [local simp] AV.room amake agC lentAgC Ds.len Ds.dp

theorem k167 (t : Tm) (hf : t.fits) (hs : t.size ≤ 1000000) : HH 167 [tmL t] (tmL t) := by
  refine ab Tryz.func167 Tryz.ntmps167 Tryz.results167 rfl (by decide) (by simp) rfl rfl ?_
  simp
  refine asks (h60' t hf hs) ?_ ?_ ?_ <;> simp
  exact ⟨[], by simp⟩
def st233 (t a : Ts) : St := stOf [(2, .c (.blk 16 (a.len + 1) 5 26 (.seg none (tDs ty a) .nil) .nil)), (5, tsA none t), (6, iA t.len), (7, iA a.len)] [] [(16, a.len + 1)]
theorem k233 (t : Ts) (hf : t.fits) (hs : t.size ≤ 1000000) : HH 233 [tsA none t] (tsA none t) := by
  have hl : t.len ≤ 1000000 := Nat.le_trans (len_le_size t) hs
  have d0 : t.len * 5 / 5 = t.len := by omega
  refine ab Tryz.func233 Tryz.ntmps233 Tryz.results233 rfl (by decide) (by simp) rfl rfl ?_
  simp [tDs_len, d0]
  refine lp (α := { q : Ts × Ts // q.1.app q.2 = t }) (fun q => st233 t q.1.1) (fun q => q.1.2.len) ⟨(.nil, t), rfl⟩ ?_ ?_
  · refine le_of [((16, 0), [(16, 0)])] ?_ ?_ ?_ <;> simp [Ts.len, AV.ok, Dc.ok]
  · rintro ⟨⟨a, r⟩, hq⟩
    simp only at hq
    cases r with
    | nil =>
      have e : a = t := by rw [← hq]; exact (Ts.app_nil a).symm
      subst e
      simp [st233, Ds.app_nil]
      exact ⟨[], by simp⟩
    | cons h y r =>
      have h1 : a.len < t.len := by rw [← hq]; simp [Ts.app_len, Ts.len]
      have h2 : (tDs ty t).dp (a.len * 5) = tDs ty (.cons h y r) := by rw [← hq]; exact dp_mid a _
      have h3 : h.fits ∧ y.fits := app_fits (a := a) (by rw [hq]; exact hf)
      have h4 : lvSize h.l + y.size + 1 ≤ t.size := by rw [← hq]; exact app_size
      have hw : IntKind.i64.wrap ((a.len : Int) + 1) = a.len + 1 := by rw [IntKind.wrap_i64]; omega
      simp [st233, tDs_len, d0, h1, h2]
      refine ⟨by omega, ?_⟩
      refine asks (k167 ⟨h, y⟩ h3 (by show lvSize h.l + y.size ≤ 1000000; omega)) ?_ ?_ ?_ <;> simp
      refine ⟨by rw [tDs_len]; omega, a.app (.cons h y .nil), r, by simp [Ts.len], by rw [Ts.app_assoc]; exact hq, ?_⟩
      refine le_of [((16, 0), [(16, 0)])] ?_ ?_ ?_ <;> simp [Ts.len, Ts.app_len, AV.ok, Dc.ok, hw]
      exact (tDs_app ty a (.cons h y .nil)).symm
theorem k217 (t : Ts) (hf : t.fits) (hs : t.size ≤ 1000000) : HH 217 [tsA none t] (.agg (.row none 5 26 (tDs ty t) .nil)) := by
  refine ab Tryz.func217 Tryz.ntmps217 Tryz.results217 rfl (by decide) (by simp) rfl rfl ?_
  simp
  refine asks (k233 t hf hs) ?_ ?_ ?_ <;> simp
  exact ⟨[], by simp⟩
theorem k162 (t : Ts) (b : Tm) (hf : t.fits) (hs : t.size ≤ 1000000) (hbf : b.fits) (hbs : b.size ≤ 1000000) : HH 162 [tsA none t, tmL b] (tmL (aboveT 5 t b)) := by
  refine ab Tryz.func162 Tryz.ntmps162 Tryz.results162 rfl (by decide) (by simp) rfl rfl ?_
  simp
  refine ⟨by kernel_rfl, ?_⟩
  refine asks (k217 t hf hs) ?_ ?_ ?_ <;> simp
  refine asks (k167 b hbf hbs) ?_ ?_ ?_ <;> simp
  refine asks (k218 5 t b) ?_ ?_ ?_ <;> simp
  exact ⟨[], by simp⟩
theorem dp_drop (t : Ts) : ∀ k, (tDs ty t).dp (k * 5) = tDs ty (t.drop k) := by
  induction t with
  | nil =>
    intro k
    have e : ∀ n, Ds.dp n .nil = .nil := fun n => by cases n <;> rfl
    have e2 : Ts.drop k .nil = .nil := by cases k <;> rfl
    rw [e2]; exact e _
  | cons h x r _ ih =>
    intro k
    cases k with
    | zero => rw [Nat.zero_mul]; rfl
    | succ k => rw [show (k + 1) * 5 = k * 5 + 5 by omega]; exact ih k
def st226 (t : Ts) (b : Tm) (j : Nat) : St := stOf [(0, iA 5), (1, tsA none t), (6, .bx 7 0), (7, .bx 8 0), (8, iA ((j : Int) - 1))] [(7, 26, .lit (.int .i64 0) (.lit (.int .i64 0) (.lit (.int .i64 0) (.nilr 1 43 (.nilr 5 26 .nil))))), (8, 26, tmC none none (aboveT 5 (t.drop j) b).h (aboveT 5 (t.drop j) b).x)] []
theorem k226 (t : Ts) (b : Tm) (hf : t.fits) (hs : t.size ≤ 1000000) (hbf : b.fits) (hbs : b.size ≤ 1000000) : HH 226 [iA 5, tsA none t, tmL b] (tmL (aboveT 5 t b)) := by
  have hl : t.len ≤ 1000000 := Nat.le_trans (len_le_size t) hs
  have d0 : t.len * 5 / 5 = t.len := by omega
  have w0 : IntKind.i64.wrap ((t.len : Int) - 1) = t.len - 1 := by rw [IntKind.wrap_i64]; omega
  refine ab Tryz.func226 Tryz.ntmps226 Tryz.results226 rfl (by decide) (by simp) rfl rfl ?_
  simp [tDs_len, d0]
  refine asks (h63' b hbf (by omega)) ?_ ?_ ?_ <;> simp [tDs_len, d0, w0]
  refine lp (α := { j : Nat // j ≤ t.len }) (fun j => st226 t b j.1) (fun j => j.1) ⟨t.len, Nat.le_refl _⟩ ?_ ?_
  · refine le_of [] ?_ ?_ ?_ <;> simp [AV.ok, Dc.ok, Ts.drop_len, aboveT]
  · rintro ⟨j, hj⟩
    cases j with
    | zero =>
      simp [st226, Ts.drop]
      exact ⟨[], by simp⟩
    | succ j =>
      have h1 : j < t.len := hj
      have h2 := dp_drop t j
      have h3 := Ts.drop_step h1
      have h4 := Ts.fits_hd hf h1
      have h5 := Ts.size_kd h1
      rw [h3] at h2
      have h6 : aboveT 5 (t.drop j) b = ⟨kH 5, .cons (t.hd j) (t.kd j) (aboveT 5 (t.drop (j + 1)) b).ts⟩ := by rw [h3]; rfl
      have w1 : IntKind.i64.wrap ((j : Int) - 1) = j - 1 := by rw [IntKind.wrap_i64]; omega
      generalize t.hd j = hh at *
      generalize t.kd j = hx at *
      generalize hB : aboveT 5 (t.drop (j + 1)) b = B at *
      simp [st226, h2, tDs_len]
      refine ⟨by kernel_rfl, by omega, ?_⟩
      refine asks (h63' ⟨hh, hx⟩ h4 (by show lvSize hh.l + hx.size ≤ 2000000; omega)) ?_ ?_ ?_ <;> simp [w1]
      refine ⟨j, by omega, by omega, ?_⟩
      refine le_of [] ?_ ?_ ?_ <;> simp [AV.ok, Dc.ok, h6, hB]
theorem k196 (t : Ts) (b : Tm) (hf : t.fits) (hs : t.size ≤ 1000000) (hbf : b.fits) (hbs : b.size ≤ 1000000) : HH 196 [tsA none t, tmL b] (tmL (aboveT 5 t b)) := by
  refine ab Tryz.func196 Tryz.ntmps196 Tryz.results196 rfl (by decide) (by simp) rfl rfl ?_
  simp
  refine asks (k226 t b hf hs hbf hbs) ?_ ?_ ?_ <;> simp
  exact ⟨[], by simp⟩
end Go.Proofs.YtkcmapimcgppmaaGreatDoor
end
section
namespace Go.Proofs.YtkcmapimcgppmaaGreatDoor
open Go.RowKit
attribute [local simp] ty_p ty_l ty_t kH tDs lvDs Tm.ts finH elemH ac_skip ac_label ac_region ac_seq ac_cond ac_block ac_loop ac_exit ac_ret seqK_n seqK_r seqK_e vo_nil vo_cons blkK loopK callOf vout aout abuiltin aslice ev startSt nmOf St.out putE updo upd contOf freshC K0 asC fillD fieldOf rowD astore aapp srcOf elsOf tb Dc.tk Dc.dp Dc.over Dc.app Dc.ln Dc.ds Dc.sing Dc.cont AV.cont Ds.hd Value.oneCell' retK resOf one1 AV.imp Dc.imp φOf calleeOf AV.isLL AV.list AV.app AV.arg AV.isL AV.ren Dc.ren Dc.lent tmC tmA tsA iA lo? abin AV.nth Dc.own Dc.toks stOf envOf bxOf τOf
attribute [local simp] AV.room amake agC lentAgC Ds.len Ds.dp

def Ts.tm (t : Ts) (k : Nat) : Tm := ⟨t.hd k, t.kd k⟩
/-- Of a node at a depth: what is put for it, or the node as it is left. -/
def putNode (y : Ts) (h : Hd) (d : Nat) : Tm ⊕ Hd :=
  if h.k = 1 ∧ (d : Int) ≤ h.n then
    if h.n - d < y.len then .inl ((y.tm (y.len - 1 - (h.n - d).toNat)).lift d 0)
    else .inr { h with n := IntKind.i64.wrap (h.n - y.len) }
  else .inr h
def putR (y : Ts) : Int → Nat → Nat → Ts → Ts
  | _, _, _, .nil => .nil
  | pk, i, d, .cons h x r => match putNode y h (deeper pk i d) with
    | .inl t => .cons t.h t.x (putR y pk (i + 1) d r)
    | .inr h' => .cons h' (putR y h.k 0 (deeper pk i d) x) (putR y pk (i + 1) d r)
def putAt (y : Ts) (d : Nat) (t : Tm) : Tm := match putNode y t.h d with
  | .inl u => u
  | .inr h' => ⟨h', putR y t.h.k 0 d t.x⟩
theorem putR_cons (y : Ts) (pk : Int) (i d : Nat) (h : Hd) (x r : Ts) : putR y pk i d (.cons h x r) = .cons (putAt y (deeper pk i d) ⟨h, x⟩).h (putAt y (deeper pk i d) ⟨h, x⟩).x (putR y pk (i + 1) d r) := by
  simp only [putR, putAt]
  split <;> rfl
theorem k229 (l : List Lv) (hs : lvSize l ≤ 2000000) : HH 229 [.c (.row none 1 43 (lvDs ty l) .nil)] (.c (.row none 1 43 (lvDs ty l) .nil)) := by
  refine ⟨code_of Tryz.func229 (by decide) rfl, rfl, fun F w vs hF hG hv => ?_⟩
  obtain ⟨u, rfl, h1⟩ := list1 hv
  obtain ⟨-, v1, _, e, h1, -⟩ := h1
  cases e
  refine (refLevels_any l u w (h1.mono (fun b o v _ hv => hF b o v hv) (Nat.le_refl _)) hs).mono ?_
  rintro e w' ⟨v, S, rfl, h5, h6, h7⟩
  obtain ⟨v', _, e2, h8, -⟩ := Vs.res (F := F) (fp := fun _ => []) (Nat.le_refl _) h6
  cases e2
  exact ⟨v, fun _ => [], rfl, h5, ⟨lvDs_good l, v, [], rfl, h8, Gh.Ow_none, rfl⟩, fun k b hb => (by cases hb), fun k k' b hb => (by cases hb)⟩
theorem k228 (k : Int) (i : Nat) : HH 228 [iA k, iA i] (.v (.bool (binds k i))) := by
  refine ⟨code_of Tryz.func228 (by decide) rfl, rfl, fun F w vs hF hG hv => ?_⟩
  obtain ⟨u, v, rfl, h1, h2⟩ := list2 hv
  rw [iA_eq h1, iA_eq h2]
  refine (refBinds_any k i w).mono ?_
  rintro e w' ⟨rfl, rfl⟩
  exact ⟨_, fun _ => [], rfl, Below.refl _ _, rfl, fun k b hb => (by cases hb), fun k k' b hb => (by cases hb)⟩
theorem k205 (t : Tm) (i d : Nat) (hd : d ≤ 2000000000) : HH 205 [tmL t, iA i, iA d] (iA (deeper t.h.k i d)) := by
  refine ab Tryz.func205 Tryz.ntmps205 Tryz.results205 rfl (by decide) (by simp) rfl rfl ?_
  have hw : IntKind.i64.wrap ((d : Int) + 1) = d + 1 := by rw [IntKind.wrap_i64]; omega
  simp
  refine asks (k228 t.h.k i) ?_ ?_ ?_ <;> simp
  cases hb : binds t.h.k i <;> simp [hb, deeper, hw]
  all_goals exact ⟨[], by simp⟩
theorem k206 (h : Hd) (x k : Ts) (hs : lvSize h.l ≤ 2000000) : HH 206 [tmL ⟨h, x⟩, tsA none k] (tmL ⟨h, k⟩) := by
  refine ab Tryz.func206 Tryz.ntmps206 Tryz.results206 rfl (by decide) (by simp) rfl rfl ?_
  simp
  refine asks (k229 h.l hs) ?_ ?_ ?_ <;> simp
  exact ⟨[], by simp⟩
theorem k128 (t : Tm) (n f : Int) (hf : t.fits) (hs : t.size ≤ 2000000) : HH 128 [tmL t, iA n, iA f, iA 0] (tmO (t.lift n f)) := by
  refine holds_tm (code_of Tryz.func128 (by decide) rfl) fun F w vs hF _ hv => ?_
  obtain ⟨u, y, rfl, h1, v, y2, rfl, h2, z, y3, rfl, h3, q, y4, rfl, h4, rfl⟩ := hv
  rw [iA_eq h2, iA_eq h3, iA_eq h4]
  have := t.x.count_le_size
  exact (refLift_any _ t.h t.x u n f 0 w (Nat.lt_succ_self _) (tmA_rm hF h1) hf.1 hf.2 hs (by unfold Tm.size at hs; omega)).mono fun e w' hm => MakesT.of hm
theorem putR_app (y : Ts) (pk : Int) (d : Nat) : ∀ (a b : Ts) (i : Nat), putR y pk i d (a.app b) = (putR y pk i d a).app (putR y pk (i + a.len) d b)
  | .nil, b, i => rfl
  | .cons h x r, b, i => by
    have := putR_app y pk d r b (i + 1)
    rw [Ts.app, putR_cons, putR_cons, this, Ts.app, Ts.len]
    rw [show i + 1 + r.len = i + (r.len + 1) by omega]
theorem putR_len (y : Ts) (pk : Int) (d : Nat) : ∀ (a : Ts) (i : Nat), (putR y pk i d a).len = a.len
  | .nil, i => rfl
  | .cons h x r, i => by rw [putR_cons, Ts.len, Ts.len, putR_len y pk d r (i + 1)]
def st225 (y : Ts) (d : Nat) (h : Hd) (x : Ts) (a : Ts) : St := stOf [(1, tsA none y), (2, iA d), (3, .bx 4 0), (6, .bx 7 0), (9, .c (.blk 64 (a.len + 1) 5 26 (.seg none (tDs ty (putR y h.k 0 d a)) .nil) .nil)), (10, iA a.len)] [(4, 26, tmC none none h x), (7, 26, .lit (.int .i64 0) (.lit (.int .i64 0) (.lit (.int .i64 0) (.nilr 1 43 (.nilr 5 26 .nil)))))] [(64, a.len + 1)]
set_option maxRecDepth 10000 in
set_option maxHeartbeats 4000000 in
theorem k225 (y : Ts) (hy : y.fits) (hys : y.size ≤ 1000000) : ∀ (M : Nat) (t : Tm) (d : Nat), t.size < M → t.fits → t.size + d ≤ 1000000 → HH 225 [tmL t, tsA none y, iA d] (tmL (putAt y d t)) := by
  have hyl : y.len ≤ 1000000 := Nat.le_trans (len_le_size y) hys
  intro M
  induction M with
  | zero => intro t d h; omega
  | succ M ih =>
    rintro ⟨h, x⟩ d hM hf hs
    have d0 : y.len * 5 / 5 = y.len := by omega
    have dx : x.len * 5 / 5 = x.len := by omega
    have hxl : x.len ≤ 1000000 := by have := len_le_size x; unfold Tm.size at hs; simp only at hs; omega
    have hnb : -9223372036854775808 ≤ h.n ∧ h.n ≤ 9223372036854775807 := hf.1.2.1
    refine ab Tryz.func225 Tryz.ntmps225 Tryz.results225 rfl (by decide) (by simp) rfl rfl ?_
    by_cases c1 : h.k = 1 ∧ (d : Int) ≤ h.n
    · have w1 : IntKind.i64.wrap (h.n - d) = h.n - d := by rw [IntKind.wrap_i64]; omega
      by_cases c2 : h.n - d < y.len
      · obtain ⟨j, hj⟩ : ∃ j : Nat, (y.len : Int) - 1 - (h.n - d) = j := ⟨((y.len : Int) - 1 - (h.n - d)).toNat, by omega⟩
        have hjl : j < y.len := by omega
        have e1 : putAt y d ⟨h, x⟩ = Tm.lift ⟨y.hd j, y.kd j⟩ d 0 := by
          have : y.len - 1 - (h.n - d).toNat = j := by omega
          simp only [putAt, putNode, if_pos c1, if_pos c2, this]; rfl
        have w2 : IntKind.i64.wrap ((y.len : Int) - 1) = y.len - 1 := by rw [IntKind.wrap_i64]; omega
        have w3 : IntKind.i64.wrap ((y.len : Int) - 1 - (h.n - d)) = j := by rw [IntKind.wrap_i64]; omega
        have h2 := dp_drop y j
        have h3 := Ts.drop_step hjl
        have h4 := Ts.fits_hd hy hjl
        have h5 := Ts.size_kd hjl
        rw [h3] at h2
        rw [e1]
        clear e1 h3
        generalize y.hd j = uh at *
        generalize y.kd j = ux at *
        generalize y.drop (j + 1) = ur at *
        obtain ⟨c1k, c1n⟩ := c1
        simp [tDs_len, d0, c1k, c1n, c2, w1, w2, w3, h2]
        refine ⟨by omega, ?_⟩
        refine asks (k128 ⟨uh, ux⟩ d 0 h4 (by unfold Tm.size; simp only; omega)) ?_ ?_ ?_ <;> simp
        exact ⟨[], by simp⟩
      · have e1 : putAt y d ⟨h, x⟩ = ⟨{ h with n := IntKind.i64.wrap (h.n - y.len) }, putR y h.k 0 d x⟩ := by
          simp only [putAt, putNode, if_pos c1, if_neg c2]
        rw [e1]
        obtain ⟨hk, hn, ha, hl⟩ := h
        obtain ⟨c1k, c1n⟩ := c1
        simp only at c1k c1n
        subst c1k
        clear e1
        simp only at c2 w1
        simp [tDs_len, d0, c1n, c2, w1]
        refine lp (α := { q : Ts × Ts // q.1.app q.2 = x }) (fun q => st225 y d ⟨1, IntKind.i64.wrap (hn - y.len), ha, hl⟩ x q.1.1) (fun q => q.1.2.len) ⟨(.nil, x), rfl⟩ ?_ ?_
        · refine le_of [((64, 0), [(64, 0)])] ?_ ?_ ?_ <;> simp [putR, Ts.len, AV.ok, Dc.ok]
        · rintro ⟨⟨a, r⟩, hq⟩
          simp only at hq
          cases r with
          | nil =>
            have e : a = x := by rw [← hq]; exact (Ts.app_nil a).symm
            subst e
            simp [st225, tDs_len, dx]
            refine asks (k206 ⟨1, IntKind.i64.wrap (hn - y.len), ha, hl⟩ a (putR y 1 0 d a) (by unfold Tm.size at hs; dsimp only at hs ⊢; omega)) ?_ ?_ ?_ <;> simp [Ds.app_nil]
            exact ⟨[], by simp⟩
          | cons hh hx r =>
            have h1 : a.len < x.len := by rw [← hq]; simp [Ts.app_len, Ts.len]
            have h2 : (tDs ty x).dp (a.len * 5) = tDs ty (.cons hh hx r) := by rw [← hq]; exact dp_mid a _
            have h3 : hh.fits ∧ hx.fits := app_fits (a := a) (by rw [hq]; exact hf.2)
            have h4 : lvSize hh.l + hx.size + 1 ≤ x.size := by rw [← hq]; exact app_size
            have hw : IntKind.i64.wrap ((a.len : Int) + 1) = a.len + 1 := by rw [IntKind.wrap_i64]; omega
            have hdp : deeper 1 a.len d ≤ d + 1 := by unfold deeper; split <;> omega
            have hne : tDs ty (putR y 1 0 d (a.app (.cons hh hx .nil))) = (tDs ty (putR y 1 0 d a)).app (tDs ty (putAt y (deeper 1 a.len d) ⟨hh, hx⟩).ts) := by
              rw [putR_app, putR_cons, tDs_app, Nat.zero_add]; rfl
            have hsz : x.size ≤ (⟨⟨1, hn, ha, hl⟩, x⟩ : Tm).size := by unfold Tm.size; simp only; omega
            have hsz2 : (⟨hh, hx⟩ : Tm).size + 1 ≤ x.size := h4
            have ihh := ih ⟨hh, hx⟩ (deeper 1 a.len d) (by omega) h3 (by omega)
            generalize putAt y (deeper 1 a.len d) ⟨hh, hx⟩ = P at *
            simp [st225, tDs_len, dx, h1, h2]
            refine ⟨by kernel_rfl, by omega, ?_⟩
            refine asks (k205 ⟨⟨1, IntKind.i64.wrap (hn - y.len), ha, hl⟩, x⟩ a.len d (by omega)) ?_ ?_ ?_ <;> simp
            refine asks ihh ?_ ?_ ?_ <;> simp
            refine ⟨by rw [tDs_len, putR_len]; omega, a.app (.cons hh hx .nil), r, by simp [Ts.len], by rw [Ts.app_assoc]; exact hq, ?_⟩
            refine le_of [((64, 0), [(64, 0)])] ?_ ?_ ?_ <;> simp [Ts.len, Ts.app_len, AV.ok, Dc.ok, hw, hne]
    · have e1 : putAt y d ⟨h, x⟩ = ⟨h, putR y h.k 0 d x⟩ := by
        simp only [putAt, putNode, if_neg c1]
      rw [e1]
      by_cases c3 : h.k = 1
      · have c4 : ¬ (d : Int) ≤ h.n := fun h9 => c1 ⟨c3, h9⟩
        obtain ⟨hk, hn, ha, hl⟩ := h
        simp only at c3 c4
        subst c3
        clear e1 c1
        simp [tDs_len, d0, c4]
        refine lp (α := { q : Ts × Ts // q.1.app q.2 = x }) (fun q => st225 y d ⟨1, hn, ha, hl⟩ x q.1.1) (fun q => q.1.2.len) ⟨(.nil, x), rfl⟩ ?_ ?_
        · refine le_of [((64, 0), [(64, 0)])] ?_ ?_ ?_ <;> simp [putR, Ts.len, AV.ok, Dc.ok]
        · rintro ⟨⟨a, r⟩, hq⟩
          simp only at hq
          cases r with
          | nil =>
            have e : a = x := by rw [← hq]; exact (Ts.app_nil a).symm
            subst e
            simp [st225, tDs_len, dx]
            refine asks (k206 ⟨1, hn, ha, hl⟩ a (putR y 1 0 d a) (by unfold Tm.size at hs; dsimp only at hs ⊢; omega)) ?_ ?_ ?_ <;> simp [Ds.app_nil]
            exact ⟨[], by simp⟩
          | cons hh hx r =>
            have h1 : a.len < x.len := by rw [← hq]; simp [Ts.app_len, Ts.len]
            have h2 : (tDs ty x).dp (a.len * 5) = tDs ty (.cons hh hx r) := by rw [← hq]; exact dp_mid a _
            have h3 : hh.fits ∧ hx.fits := app_fits (a := a) (by rw [hq]; exact hf.2)
            have h4 : lvSize hh.l + hx.size + 1 ≤ x.size := by rw [← hq]; exact app_size
            have hw : IntKind.i64.wrap ((a.len : Int) + 1) = a.len + 1 := by rw [IntKind.wrap_i64]; omega
            have hdp : deeper 1 a.len d ≤ d + 1 := by unfold deeper; split <;> omega
            have hne : tDs ty (putR y 1 0 d (a.app (.cons hh hx .nil))) = (tDs ty (putR y 1 0 d a)).app (tDs ty (putAt y (deeper 1 a.len d) ⟨hh, hx⟩).ts) := by
              rw [putR_app, putR_cons, tDs_app, Nat.zero_add]; rfl
            have hsz : x.size ≤ (⟨⟨1, hn, ha, hl⟩, x⟩ : Tm).size := by unfold Tm.size; simp only; omega
            have hsz2 : (⟨hh, hx⟩ : Tm).size + 1 ≤ x.size := h4
            have ihh := ih ⟨hh, hx⟩ (deeper 1 a.len d) (by omega) h3 (by omega)
            generalize putAt y (deeper 1 a.len d) ⟨hh, hx⟩ = P at *
            simp [st225, tDs_len, dx, h1, h2]
            refine ⟨by kernel_rfl, by omega, ?_⟩
            refine asks (k205 ⟨⟨1, hn, ha, hl⟩, x⟩ a.len d (by omega)) ?_ ?_ ?_ <;> simp
            refine asks ihh ?_ ?_ ?_ <;> simp
            refine ⟨by rw [tDs_len, putR_len]; omega, a.app (.cons hh hx .nil), r, by simp [Ts.len], by rw [Ts.app_assoc]; exact hq, ?_⟩
            refine le_of [((64, 0), [(64, 0)])] ?_ ?_ ?_ <;> simp [Ts.len, Ts.app_len, AV.ok, Dc.ok, hw, hne]
      · simp [tDs_len, d0, c3]
        refine lp (α := { q : Ts × Ts // q.1.app q.2 = x }) (fun q => st225 y d h x q.1.1) (fun q => q.1.2.len) ⟨(.nil, x), rfl⟩ ?_ ?_
        · refine le_of [((64, 0), [(64, 0)])] ?_ ?_ ?_ <;> simp [putR, Ts.len, AV.ok, Dc.ok]
        · rintro ⟨⟨a, r⟩, hq⟩
          simp only at hq
          cases r with
          | nil =>
            have e : a = x := by rw [← hq]; exact (Ts.app_nil a).symm
            subst e
            simp [st225, tDs_len, dx]
            refine asks (k206 h a (putR y h.k 0 d a) (by unfold Tm.size at hs; dsimp only at hs ⊢; omega)) ?_ ?_ ?_ <;> simp [Ds.app_nil]
            exact ⟨[], by simp⟩
          | cons hh hx r =>
            have h1 : a.len < x.len := by rw [← hq]; simp [Ts.app_len, Ts.len]
            have h2 : (tDs ty x).dp (a.len * 5) = tDs ty (.cons hh hx r) := by rw [← hq]; exact dp_mid a _
            have h3 : hh.fits ∧ hx.fits := app_fits (a := a) (by rw [hq]; exact hf.2)
            have h4 : lvSize hh.l + hx.size + 1 ≤ x.size := by rw [← hq]; exact app_size
            have hw : IntKind.i64.wrap ((a.len : Int) + 1) = a.len + 1 := by rw [IntKind.wrap_i64]; omega
            have hdp : deeper h.k a.len d ≤ d + 1 := by unfold deeper; split <;> omega
            have hne : tDs ty (putR y h.k 0 d (a.app (.cons hh hx .nil))) = (tDs ty (putR y h.k 0 d a)).app (tDs ty (putAt y (deeper h.k a.len d) ⟨hh, hx⟩).ts) := by
              rw [putR_app, putR_cons, tDs_app, Nat.zero_add]; rfl
            have hsz : x.size ≤ (⟨h, x⟩ : Tm).size := by unfold Tm.size; simp only; omega
            have hsz2 : (⟨hh, hx⟩ : Tm).size + 1 ≤ x.size := h4
            have ihh := ih ⟨hh, hx⟩ (deeper h.k a.len d) (by omega) h3 (by omega)
            generalize putAt y (deeper h.k a.len d) ⟨hh, hx⟩ = P at *
            simp [st225, tDs_len, dx, h1, h2]
            refine ⟨by kernel_rfl, by omega, ?_⟩
            refine asks (k205 ⟨h, x⟩ a.len d (by omega)) ?_ ?_ ?_ <;> simp
            refine asks ihh ?_ ?_ ?_ <;> simp
            refine ⟨by rw [tDs_len, putR_len]; omega, a.app (.cons hh hx .nil), r, by simp [Ts.len], by rw [Ts.app_assoc]; exact hq, ?_⟩
            refine le_of [((64, 0), [(64, 0)])] ?_ ?_ ?_ <;> simp [Ts.len, Ts.app_len, AV.ok, Dc.ok, hw, hne]
theorem k195 (y : Ts) (t : Tm) (hy : y.fits) (hys : y.size ≤ 1000000) (hf : t.fits) (hs : t.size ≤ 1000000) : HH 195 [tmL t, tsA none y] (tmL (putAt y 0 t)) := by
  refine ab Tryz.func195 Tryz.ntmps195 Tryz.results195 rfl (by decide) (by simp) rfl rfl ?_
  simp
  refine asks (k225 y hy hys _ t 0 (Nat.lt_succ_self _) hf (by omega)) ?_ ?_ ?_ <;> simp
  exact ⟨[], by simp⟩
end Go.Proofs.YtkcmapimcgppmaaGreatDoor
end
