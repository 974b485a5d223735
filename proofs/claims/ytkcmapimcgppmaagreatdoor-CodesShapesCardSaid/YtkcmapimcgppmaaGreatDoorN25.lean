/-
  The law on shapes. Conditions: none.
-/
import Derived.Test.YtkcmapimcgppmaaGreatDoorN24
import Derived.Test.YtkcmapimcgppmaaGreatDoorN17
set_option linter.all false
set_option linter.unusedVariables false
set_option linter.unusedSimpArgs false
set_option linter.unnecessarySimpa false
namespace Go.Proofs.YtkcmapimcgppmaaGreatDoor
open Go.RowKit
attribute [local simp] ty_p ty_l ty_t kH tDs lvDs Tm.ts finH elemH ac_skip ac_label ac_region ac_seq ac_cond ac_block ac_loop ac_exit ac_ret seqK_n seqK_r seqK_e vo_nil vo_cons blkK loopK callOf vout aout abuiltin aslice ev startSt nmOf St.out putE updo upd contOf freshC K0 asC fillD fieldOf rowD astore aapp srcOf elsOf tb Dc.tk Dc.dp Dc.over Dc.app Dc.ln Dc.ds Dc.sing Dc.cont AV.cont Ds.hd Value.oneCell' retK resOf one1 AV.imp Dc.imp φOf calleeOf AV.isLL AV.list AV.app AV.arg AV.isL AV.ren Dc.ren Dc.lent tmC tmA tsA iA lo? abin AV.nth Dc.own Dc.toks stOf envOf bxOf τOf
attribute [local simp] AV.room amake agC lentAgC Ds.len Ds.dp

theorem okarg0 (j : Nat) (h : j ≤ 1000) (_ : 0 ≤ 1) : okA ⟨false, vT j, .nil, 0, .nil⟩ := ⟨vT_fits (by omega), trivial, trivial, by show 0 + 0 + 0 ≤ 9; decide⟩
theorem okarg1 (h : 0 ≤ 1) : okA ⟨true, zeroT, .nil, 0, .nil⟩ := ⟨zeroT_fits, trivial, trivial, by show 0 + 0 + 0 ≤ 9; decide⟩
theorem okarg2 (j : Nat) (m : Int) (h : j ≤ 1000) (_ : 0 ≤ 1) : okA ⟨true, zeroT, two (vT j) (vT 0), m, (vT ((j : Int) + 1)).ts⟩ := ⟨zeroT_fits, ⟨(vT_fits (by omega)).1, trivial, (vT_fits (by decide)).1, trivial, trivial⟩, ts_fits (vT_fits (by omega)), by show 0 + 2 + 1 ≤ 9; decide⟩
theorem okarg3 (j : Nat) (h : j ≤ 1000) (_ : 0 ≤ 1) : okA ⟨false, ⟨kH 4, two (vT j) (vT ((j : Int) + 1))⟩, .nil, 0, .nil⟩ := ⟨⟨kH_fits (by decide), (vT_fits (by omega)).1, trivial, (vT_fits (by omega)).1, trivial, trivial⟩, trivial, trivial, by show 2 + 0 + 0 ≤ 9; decide⟩
theorem ctDs_app (a b : List Ct) : ctDs (a ++ b) = (ctDs a).app (ctDs b) := by
  induction a with
  | nil => rfl
  | cons x r ih => simp [ctDs, Ds.app, ih]
def zC0 (r : Dc) : Dc := .lit (.int .i64 0) (.lit (.int .i64 0) (.lit (.int .i64 0) (.row none 1 43 .nil (.row none 5 26 .nil r))))
def dS (e : Int) (p m : Dc → Dc) (c : Dc) : Dc := .lit (.int .i64 3) (.lit (.int .i64 e) (zC0 (zC0 (p (.row none 2 77 (.lit (.int .i64 0) (.lit (.int .i64 e) .nil)) (m c))))))
def hd5 (n p k x : Nat) (r : List (Nat × AV)) : List (Nat × AV) := (1, iA n) :: (2, iA p) :: (3, iA k) :: (4, iA x) :: (5, .bx 6 0) :: r
def sA (n p k x e i : Nat) : St := stOf (hd5 n p k x [(6, iA i)]) [(6, 47, dS e (.blk 51 (i + 1) 5 26 (.seg none (tDs ty (parT i)) .nil)) (.nilr 1 80) (.nilr 6 85 .nil))] [(51, i + 1)]
def sB (n p k x e i : Nat) : St := stOf (hd5 n p k x [(7, iA i)]) [(6, 47, dS e (.row none 5 26 (tDs ty (parT p))) (.blk 78 (i + 1) 1 80 (.seg none (rowsDs (memL p x i)) .nil)) (.nilr 6 85 .nil))] [(78, i + 1)]
def sC (n p k x e i j : Nat) : St := stOf (hd5 n p k x [(7, iA i), (8, .c (.blk 72 (j + 1) 5 26 (.seg none (tDs ty (idxT p j)) .nil) .nil)), (9, iA j)]) [(6, 47, dS e (.row none 5 26 (tDs ty (parT p))) (.blk 78 (i + 1) 1 80 (.seg none (rowsDs (memL p x i)) .nil)) (.nilr 6 85 .nil))] [(78, i + 1), (72, j + 1)]
def dD (p k x e v : Nat) (c : List Ct) : Dc := dS e (.row none 5 26 (tDs ty (parT p))) (.row none 1 80 (rowsDs (memL p x k))) (.blk 152 v 6 85 (.seg none (ctDs c) .nil) .nil)
def rD (v : Nat) (l : List Rl) : AV := .c (.blk 144 v 3 65 (.seg none (rulesDs l) .nil) .nil)
def sD (n p k x e i : Nat) (l : List Rl) (c : List Ct) : St := stOf (hd5 n p k x [(10, rD (i + 1) l), (11, iA i)]) [(6, 47, dD p k x e (i + 1) c)] [(144, i + 1), (152, i + 1)]
def sE (n p k x e i : Nat) (l : List Rl) (c : List Ct) (m : Int) (ix : Ts) (g : List Ag) : St := stOf (hd5 n p k x [(10, rD (i + 1) l), (11, iA i), (12, .bx 13 0), (13, iA g.length)]) [(6, 47, dD p k x e (i + 1) c), (13, 65, .lit (.int .i64 m) (.blk 139 (g.length + 1) 9 82 (.seg none (agDs g) .nil) (.row none 5 26 (tDs ty ix) .nil)))] [(144, i + 1), (152, i + 1), (139, g.length + 1)]
def sF (n p k x e i : Nat) (l : List Rl) (c : List Ct) (r : Rl) (v : Ts) (j : Nat) : St := stOf (hd5 n p k x [(10, rD (i + 1 + 1) l), (11, iA i), (12, .bx 13 0), (15, tsA none v), (16, iA ((j : Int) - 1))]) [(6, 47, dD p k x e (i + 1 + 1) c), (13, 65, rlC r)] [(144, i + 1 + 1), (152, i + 1 + 1)]
set_option maxRecDepth 20000 in
set_option maxHeartbeats 20000000 in
theorem shapes6 : HH 6 [] (.v (.bool true)) := by
  refine ab Tryz.func6 Tryz.ntmps6 Tryz.results6 rfl (by decide) (by simp) rfl rfl ?_
  simp
  refine lp (α := { n : Nat // n ≤ 432 }) (fun n => stOf [(1, iA n.1)] [] []) (fun n => 432 - n.1) ⟨0, by decide⟩ ?_ ?_
  · refine le_of [] ?_ ?_ ?_ <;> simp [AV.ok, Dc.ok]
  rintro ⟨n, hn⟩
  by_cases hlt0 : ¬ n < 432
  · have hltI : ¬ ((n : Int) < 432) := by omega
    simp [hltI]
    refine asks g9 ?_ ?_ ?_ <;> simp
    exact ⟨[], by simp⟩
  have hlt := Decidable.not_not.1 hlt0
  clear hlt0
  have hltI : (n : Int) < 432 := by omega
  obtain ⟨p, e1, hp⟩ : ∃ p : Nat, (n : Int).tmod 3 = (p : Int) ∧ p ≤ 2 := ⟨n % 3, rfl, by omega⟩
  obtain ⟨n3, e2, hn3⟩ : ∃ a : Nat, IntKind.i64.wrap ((n : Int) / 3) = (a : Int) ∧ a ≤ 143 := ⟨n / 3, by rw [IntKind.wrap_i64]; omega, by omega⟩
  obtain ⟨k0, e3, hk0⟩ : ∃ a : Nat, (n3 : Int).tmod 3 = (a : Int) ∧ a ≤ 2 := ⟨n3 % 3, rfl, by omega⟩
  obtain ⟨k, e4, hk1, hk3⟩ : ∃ k : Nat, IntKind.i64.wrap (1 + (k0 : Int)) = (k : Int) ∧ 1 ≤ k ∧ k ≤ 3 := ⟨k0 + 1, by rw [IntKind.wrap_i64]; omega, by omega, by omega⟩
  obtain ⟨n9, e5, hn9⟩ : ∃ a : Nat, IntKind.i64.wrap ((n : Int) / 9) = (a : Int) ∧ a ≤ 48 := ⟨n / 9, by rw [IntKind.wrap_i64]; omega, by omega⟩
  obtain ⟨x, e6, hx⟩ : ∃ a : Nat, (n9 : Int).tmod 3 = (a : Int) ∧ a ≤ 2 := ⟨n9 % 3, rfl, by omega⟩
  obtain ⟨e, e7, he⟩ : ∃ a : Nat, (n : Int).tmod 2 = (a : Int) ∧ a ≤ 1 := ⟨n % 2, rfl, by omega⟩
  obtain ⟨f, e8, hf⟩ : ∃ a : Nat, (n : Int).tmod 4 = (a : Int) ∧ a ≤ 3 := ⟨n % 4, rfl, by omega⟩
  obtain ⟨q, e9, hq⟩ : ∃ a : Nat, (n : Int).tmod 5 = (a : Int) ∧ a ≤ 4 := ⟨n % 5, rfl, by omega⟩
  obtain ⟨a27, e10, h27⟩ : ∃ a : Nat, IntKind.i64.wrap ((n : Int) / 27) = (a : Int) ∧ a ≤ 16 := ⟨n / 27, by rw [IntKind.wrap_i64]; omega, by omega⟩
  obtain ⟨b54, e11, h54⟩ : ∃ a : Nat, IntKind.i64.wrap ((n : Int) / 54) = (a : Int) ∧ a ≤ 8 := ⟨n / 54, by rw [IntKind.wrap_i64]; omega, by omega⟩
  have ew : IntKind.i64.wrap ((n : Int) + 1) = n + 1 := by rw [IntKind.wrap_i64]; omega
  have hkz : ¬ k = 0 := by omega
  clear hn3 hn9 hk0
  simp [hltI, e1, e2, e3, e4, e5, e6, e7]
  refine lp (α := { i : Nat // i ≤ p }) (fun i => sA n p k x e i.1) (fun i => p - i.1) ⟨0, Nat.zero_le _⟩ ?_ ?_
  · refine le_of [((51, 0), [(51, 0)])] ?_ ?_ ?_ <;> simp [AV.ok, Dc.ok, hd5, dS, zC0, parT]
  rintro ⟨i, hi⟩
  have wi : IntKind.i64.wrap ((i : Int) + 1) = i + 1 := by rw [IntKind.wrap_i64]; omega
  by_cases hip : i < p
  · have hm : (if IntKind.i64.wrap ((i : Int) - 1) < 0 then (0 : Int) else IntKind.i64.wrap ((i : Int) - 1)) = ((i - 1 : Nat) : Int) := by
      rw [IntKind.wrap_i64]; split <;> omega
    generalize hj : i - 1 = j at hm
    simp [sA, hd5, dS, zC0, hip, hm]
    refine ⟨by kernel_rfl, ?_⟩
    refine asks (k49 j) ?_ ?_ ?_ <;> simp [wi]
    refine ⟨by rw [tDs_len, parT_len]; omega, i + 1, by omega, by omega, ?_⟩
    refine le_of [((51, 0), [(51, 0)])] ?_ ?_ ?_ <;> simp [AV.ok, Dc.ok, hd5, dS, zC0, parT, hj]
    rw [tDs_app]; rfl
  obtain rfl : i = p := by omega
  simp [sA, hd5, dS, zC0]
  refine lp (α := { j : Nat // j ≤ k }) (fun j => sB n i k x e j.1) (fun j => k - j.1) ⟨0, Nat.zero_le _⟩ ?_ ?_
  · refine le_of [((78, 0), [(78, 0)])] ?_ ?_ ?_ <;> simp [AV.ok, Dc.ok, hd5, dS, zC0, memL, rowsDs, Ds.app_nil]
  rintro ⟨m, hm⟩
  have wm : IntKind.i64.wrap ((m : Int) + 1) = m + 1 := by rw [IntKind.wrap_i64]; omega
  by_cases hmk : m < k
  · obtain ⟨b, hb, hb2⟩ : ∃ b : Nat, (m : Int).tmod 2 = (b : Int) ∧ b = m % 2 := ⟨m % 2, rfl, rfl⟩
    obtain ⟨y, hyd⟩ : ∃ y, x * (m % 2) = y := ⟨_, rfl⟩
    have hy2 : y ≤ 2 * 1 := hyd ▸ Nat.mul_le_mul hx (by omega)
    have hy : IntKind.i64.wrap ((x : Int) * (b : Int)) = (y : Int) := by
      rw [show (x : Int) * (b : Int) = ((x * b : Nat) : Int) by simp, hb2, hyd, IntKind.wrap_i64]; omega
    simp [sB, hd5, dS, zC0, hmk]
    refine lp (α := { j : Nat // j ≤ y }) (fun j => sC n i k x e m j.1) (fun j => y - j.1) ⟨0, Nat.zero_le _⟩ ?_ ?_
    · refine le_of [((78, 0), [(78, 0)]), ((72, 0), [(72, 0)])] ?_ ?_ ?_ <;> simp [AV.ok, Dc.ok, hd5, dS, zC0, idxT, Ds.app_nil]
    rintro ⟨j, hj⟩
    have wj : IntKind.i64.wrap ((j : Int) + 1) = j + 1 := by rw [IntKind.wrap_i64]; omega
    have wj2 : IntKind.i64.wrap ((j : Int) + (i : Int)) = (j : Int) + i := by rw [IntKind.wrap_i64]; omega
    by_cases hjy : j < y
    · simp [sC, hd5, dS, zC0, hb, hy, hjy, wj2]
      refine asks (k49 ((j : Int) + i)) ?_ ?_ ?_ <;> simp [wj]
      refine ⟨by rw [tDs_len, idxT_len]; omega, j + 1, by omega, by omega, ?_⟩
      refine le_of [((78, 0), [(78, 0)]), ((72, 0), [(72, 0)])] ?_ ?_ ?_ <;> simp [AV.ok, Dc.ok, hd5, dS, zC0, idxT, Ds.app_nil]
      rw [tDs_app]; rfl
    obtain rfl : j = y := by omega
    simp [sC, hd5, dS, zC0, hb, hy, wm]
    refine ⟨by rw [rowsDs_len', memL_len]; omega, m + 1, by omega, by omega, ?_⟩
    refine le_of [((78, 0), [(78, 0)])] ?_ ?_ ?_ <;> simp [AV.ok, Dc.ok, hd5, dS, zC0, memL, hyd, rowsDs_app, rowsDs, Ds.app_nil]
  obtain rfl : m = k := by omega
  simp [sB, hd5, dS, zC0]
  refine lp (α := { q : Nat × List Rl × List Ct // q.1 ≤ 2 ∧ q.2.1.length = q.1 ∧ q.2.2.length = q.1 ∧ ∀ r ∈ q.2.1, Small r }) (fun q => sD n i m x e q.1.1 q.1.2.1 q.1.2.2) (fun q => 2 - q.1.1) ⟨(0, [], []), by simp⟩ ?_ ?_
  · refine le_of [((144, 0), [(144, 0)]), ((152, 0), [(152, 0)])] ?_ ?_ ?_ <;> simp [AV.ok, Dc.ok, hd5, dS, dD, rD, zC0, rulesDs, ctDs, Ds.app_nil]
  rintro ⟨⟨u, l, c⟩, hu2, hul, huc, hus⟩
  simp only at hu2 hul huc hus
  have wu : IntKind.i64.wrap ((u : Int) + 1) = u + 1 := by rw [IntKind.wrap_i64]; omega
  by_cases hlast : ¬ u < 2
  · have hd : SmallD ⟨3, e, zeroT, zeroT, parT i, [(0, e)], memL i x m, c⟩ l :=
      ⟨rfl, by show (e : Int) ≤ 1000; omega, parT_fits i (by omega), by show (parT i).size ≤ 100; rw [parT_size]; omega, by simp, by simp; omega, by show (memL i x m).length ≤ 10; rw [memL_len]; omega, memL_ok i x (by omega) hx m, by omega, by show l.length = c.length; omega, hus⟩
    have q31 := k31 _ l n q hd ⟨by omega, by omega⟩
    have hlI : ¬ ((u : Int) < 2) := by omega
    simp [sD, hd5, dD, rD, dS, zC0, hlI, e9, ew]
    refine asks q31 ?_ ?_ ?_ <;> simp [dlL, dlC, zeroT, rulesA, ptDs, ew, Ds.app_nil]
    refine ⟨n + 1, by omega, by omega, ?_⟩
    refine le_of [] ?_ ?_ ?_ <;> simp [AV.ok, Dc.ok]
  have hlt2 := Decidable.not_not.1 hlast
  clear hlast
  have hlI : (u : Int) < 2 := by omega
  obtain ⟨v, hv⟩ : ∃ v : Nat, (u : Int).tmod (m : Int) = (v : Int) := ⟨u % m, rfl⟩
  have hkzI : ¬ ((m : Int) = 0) := by omega
  have w2 : IntKind.i64.wrap ((i : Int) + 2) = (i : Int) + 2 := by rw [IntKind.wrap_i64]; omega
  obtain ⟨ix, hix, hixs, hixf⟩ : ∃ ix, Ds.tk (x * 5) (tDs ty (two (vT ((i : Int) + 2)) (vT 0))) = tDs ty ix ∧ ix.size ≤ 10 ∧ ix.fits :=
    ⟨takeN x (two (vT ((i : Int) + 2)) (vT 0)), tk_takeN _ _, Nat.le_trans (takeN_size _ _) (by show 2 ≤ 10; decide), takeN_fits _ _ ⟨num_fits (by decide) (by omega) (by decide), trivial, num_fits (by decide) (by decide) (by decide), trivial, trivial⟩⟩
  simp [two, vT] at hix
  simp [sD, hd5, dD, rD, dS, zC0, hlI, hv, hkz, w2]
  refine ⟨by kernel_rfl, ?_⟩
  refine asks (k49 ((i : Int) + 2)) ?_ ?_ ?_ <;> simp
  refine asks (k49 0) ?_ ?_ ?_ <;> simp
  refine ⟨by omega, ?_⟩
  refine lp (α := { g : List Ag // g.length ≤ 3 ∧ ∀ a ∈ g, okA a }) (fun g => sE n i m x e u l c v ix g.1) (fun g => 3 - g.1.length) ⟨[], by simp⟩ ?_ ?_
  · refine le_of [((144, 0), [(144, 0)]), ((152, 0), [(152, 0)]), ((139, 0), [(139, 0)])] ?_ ?_ ?_ <;> simp [AV.ok, Dc.ok, hd5, dS, dD, rD, zC0, agDs, Ds.app_nil, hix]
  rintro ⟨g, hg3, hgo⟩
  have wg : IntKind.i64.wrap ((g.length : Int) + 1) = g.length + 1 := by rw [IntKind.wrap_i64]; omega
  by_cases hglast : ¬ g.length < 3
  · have hgI : ¬ ((g.length : Int) < 3) := by omega
    have hsm := small_of (m := v) hg3 hgo hixs hixf
    obtain ⟨V, hV, hVs, hVf⟩ : ∃ V, Ds.tk (i * 5) (tDs ty (two (vT 9) ⟨kH 14, (vT 8).ts⟩)) = tDs ty V ∧ V.size ≤ 100 ∧ V.fits :=
      ⟨takeN i (two (vT 9) ⟨kH 14, (vT 8).ts⟩), tk_takeN _ _, Nat.le_trans (takeN_size _ _) (by show 3 ≤ 100; decide), takeN_fits _ _ ⟨num_fits (by decide) (by decide) (by decide), trivial, kH_fits (by decide), ts_fits (vT_fits (by decide)), trivial⟩⟩
    simp [two, vT] at hV
    simp [sE, hd5, dD, rD, dS, zC0, hgI, hv, hkz]
    refine ⟨by rw [rulesDs_len]; omega, by kernel_rfl, by rw [ctDs_len]; omega, ?_⟩
    refine asks (k49 9) ?_ ?_ ?_ <;> simp
    refine asks (k49 8) ?_ ?_ ?_ <;> simp
    refine asks (k50 14 (vT 8).ts) ?_ ?_ ?_ <;> simp [vT, e1]
    refine ⟨by omega, ?_⟩
    obtain ⟨r, hr⟩ : ∃ r : Rl, r = ⟨v, g, ix⟩ := ⟨_, rfl⟩
    rw [← hr] at hsm
    refine lp (α := { j : Nat // j ≤ 5 }) (fun j => sF n i m x e u (l ++ [r]) (c ++ [⟨v, zeroT⟩]) r V j.1) (fun j => 5 - j.1) ⟨0, by decide⟩ ?_ ?_
    · subst hr
      refine le_of [((144, 0), [(144, 0)]), ((152, 0), [(152, 0)])] ?_ ?_ ?_ <;> simp [AV.ok, Dc.ok, hd5, dS, dD, rD, zC0, rulesDs_app, rulesDs, ctDs_app, ctDs, zeroT, hV, rlC, Ds.app_nil]
    rintro ⟨j, hj⟩
    have wj : IntKind.i64.wrap (j : Int) = j := by rw [IntKind.wrap_i64]; omega
    by_cases hjl : ¬ j < 5
    · have hjI : ¬ ((j : Int) - 1 < 4) := by omega
      obtain ⟨X, a1, a2⟩ := end_both r V f hsm hVf hVs
      obtain ⟨Y, b1, b2⟩ := types_both r hsm
      simp [sF, hd5, dD, rD, dS, zC0, rlC, hjI, e8]
      refine ⟨by kernel_rfl, ?_⟩
      refine asks a1 ?_ ?_ ?_ <;> simp [rlL, rlC, e8]
      refine asks a2 ?_ ?_ ?_ <;> simp [rlL, rlC]
      refine asks (k20 X) ?_ ?_ ?_ <;> simp
      refine asks b1 ?_ ?_ ?_ <;> simp [rlL, rlC]
      refine asks b2 ?_ ?_ ?_ <;> simp [rlL, rlC]
      refine asks (k20 Y) ?_ ?_ ?_ <;> simp [wu]
      refine ⟨u + 1, by omega, l ++ [r], c ++ [⟨v, zeroT⟩], ⟨by omega, by simp [hul], by simp [huc], ?_⟩, ?_⟩
      · intro r' h'
        rcases List.mem_append.1 h' with h' | h'
        · exact hus _ h'
        · simp at h'
          subst h'
          exact hsm
      · refine le_of [((144, 0), [(144, 0)]), ((152, 0), [(152, 0)])] ?_ ?_ ?_ <;> simp [AV.ok, Dc.ok, hd5, dS, dD, rD, zC0, Ds.app_nil]
    have hjI : (j : Int) - 1 < 4 := by omega
    obtain ⟨X, a1, a2⟩ := tele_both r V f ((j : Int) - 1) hsm hVf hVs
    obtain ⟨Y, b1, b2⟩ := index_both r V f ((j : Int) - 1) hsm hVf hVs
    simp [sF, hd5, dD, rD, dS, zC0, rlC, hjI, e8]
    refine ⟨by kernel_rfl, ?_⟩
    refine asks a1 ?_ ?_ ?_ <;> simp [rlL, rlC, e8]
    refine asks a2 ?_ ?_ ?_ <;> simp [rlL, rlC]
    refine asks (k20 X) ?_ ?_ ?_ <;> simp [e8]
    refine asks b1 ?_ ?_ ?_ <;> simp [rlL, rlC, e8]
    refine asks b2 ?_ ?_ ?_ <;> simp [rlL, rlC]
    refine asks (k20 Y) ?_ ?_ ?_ <;> simp [wj]
    refine ⟨j + 1, by omega, by omega, ?_⟩
    refine le_of [((144, 0), [(144, 0)]), ((152, 0), [(152, 0)])] ?_ ?_ ?_ <;> simp [AV.ok, Dc.ok, hd5, dS, dD, rD, zC0, rlC, Ds.app_nil]
  have hg2 := Decidable.not_not.1 hglast
  clear hglast
  have hgI : (g.length : Int) < 3 := by omega
  obtain ⟨idx, hidx, eidx⟩ := idx_ex a27 b54 g.length u h27 h54 (by omega) (by omega)
  have wm1 : IntKind.i64.wrap ((m : Int) - 1) = (m : Int) - 1 := by rw [IntKind.wrap_i64]; omega
  rcases (by omega : idx = 0 ∨ idx = 1 ∨ idx = 2 ∨ idx = 3) with h | h | h | h
  · subst h
    have ei := eidx.trans (show (((0 : Nat)) : Int) = (0 : Int) from rfl)
    obtain ⟨ag, hag⟩ : ∃ ag : Ag, ag = ⟨false, vT g.length, .nil, 0, .nil⟩ := ⟨_, rfl⟩
    have hok : okA ag := by
      subst hag
      exact okarg0 _ (by omega) (by omega)
    simp [sE, hd5, dD, rD, dS, zC0, hgI, wm1, wg, e10, e11]
    refine asks (k49 g.length) ?_ ?_ ?_ <;> simp [wm1]
    refine asks (k49 g.length) ?_ ?_ ?_ <;> simp [wm1]
    refine asks (k49 0) ?_ ?_ ?_ <;> simp [wg]
    refine asks (k49 ((g.length : Int) + 1)) ?_ ?_ ?_ <;> simp
    refine asks (k49 g.length) ?_ ?_ ?_ <;> simp [wg]
    refine asks (k49 ((g.length : Int) + 1)) ?_ ?_ ?_ <;> simp
    refine asks (k50 4 (two (vT g.length) (vT ((g.length : Int) + 1)))) ?_ ?_ ?_ <;> simp [two, vT, e10, e11, ei, wg]
    refine ⟨by rw [agDs_len]; omega, g ++ [ag], by simp; omega, ⟨by simp; omega, ?_⟩, ?_⟩
    · intro a' h'
      rcases List.mem_append.1 h' with h' | h'
      · exact hgo _ h'
      · simp at h'
        subst h'
        exact hok
    · subst hag
      refine le_of [((144, 0), [(144, 0)]), ((152, 0), [(152, 0)]), ((139, 0), [(139, 0)])] ?_ ?_ ?_ <;> simp [AV.ok, Dc.ok, hd5, dS, dD, rD, zC0, agDs_app, agDs, two, vT, zeroT, Ds.app_nil]
  · subst h
    have ei := eidx.trans (show (((1 : Nat)) : Int) = (1 : Int) from rfl)
    obtain ⟨ag, hag⟩ : ∃ ag : Ag, ag = ⟨true, zeroT, .nil, 0, .nil⟩ := ⟨_, rfl⟩
    have hok : okA ag := by
      subst hag
      exact okarg1 (by omega)
    simp [sE, hd5, dD, rD, dS, zC0, hgI, wm1, wg, e10, e11]
    refine asks (k49 g.length) ?_ ?_ ?_ <;> simp [wm1]
    refine asks (k49 g.length) ?_ ?_ ?_ <;> simp [wm1]
    refine asks (k49 0) ?_ ?_ ?_ <;> simp [wg]
    refine asks (k49 ((g.length : Int) + 1)) ?_ ?_ ?_ <;> simp
    refine asks (k49 g.length) ?_ ?_ ?_ <;> simp [wg]
    refine asks (k49 ((g.length : Int) + 1)) ?_ ?_ ?_ <;> simp
    refine asks (k50 4 (two (vT g.length) (vT ((g.length : Int) + 1)))) ?_ ?_ ?_ <;> simp [two, vT, e10, e11, ei, wg]
    refine ⟨by rw [agDs_len]; omega, g ++ [ag], by simp; omega, ⟨by simp; omega, ?_⟩, ?_⟩
    · intro a' h'
      rcases List.mem_append.1 h' with h' | h'
      · exact hgo _ h'
      · simp at h'
        subst h'
        exact hok
    · subst hag
      refine le_of [((144, 0), [(144, 0)]), ((152, 0), [(152, 0)]), ((139, 0), [(139, 0)])] ?_ ?_ ?_ <;> simp [AV.ok, Dc.ok, hd5, dS, dD, rD, zC0, agDs_app, agDs, two, vT, zeroT, Ds.app_nil]
  · subst h
    have ei := eidx.trans (show (((2 : Nat)) : Int) = (2 : Int) from rfl)
    obtain ⟨ag, hag⟩ : ∃ ag : Ag, ag = ⟨true, zeroT, two (vT g.length) (vT 0), (m : Int) - 1, (vT ((g.length : Int) + 1)).ts⟩ := ⟨_, rfl⟩
    have hok : okA ag := by
      subst hag
      exact okarg2 _ _ (by omega) (by omega)
    simp [sE, hd5, dD, rD, dS, zC0, hgI, wm1, wg, e10, e11]
    refine asks (k49 g.length) ?_ ?_ ?_ <;> simp [wm1]
    refine asks (k49 g.length) ?_ ?_ ?_ <;> simp [wm1]
    refine asks (k49 0) ?_ ?_ ?_ <;> simp [wg]
    refine asks (k49 ((g.length : Int) + 1)) ?_ ?_ ?_ <;> simp
    refine asks (k49 g.length) ?_ ?_ ?_ <;> simp [wg]
    refine asks (k49 ((g.length : Int) + 1)) ?_ ?_ ?_ <;> simp
    refine asks (k50 4 (two (vT g.length) (vT ((g.length : Int) + 1)))) ?_ ?_ ?_ <;> simp [two, vT, e10, e11, ei, wg]
    refine ⟨by rw [agDs_len]; omega, g ++ [ag], by simp; omega, ⟨by simp; omega, ?_⟩, ?_⟩
    · intro a' h'
      rcases List.mem_append.1 h' with h' | h'
      · exact hgo _ h'
      · simp at h'
        subst h'
        exact hok
    · subst hag
      refine le_of [((144, 0), [(144, 0)]), ((152, 0), [(152, 0)]), ((139, 0), [(139, 0)])] ?_ ?_ ?_ <;> simp [AV.ok, Dc.ok, hd5, dS, dD, rD, zC0, agDs_app, agDs, two, vT, zeroT, Ds.app_nil]
  · subst h
    have ei := eidx.trans (show (((3 : Nat)) : Int) = (3 : Int) from rfl)
    obtain ⟨ag, hag⟩ : ∃ ag : Ag, ag = ⟨false, ⟨kH 4, two (vT g.length) (vT ((g.length : Int) + 1))⟩, .nil, 0, .nil⟩ := ⟨_, rfl⟩
    have hok : okA ag := by
      subst hag
      exact okarg3 _ (by omega) (by omega)
    simp [sE, hd5, dD, rD, dS, zC0, hgI, wm1, wg, e10, e11]
    refine asks (k49 g.length) ?_ ?_ ?_ <;> simp [wm1]
    refine asks (k49 g.length) ?_ ?_ ?_ <;> simp [wm1]
    refine asks (k49 0) ?_ ?_ ?_ <;> simp [wg]
    refine asks (k49 ((g.length : Int) + 1)) ?_ ?_ ?_ <;> simp
    refine asks (k49 g.length) ?_ ?_ ?_ <;> simp [wg]
    refine asks (k49 ((g.length : Int) + 1)) ?_ ?_ ?_ <;> simp
    refine asks (k50 4 (two (vT g.length) (vT ((g.length : Int) + 1)))) ?_ ?_ ?_ <;> simp [two, vT, e10, e11, ei, wg]
    refine ⟨by rw [agDs_len]; omega, g ++ [ag], by simp; omega, ⟨by simp; omega, ?_⟩, ?_⟩
    · intro a' h'
      rcases List.mem_append.1 h' with h' | h'
      · exact hgo _ h'
      · simp at h'
        subst h'
        exact hok
    · subst hag
      refine le_of [((144, 0), [(144, 0)]), ((152, 0), [(152, 0)]), ((139, 0), [(139, 0)])] ?_ ?_ ?_ <;> simp [AV.ok, Dc.ok, hd5, dS, dD, rD, zC0, agDs_app, agDs, two, vT, zeroT, Ds.app_nil]
end Go.Proofs.YtkcmapimcgppmaaGreatDoor
