/-
  The program's types of a rule's plain arguments, a rule's index, moved: the call's own. Conditions: no more than 500 arguments, 1000000 nodes, levels, parts; numbers that a word holds. What the program tries: a row of a recursive argument, its index, moved: the call's own. Conditions: no more than 500 arguments, 300000 nodes, levels, parts; numbers that a word holds. What is tried and thrown: nothing comes back. Conditions: what is thrown is what is caught. What the program's tries come to: a row of a recursive argument, its index; nothing, if there is no such argument. Conditions: no more than 500 arguments, 300000 nodes, levels, parts; numbers that a word holds. How great terms are that are put, moved. Level variables: the document's; rows of them. Conditions: numbers from 1 to 1048576; no more than 100000 of them. Conditions: as each lemma states them.
-/
import Derived.Test.YtkcmapimcgppmaaGreatDoorN20
import Derived.WalkLawsBesides
import Derived.Test.YtkcmapimcgppmaaGreatDoorN18
set_option linter.all false
set_option linter.unusedVariables false
set_option linter.unusedSimpArgs false
set_option linter.unnecessarySimpa false
section
namespace Go.Proofs.YtkcmapimcgppmaaGreatDoor
open Go.RowKit
attribute [local simp] ty_p ty_l ty_t kH tDs lvDs Tm.ts finH elemH ac_skip ac_label ac_region ac_seq ac_cond ac_block ac_loop ac_exit ac_ret seqK_n seqK_r seqK_e vo_nil vo_cons blkK loopK callOf vout aout abuiltin aslice ev startSt nmOf St.out putE updo upd contOf freshC K0 asC fillD fieldOf rowD astore aapp srcOf elsOf tb Dc.tk Dc.dp Dc.over Dc.app Dc.ln Dc.ds Dc.sing Dc.cont AV.cont Ds.hd Value.oneCell' retK resOf one1 AV.imp Dc.imp φOf calleeOf AV.isLL AV.list AV.app AV.arg AV.isL AV.ren Dc.ren Dc.lent tmC tmA tsA iA lo? abin AV.nth Dc.own Dc.toks stOf envOf bxOf τOf
attribute [local simp] AV.room amake agC lentAgC Ds.len Ds.dp

def st40 (r : Rl) (v : Ts) (far : Int) (a : Ts) : St := stOf [(1, tsA none v), (2, iA far), (3, .bx 4 0), (6, .c (.blk 28 (a.len + 1) 5 26 (.seg (some (100, 0)) (tDs ty (endT r v far a)) .nil) .nil)), (10, tsA none r.i), (11, iA r.i.len), (12, iA a.len)] [(4, 65, rlC r)] [(28, a.len + 1), (100, 0)]
set_option maxRecDepth 10000 in
set_option maxHeartbeats 1000000 in
theorem k40 (r : Rl) (v : Ts) (far : Int) (hl : r.g.length ≤ 1000) (hv : v.fits) (hsz : r.g.length * (v.size + 1) ≤ 1000000) (hvs : v.size ≤ 1000000) (hf : r.i.fits) (hs : r.i.size ≤ 1000000) : HH 40 [rlL r, tsA none v, iA far] (tsA (some (0, 0)) (endT r v far r.i)) := by
  have hil : r.i.len ≤ 1000000 := Nat.le_trans (len_le_size r.i) hs
  have hvl : v.len ≤ 1000000 := Nat.le_trans (len_le_size v) hvs
  have d0 : r.i.len * 5 / 5 = r.i.len := by omega
  have dg : r.g.length * 9 / 9 = r.g.length := by omega
  have hby := by_size v (r.g.take r.g.length) 0
  rw [List.take_length] at hby
  refine ab Tryz.func40 Tryz.ntmps40 Tryz.results40 rfl (by decide) (by simp) rfl rfl ?_
  simp [rlL, rlC]
  refine lp (α := { q : Ts × Ts // q.1.app q.2 = r.i }) (fun q => st40 r v far q.1.1) (fun q => q.1.2.len) ⟨(.nil, r.i), rfl⟩ ?_ ?_
  · refine le_of [((28, 0), [(28, 0)])] ?_ ?_ ?_ <;> simp [AV.ok, Dc.ok, rlC, endT, Ts.len, tDs_len, d0]
  · rintro ⟨⟨a, q⟩, hq⟩
    simp only at hq
    cases q with
    | nil =>
      have e : a = r.i := by rw [← hq]; exact (Ts.app_nil a).symm
      rw [← e] at d0
      simp [st40, rlC, tDs_len, d0, ← e, Ds.app_nil]
      exact ⟨[((0, 0), [(28, 0), (100, 0)])], by simp⟩
    | cons h y q =>
      have h1 : a.len < r.i.len := by rw [← hq]; simp [Ts.app_len, Ts.len]
      have h2 : (tDs ty r.i).dp (a.len * 5) = tDs ty (.cons h y q) := by rw [← hq]; exact dp_mid a _
      have h3 : h.fits ∧ y.fits := app_fits (a := a) (by rw [hq]; exact hf)
      have h4 : lvSize h.l + y.size + 1 ≤ r.i.size := by rw [← hq]; exact app_size
      have hw : IntKind.i64.wrap ((a.len : Int) + 1) = a.len + 1 := by rw [IntKind.wrap_i64]; omega
      have hts : (⟨h, y⟩ : Tm).size ≤ 1000000 := by unfold Tm.size; simp only; omega
      have q1 := k111 r r.g.length .nil ⟨h, y⟩ v far (Nat.le_refl _) (by omega) hvl trivial (by simp [Ts.size]) h3 hts (above_fits trivial h3) (Nat.le_trans (above_size _ _) (by simp only [Ts.size]; omega)) (lift_fits _ _ (above_fits trivial h3)) (by rw [lift_size]; exact Nat.le_trans (above_size _ _) (by simp only [Ts.size]; omega)) (by_fits hv _ _) (by rw [List.take_length]; omega)
      have e1 : endT r v far (a.app (.cons h y .nil)) = (endT r v far a).app (.cons (movedT r.g v far r.g.length .nil ⟨h, y⟩).h (movedT r.g v far r.g.length .nil ⟨h, y⟩).x .nil) := by rw [endT_app]; rfl
      generalize movedT r.g v far r.g.length .nil ⟨h, y⟩ = P at *
      simp [st40, rlC, tDs_len, d0, h1, h2, agDs_len, dg]
      refine ⟨by omega, ?_⟩
      refine asks q1 ?_ ?_ ?_ <;> simp [mvC]
      refine ⟨by rw [tDs_len, endT_len]; omega, a.app (.cons h y .nil), q, by simp [Ts.len], by rw [Ts.app_assoc]; exact hq, ?_⟩
      refine le_of [((28, 0), [(28, 0)]), ((100, 0), [(100, 0), (26, 0), (26, 1)])] ?_ ?_ ?_ <;> simp [Ts.len, Ts.app_len, AV.ok, Dc.ok, hw, rlC, e1]
      rw [tDs_app]; rfl
def st37 (r : Rl) (k : Nat) : St := stOf [(1, .bx 2 0), (2, .c (.blk 31 (plainN (r.g.take k) + 1) 5 26 (.seg (some (100, 0)) (tDs ty (typesT r.g (r.g.take k) 0 0)) .nil) .nil)), (7, .c (.row none 9 82 (agDs r.g) .nil)), (8, iA r.g.length), (9, iA k)] [(2, 65, rlC r)] [(31, plainN (r.g.take k) + 1), (100, 0)]
set_option maxRecDepth 10000 in
set_option maxHeartbeats 1000000 in
theorem k37 (r : Rl) (hl : r.g.length ≤ 500) (hs : szAg r.g ≤ 1000000) (hf : agFits r.g) : HH 37 [rlL r] (tsA (some (0, 0)) (typesT r.g r.g 0 0)) := by
  refine ab Tryz.func37 Tryz.ntmps37 Tryz.results37 rfl (by decide) (by simp) rfl rfl ?_
  have d0 : r.g.length * 9 / 9 = r.g.length := by omega
  simp [rlL, rlC]
  refine lp (α := { k : Nat // k ≤ r.g.length }) (fun k => st37 r k.1) (fun k => r.g.length - k.1) ⟨0, Nat.zero_le _⟩ ?_ ?_
  · refine le_of [((31, 0), [(31, 0)])] ?_ ?_ ?_ <;> simp [AV.ok, Dc.ok, rlC, typesT, plainN, agDs_len, d0]
  · rintro ⟨k, hk⟩
    have hw : IntKind.i64.wrap ((k : Int) + 1) = k + 1 := by rw [IntKind.wrap_i64]; omega
    by_cases hlt : k < r.g.length
    · have h1 := dp_ag hlt
      have hsz := szAg_at hlt
      have hfa := hf _ (List.getElem_mem hlt)
      have hpl := plainN_le (r.g.take k)
      have htl : (r.g.take k).length = k := by rw [List.length_take]; omega
      have e1 : typesT r.g (r.g.take (k + 1)) 0 0 = (typesT r.g (r.g.take k) 0 0).app (typesT r.g [r.g[k]] k (plainN (r.g.take k))) := by
        rw [take_ag hlt, typesT_app, htl, Nat.zero_add, Nat.zero_add]
      have e2 : plainN (r.g.take (k + 1)) = plainN (r.g.take k) + plainN [r.g[k]] := by rw [take_ag hlt, plainN_app]
      have hbl := typesT_len r.g (r.g.take k) 0 0
      rw [htl] at hpl
      generalize hB1 : typesT r.g (r.g.take (k + 1)) 0 0 = B1 at *
      generalize hN1 : plainN (r.g.take (k + 1)) = N1 at *
      generalize hB : typesT r.g (r.g.take k) 0 0 = B at *
      generalize hN : plainN (r.g.take k) = N at *
      generalize hq : r.g.drop (k + 1) = q at h1
      generalize ha : r.g[k] = a at *
      have db : B.len * 5 / 5 = N := by rw [hbl]; omega
      have dz : (B.len : Int) * 5 / 5 = N := by rw [hbl]; omega
      cases hr : a.r with
      | true =>
        have e4 : plainN [a] = 0 := by simp [plainN, hr]
        have e5 : typesT r.g [a] k N = .nil := by simp [typesT, hr]
        rw [e5, Ts.app_nil] at e1
        rw [e4, Nat.add_zero] at e2
        simp [st37, rlC, agDs_len, d0, hlt, h1, agDs, hr, hB, hN, tDs_len, db, dz]
        refine ⟨by omega, k + 1, by omega, by omega, ?_⟩
        refine le_of [((31, 0), [(31, 0)]), ((100, 0), [(100, 0)])] ?_ ?_ ?_ <;> simp [AV.ok, Dc.ok, hw, rlC, hB1, hN1, hB, hN, e1, e2, Ds.app_nil]
      | false =>
        have e4 : plainN [a] = 1 := by simp [plainN, hr]
        have e5 : typesT r.g [a] k N = .cons (typeOf r.g k N a).h (typeOf r.g k N a).x .nil := by simp [typesT, hr]
        rw [e5] at e1
        rw [e4] at e2
        have hby := by_size (varsT 0 N) (r.g.take k) 0
        rw [htl, varsT_size] at hby
        have hb3 : k * (N + 1) ≤ 500 * 501 := Nat.mul_le_mul (by omega) (by omega)
        have q0 := k110 N (by omega)
        have q1 := k111 r k .nil a.t (varsT 0 N) N (by omega) (by omega) (by rw [varsT_len]; omega) trivial (by simp [Ts.size]) hfa.1 (by omega) (above_fits trivial hfa.1) (Nat.le_trans (above_size _ _) (by simp only [Ts.size]; omega)) (lift_fits _ _ (above_fits trivial hfa.1)) (by rw [lift_size]; exact Nat.le_trans (above_size _ _) (by simp only [Ts.size]; omega)) (by_fits (varsT_fits N) _ _) (by omega)
        change HH 111 _ (tmO (typeOf r.g k N a)) at q1
        generalize typeOf r.g k N a = P at *
        simp [st37, rlC, tDs_len, agDs_len, d0, hlt, h1, agDs, hr, hB, hN, db, dz, Ds.app_nil]
        refine ⟨by omega, by kernel_rfl, ?_⟩
        refine asks q0 ?_ ?_ ?_ <;> simp
        refine asks q1 ?_ ?_ ?_ <;> simp [mvC]
        refine ⟨by rw [tDs_len]; omega, k + 1, by omega, by omega, ?_⟩
        refine le_of [((31, 0), [(31, 0)]), ((100, 0), [(100, 0), (29, 0), (29, 1)])] ?_ ?_ ?_ <;> simp [AV.ok, Dc.ok, hw, rlC, hB1, hN1, e2]
        rw [e1, tDs_app]; rfl
    · obtain rfl : k = r.g.length := by omega
      simp [st37, rlC, agDs_len, d0, Ds.app_nil]
      exact ⟨[((0, 0), [(31, 0), (100, 0)])], by simp⟩
end Go.Proofs.YtkcmapimcgppmaaGreatDoor
end
section
namespace Go.Proofs.YtkcmapimcgppmaaGreatDoor
open Go.RowKit
attribute [local simp] ty_p ty_l ty_t kH tDs lvDs Tm.ts finH elemH ac_skip ac_label ac_region ac_seq ac_cond ac_block ac_loop ac_exit ac_ret seqK_n seqK_r seqK_e vo_nil vo_cons blkK loopK callOf vout aout abuiltin aslice ev startSt nmOf St.out putE updo upd contOf freshC K0 asC fillD fieldOf rowD astore aapp srcOf elsOf tb Dc.tk Dc.dp Dc.over Dc.app Dc.ln Dc.ds Dc.sing Dc.cont AV.cont Ds.hd Value.oneCell' retK resOf one1 AV.imp Dc.imp φOf calleeOf AV.isLL AV.list AV.app AV.arg AV.isL AV.ren Dc.ren Dc.lent tmC tmA tsA iA lo? abin AV.nth Dc.own Dc.toks stOf envOf bxOf τOf
attribute [local simp] AV.room amake agC lentAgC Ds.len Ds.dp

/-- A rule at work, as it lies. -/
def mvDs (r : Rl) (v : Ts) (far : Int) : Ds := .lit (.int .i64 r.m) (.row 9 82 (agDs r.g) .nil (.row 5 26 (tDs ty r.i) .nil (.row 5 26 (tDs ty v) .nil (.lit (.int .i64 far) .nil))))
theorem k114 (r : Rl) (v : Ts) (far : Int) (i : Nat) (hi : i < r.g.length) (hl : r.g.length ≤ 500) : HH 114 [.agg (mvC r v far), iA i] (agL r.g[i]) := by
  have h1 := dp_ag hi
  have dg : r.g.length * 9 / 9 = r.g.length := by omega
  have h0 : ¬ (i : Int) < 0 := by omega
  have hi2 : ¬ r.g.length ≤ i := by omega
  generalize r.g.drop (i + 1) = qq at h1
  generalize r.g[i] = b at *
  refine ab Tryz.func114 Tryz.ntmps114 Tryz.results114 rfl (by decide) (by simp) rfl rfl ?_
  simp [mvC, h0, agDs_len, dg, hi, hi2, h1, agDs]
  refine ⟨by omega, [], by simp [agL]⟩
def st113 (r : Rl) (v : Ts) (far : Int) (i : Nat) (e a : Ts) : St := stOf [(0, .el (mvDs r v far)), (1, .el (.lit (.int .i64 i) .nil)), (2, .c (.blk 27 (a.len + 1) 5 26 (.seg (some (100, 0)) (tDs ty (teleT r.g v far i .nil a)) .nil) .nil)), (3, tsA none e), (10, tsA none e), (11, iA e.len), (12, iA a.len)] [] [(27, a.len + 1), (100, 0)]
set_option maxRecDepth 10000 in
set_option maxHeartbeats 2000000 in
theorem k113 (r : Rl) (v : Ts) (far : Int) (i : Nat) (hi : i < r.g.length) (hl : r.g.length ≤ 500) (hs : szAg r.g ≤ 300000) (hf : agFits r.g) (hv : v.fits) (hsz : i * (v.size + 1) ≤ 1000000) (hvs : v.size ≤ 1000000) :
    HH 113 [.el (mvDs r v far), .el (.lit (.int .i64 i) .nil)] (tsA (some (0, 0)) (teleT r.g v far i .nil r.g[i].e)) := by
  have h1 := dp_ag hi
  have hsa := szAg_at hi
  have ka := k114 r v far i hi hl
  obtain ⟨f1, f2, f3⟩ := hf _ (List.getElem_mem hi)
  have hvl : v.len ≤ 1000000 := Nat.le_trans (len_le_size v) hvs
  have hby := by_size v (r.g.take i) 0
  rw [List.length_take, show min i r.g.length = i by omega] at hby
  generalize r.g.drop (i + 1) = qq at h1
  generalize r.g[i] = b at *
  have hil : b.e.len ≤ 1000000 := Nat.le_trans (len_le_size b.e) (by omega)
  have d0 : b.e.len * 5 / 5 = b.e.len := by omega
  refine ab Tryz.func113 Tryz.ntmps113 Tryz.results113 rfl (by decide) (by simp) rfl rfl ?_
  simp [mvDs]
  refine asks ka ?_ ?_ ?_ <;> simp [mvC, agL]
  refine lp (α := { q : Ts × Ts // q.1.app q.2 = b.e }) (fun q => st113 r v far i b.e q.1.1) (fun q => q.1.2.len) ⟨(.nil, b.e), rfl⟩ ?_ ?_
  · refine le_of [((27, 0), [(27, 0)])] ?_ ?_ ?_ <;> simp [AV.ok, Dc.ok, teleT, Ts.len, mvDs, tDs_len, d0]
  · rintro ⟨⟨a, q⟩, hq⟩
    simp only at hq
    cases q with
    | nil =>
      have e : a = b.e := by rw [← hq]; exact (Ts.app_nil a).symm
      rw [← e] at d0
      simp [st113, tDs_len, d0, ← e, Ds.app_nil]
      exact ⟨[((0, 0), [(27, 0), (100, 0)])], by simp⟩
    | cons h y q =>
      have h3 : a.len < b.e.len := by rw [← hq]; simp [Ts.app_len, Ts.len]
      have h2 : (tDs ty b.e).dp (a.len * 5) = tDs ty (.cons h y q) := by rw [← hq]; exact dp_mid a _
      have h6 : (tDs ty b.e).tk (a.len * 5) = tDs ty a := by rw [← hq]; exact tk_mid a _
      have h4 : h.fits ∧ y.fits := app_fits (a := a) (by rw [hq]; exact f2)
      have h5 : lvSize h.l + y.size + 1 ≤ b.e.size := by rw [← hq]; exact app_size
      have h7 : a.fits ∧ a.size ≤ b.e.size := by
        have hfa : ∀ (a r : Ts), (a.app r).fits → a.fits := fun a => by
          induction a with
          | nil => intro _ _; trivial
          | cons h x a _ ih => intro r h9; exact ⟨h9.1, h9.2.1, ih r h9.2.2⟩
        have e9 : b.e.size = a.size + (Ts.cons h y q).size := by rw [← hq, size_app]
        exact ⟨hfa a _ (by rw [hq]; exact f2), by omega⟩
      have hw : IntKind.i64.wrap ((a.len : Int) + 1) = a.len + 1 := by rw [IntKind.wrap_i64]; omega
      have hts : (⟨h, y⟩ : Tm).size ≤ 300000 := by unfold Tm.size; simp only; omega
      have hab := above_size a ⟨h, y⟩
      have q1 := k111 r i a ⟨h, y⟩ v far (by omega) (by omega) hvl h7.1 (by omega) h4 (by omega) (above_fits h7.1 h4) (by omega) (lift_fits _ _ (above_fits h7.1 h4)) (by rw [lift_size]; omega) (by_fits hv _ _) (by omega)
      have e1 : teleT r.g v far i .nil (a.app (.cons h y .nil)) = (teleT r.g v far i .nil a).app (.cons (movedT r.g v far i a ⟨h, y⟩).h (movedT r.g v far i a ⟨h, y⟩).x .nil) := by rw [teleT_app]; rfl
      generalize movedT r.g v far i a ⟨h, y⟩ = P at *
      simp [st113, tDs_len, d0, h3, h2, h6, mvDs]
      refine ⟨by omega, by kernel_rfl, by omega, ?_⟩
      refine asks q1 ?_ ?_ ?_ <;> simp [mvC]
      refine ⟨by rw [tDs_len, teleT_len]; omega, a.app (.cons h y .nil), q, by simp [Ts.len], by rw [Ts.app_assoc]; exact hq, ?_⟩
      refine le_of [((27, 0), [(27, 0)]), ((100, 0), [(100, 0), (25, 0), (25, 1)])] ?_ ?_ ?_ <;> simp [Ts.len, Ts.app_len, AV.ok, Dc.ok, hw, e1, mvDs]
      rw [tDs_app]; rfl
def st115 (r : Rl) (v : Ts) (far : Int) (i : Nat) (b : Ag) (a : Ts) : St := stOf [(0, .el (mvDs r v far)), (1, .el (.lit (.int .i64 i) .nil)), (2, .c (.blk 25 (a.len + 1) 5 26 (.seg (some (100, 0)) (tDs ty (rowT r.g v far i b.e a)) .nil) .nil)), (3, .bx 4 0), (10, tsA none b.i), (11, iA b.i.len), (12, iA a.len)] [(4, 82, agC b)] [(25, a.len + 1), (100, 0)]
set_option maxRecDepth 10000 in
set_option maxHeartbeats 2000000 in
theorem k115 (r : Rl) (v : Ts) (far : Int) (i : Nat) (hi : i < r.g.length) (hl : r.g.length ≤ 500) (hs : szAg r.g ≤ 300000) (hf : agFits r.g) (hv : v.fits) (hsz : i * (v.size + 1) ≤ 1000000) (hvs : v.size ≤ 1000000) :
    HH 115 [.el (mvDs r v far), .el (.lit (.int .i64 i) .nil)] (tsA (some (0, 0)) (rowT r.g v far i r.g[i].e r.g[i].i)) := by
  have h1 := dp_ag hi
  have hsa := szAg_at hi
  have ka := k114 r v far i hi hl
  obtain ⟨f1, f2, f3⟩ := hf _ (List.getElem_mem hi)
  have hvl : v.len ≤ 1000000 := Nat.le_trans (len_le_size v) hvs
  have hby := by_size v (r.g.take i) 0
  rw [List.length_take, show min i r.g.length = i by omega] at hby
  generalize r.g.drop (i + 1) = qq at h1
  generalize r.g[i] = b at *
  have hil : b.i.len ≤ 1000000 := Nat.le_trans (len_le_size b.i) (by omega)
  have d0 : b.i.len * 5 / 5 = b.i.len := by omega
  refine ab Tryz.func115 Tryz.ntmps115 Tryz.results115 rfl (by decide) (by simp) rfl rfl ?_
  simp [mvDs]
  refine asks ka ?_ ?_ ?_ <;> simp [mvC, agL]
  refine lp (α := { q : Ts × Ts // q.1.app q.2 = b.i }) (fun q => st115 r v far i b q.1.1) (fun q => q.1.2.len) ⟨(.nil, b.i), rfl⟩ ?_ ?_
  · refine le_of [((25, 0), [(25, 0)])] ?_ ?_ ?_ <;> simp [AV.ok, Dc.ok, rowT, Ts.len, mvDs, tDs_len, d0]
  · rintro ⟨⟨a, q⟩, hq⟩
    simp only at hq
    cases q with
    | nil =>
      have e : a = b.i := by rw [← hq]; exact (Ts.app_nil a).symm
      rw [← e] at d0
      simp [st115, tDs_len, d0, ← e, Ds.app_nil]
      exact ⟨[((0, 0), [(25, 0), (100, 0)])], by simp⟩
    | cons h y q =>
      have h3 : a.len < b.i.len := by rw [← hq]; simp [Ts.app_len, Ts.len]
      have h2 : (tDs ty b.i).dp (a.len * 5) = tDs ty (.cons h y q) := by rw [← hq]; exact dp_mid a _
      have h4 : h.fits ∧ y.fits := app_fits (a := a) (by rw [hq]; exact f3)
      have h5 : lvSize h.l + y.size + 1 ≤ b.i.size := by rw [← hq]; exact app_size
      have hw : IntKind.i64.wrap ((a.len : Int) + 1) = a.len + 1 := by rw [IntKind.wrap_i64]; omega
      have hts : (⟨h, y⟩ : Tm).size ≤ 300000 := by unfold Tm.size; simp only; omega
      have hab := above_size b.e ⟨h, y⟩
      have q1 := k111 r i b.e ⟨h, y⟩ v far (by omega) (by omega) hvl f2 (by omega) h4 (by omega) (above_fits f2 h4) (by omega) (lift_fits _ _ (above_fits f2 h4)) (by rw [lift_size]; omega) (by_fits hv _ _) (by omega)
      have e1 : rowT r.g v far i b.e (a.app (.cons h y .nil)) = (rowT r.g v far i b.e a).app (.cons (movedT r.g v far i b.e ⟨h, y⟩).h (movedT r.g v far i b.e ⟨h, y⟩).x .nil) := by rw [rowT_app]; rfl
      generalize movedT r.g v far i b.e ⟨h, y⟩ = P at *
      simp [st115, tDs_len, d0, h3, h2, mvDs]
      refine ⟨by omega, ?_⟩
      refine asks q1 ?_ ?_ ?_ <;> simp [mvC]
      refine ⟨by rw [tDs_len, rowT_len]; omega, a.app (.cons h y .nil), q, by simp [Ts.len], by rw [Ts.app_assoc]; exact hq, ?_⟩
      refine le_of [((25, 0), [(25, 0)]), ((100, 0), [(100, 0), (23, 0), (23, 1)])] ?_ ?_ ?_ <;> simp [Ts.len, Ts.app_len, AV.ok, Dc.ok, hw, e1, mvDs]
      rw [tDs_app]; rfl
end Go.Proofs.YtkcmapimcgppmaaGreatDoor
end
section
namespace Go.Proofs.YtkcmapimcgppmaaGreatDoor
open Go.RowKit

/-- What is thrown where there is no such thing. -/
abbrev thrown : Value := .iface 128 (.agg #[])
theorem assert_thrown (w : World) : Sem.run Tryz.prog (Instr.typeAssert thrown 20 128 true) w = .ok (.tuple #[.agg #[], .bool true]) w := by
  simp [Instr.typeAssert, go_sem]
set_option maxRecDepth 100000 in
set_option maxHeartbeats 1000000 in
theorem catchT_thrown (p : Addr) (u : Value) (w : World) (hc : w.cell? p = some u) (hz : w.frozen? p = false) :
    CallsD Tryz.prog 194 #[.pointer (some p)] (.panicking [{ v := thrown, recovered := false }]) w fun e u' w' => e = .returned (.tuple #[]) ∧ u' = .panicking [{ v := thrown, recovered := true }] ∧ w' = (w.alloc (.cells #[] 128)).setCell p (.slice none 0 0) := by
  refine callsD_of_wpS Tryz.func194 rfl fun c₀ cs hu => ?_
  apply wpS_seq
  apply wpS_region
  simp [wpOpsS, go_sem, recoverD, hu, Tryz.ntmps194, Exit.thenS]
  refine wpS_of_wp (wp_mono (Q := fun e a w' => e = .normal ∧ a.defers = [] ∧ w' = (w.alloc (.cells #[] 128)).setCell p (.slice none 0 0)) ?_ ?_)
  · clear hu
    have hlt : p.block < w.heap.size := by
      apply Nat.lt_of_not_le
      intro h
      have : w.heap[p.block]? = none := by simp [h]
      simp [World.cell?, this] at hc
    have hc2 : (w.alloc (.cells #[] 128)).cell? p = some u := by
      rw [← hc]; exact (below_alloc w (.cells #[] 128)).cell hlt
    have hz2 : (w.alloc (.cells #[] 128)).frozen? p = false := by
      rw [← hz]; exact (below_alloc w (.cells #[] 128)).frozen hlt
    rw [show #[Value.pointer (some p)] ++ ((Array.replicate 16 undef).setIfInBounds 4 thrown).setIfInBounds 0 thrown = #[Value.pointer (some p), thrown, undef, undef, undef, thrown, undef, undef, undef, undef, undef, undef, undef, undef, undef, undef, undef] from rfl]
    have hta := assert_thrown
    go_wp2
  · rintro e a w' ⟨rfl, hd, rfl⟩
    cases c₀
    simp_all [bodyPostS, results, Tryz.results194]

/-- How it ends. -/
abbrev throwsP (w : World) : Ending → World → Prop := fun e w' => e = .panicked [{ v := thrown, recovered := false }] ∧ Below w.heap.size w w'
set_option maxRecDepth 100000 in
set_option maxHeartbeats 1000000 in
theorem triedT_out (g : Nat) (x y : Array Value) (w : World) (hg : IsCode Tryz.prog g) (hc : ∀ W, Below w.heap.size w W → Calls Tryz.prog g (x ++ y) W (throwsP W)) :
    Calls Tryz.prog 112 #[.func (.func g) x y] w fun e w' => e = .returned (.slice none 0 0) ∧ Below w.heap.size w w' := by
  have hmf : ∀ (fn : Fn) (first cap : Array Value) (w : World), (Instr.makeFunc fn first cap).run Tryz.prog w = .ok (.func fn first cap) w := fun _ _ _ _ => rfl
  have hcf : ∀ w, (callFunc g (x ++ y)).run Tryz.prog w = .ok (.enter g (x ++ y)) w := fun w => by
    obtain ⟨fn, k1, k2, k3⟩ := hg
    simp [callFunc, k1, k2, k3]
  have hb0 : Below w.heap.size w (w.alloc (.cells #[.slice none 0 0] 22)) := below_alloc _ _
  have HC := Lib.hid (hc _ hb0)
  have HB0 := Lib.hid hb0
  clear hc hg hb0
  go_enter_defers Tryz.func112, Tryz.ntmps112
  go_wp2_with fail
  refine HC.out.mono ?_
  rintro e w1 ⟨rfl, hb1⟩
  have hsz : w.heap.size < (w.alloc (.cells #[.slice none 0 0] 22)).heap.size := by simp
  have d0 : w1.cell? ⟨w.heap.size, 0, none⟩ = some (.slice none 0 0) := (hb1.cell (p := ⟨w.heap.size, 0, none⟩) hsz).trans (by simp [go_sem])
  have f0 : w1.frozen? ⟨w.heap.size, 0, none⟩ = false := (hb1.frozen (p := ⟨w.heap.size, 0, none⟩) hsz).trans (by simp [go_sem])
  have HB1 := Lib.hid (below_step HB0.out hb1)
  clear hb1
  go_wp2
  refine leaves_cons (f := 194) (args := #[.pointer (some ⟨w.heap.size, 0, none⟩)]) (by simp) (by simp [go_sem]) ?_
  refine (catchT_thrown _ _ _ d0 f0).mono ?_
  rintro e u' w'' ⟨rfl, rfl, rfl⟩
  have hlt : (⟨w.heap.size, 0, none⟩ : Addr).block < w1.heap.size := U_lt (U_mk d0 f0)
  have d1 : (w1.alloc (.cells #[] 128)).cell? ⟨w.heap.size, 0, none⟩ = some (.slice none 0 0) := ((below_alloc w1 (.cells #[] 128)).cell hlt).trans d0
  have c0 : ((w1.alloc (.cells #[] 128)).setCell ⟨w.heap.size, 0, none⟩ (.slice none 0 0)).cell? ⟨w.heap.size, 0, none⟩ = some (.slice none 0 0) := World.cell?_setCell_same' _ _ _ (by rw [d1]; rfl)
  have hB : Below w.heap.size w ((w1.alloc (.cells #[] 128)).setCell ⟨w.heap.size, 0, none⟩ (.slice none 0 0)) := (below_step HB1.out (below_alloc _ _)).setCell (p := ⟨w.heap.size, 0, none⟩) (Nat.le_refl _) _
  simp [Leaves, settle, results, Tryz.results112, go_sem, c0]
  exact hB
set_option maxRecDepth 100000 in
set_option maxHeartbeats 1000000 in
theorem arg_out (m far : Int) (pa pi pv : Option Addr) (na ca ni ci nv cv : Nat) (i : Int) (w : World) (ho : i < 0 ∨ (na : Int) ≤ i) :
    Calls Tryz.prog 114 #[.agg #[.int .i64 m, .slice pa na ca, .slice pi ni ci, .slice pv nv cv, .int .i64 far], .int .i64 i] w (throwsP w) := by
  go_enter Tryz.func114, Tryz.ntmps114
  by_cases h0 : i < 0
  · have b0 : decide (i < 0) = true := decide_eq_true h0
    go_wp2_with fail
    exact ⟨rfl, rfl, below_step (below_alloc _ _) (below_alloc _ _)⟩
  · have b0 : decide (i < 0) = false := decide_eq_false h0
    have b1 : decide ((na : Int) ≤ i) = true := decide_eq_true (by omega)
    go_wp2_with fail
    exact ⟨rfl, rfl, below_step (below_alloc _ _) (below_alloc _ _)⟩
end Go.Proofs.YtkcmapimcgppmaaGreatDoor
end
section
namespace Go.Proofs.YtkcmapimcgppmaaGreatDoor
open Go.RowKit
attribute [local simp] ty_p ty_l ty_t kH tDs lvDs Tm.ts finH elemH ac_skip ac_label ac_region ac_seq ac_cond ac_block ac_loop ac_exit ac_ret seqK_n seqK_r seqK_e vo_nil vo_cons blkK loopK callOf vout aout abuiltin aslice ev startSt nmOf St.out putE updo upd contOf freshC K0 asC fillD fieldOf rowD astore aapp srcOf elsOf tb Dc.tk Dc.dp Dc.over Dc.app Dc.ln Dc.ds Dc.sing Dc.cont AV.cont Ds.hd Value.oneCell' retK resOf one1 AV.imp Dc.imp φOf calleeOf AV.isLL AV.list AV.app AV.arg AV.isL AV.ren Dc.ren Dc.lent tmC tmA tsA iA lo? abin AV.nth Dc.own Dc.toks stOf envOf bxOf τOf
attribute [local simp] AV.room amake agC lentAgC Ds.len Ds.dp

set_option maxRecDepth 100000 in
set_option maxHeartbeats 1000000 in
theorem tele_out (m far : Int) (pa pi pv : Option Addr) (na ca ni ci nv cv : Nat) (i : Int) (b o b' o' : Nat) (w : World) (ho : i < 0 ∨ (na : Int) ≤ i)
    (h0 : w.cell? ⟨b, o, none⟩ = some (.int .i64 m)) (h1 : w.cell? ⟨b, o + 1, none⟩ = some (.slice pa na ca)) (h2 : w.cell? ⟨b, o + 2, none⟩ = some (.slice pi ni ci)) (h3 : w.cell? ⟨b, o + 3, none⟩ = some (.slice pv nv cv)) (h4 : w.cell? ⟨b, o + 4, none⟩ = some (.int .i64 far)) (h5 : w.cell? ⟨b', o', none⟩ = some (.int .i64 i)) :
    Calls Tryz.prog 113 #[.pointer (some ⟨b, o, none⟩), .pointer (some ⟨b', o', none⟩)] w (throwsP w) := by
  have HA := Lib.hid (arg_out m far pa pi pv na ca ni ci nv cv i w ho)
  clear ho
  go_enter Tryz.func113, Tryz.ntmps113
  go_wp2_with fail
  refine HA.out.mono ?_
  rintro e w1 ⟨rfl, hb⟩
  have HB := Lib.hid hb
  clear hb
  go_wp2_with fail
  exact ⟨rfl, rfl, HB.out⟩
set_option maxRecDepth 100000 in
set_option maxHeartbeats 1000000 in
theorem index_out (m far : Int) (pa pi pv : Option Addr) (na ca ni ci nv cv : Nat) (i : Int) (b o b' o' : Nat) (w : World) (ho : i < 0 ∨ (na : Int) ≤ i)
    (h0 : w.cell? ⟨b, o, none⟩ = some (.int .i64 m)) (h1 : w.cell? ⟨b, o + 1, none⟩ = some (.slice pa na ca)) (h2 : w.cell? ⟨b, o + 2, none⟩ = some (.slice pi ni ci)) (h3 : w.cell? ⟨b, o + 3, none⟩ = some (.slice pv nv cv)) (h4 : w.cell? ⟨b, o + 4, none⟩ = some (.int .i64 far)) (h5 : w.cell? ⟨b', o', none⟩ = some (.int .i64 i)) :
    Calls Tryz.prog 115 #[.pointer (some ⟨b, o, none⟩), .pointer (some ⟨b', o', none⟩)] w (throwsP w) := by
  have HA := Lib.hid (arg_out m far pa pi pv na ca ni ci nv cv i w ho)
  clear ho
  go_enter Tryz.func115, Tryz.ntmps115
  go_wp2_with fail
  refine HA.out.mono ?_
  rintro e w1 ⟨rfl, hb⟩
  have HB := Lib.hid hb
  clear hb
  go_wp2_with fail
  exact ⟨rfl, rfl, HB.out⟩
/-- What it is that is tried: a rule at work, the number of an argument. -/
abbrev tryA (g : Nat) (r : Rl) (v : Ts) (far i : Int) : AV := .fn (.func g) .nil (AV.list [.el (mvDs r v far), .el (.lit (.int .i64 i) .nil)])
/-- Where it lies. -/
def TryAt (w : World) (r : Rl) (i : Int) (x y : Value) : Prop := ∃ m far pa pi pv na ca ni ci nv cv b o b' o', x = .pointer (some ⟨b, o, none⟩) ∧ y = .pointer (some ⟨b', o', none⟩) ∧ na = r.g.length ∧ b < w.heap.size ∧ b' < w.heap.size ∧ 
    w.cell? ⟨b, o, none⟩ = some (.int .i64 m) ∧ w.cell? ⟨b, o + 1, none⟩ = some (.slice pa na ca) ∧ w.cell? ⟨b, o + 2, none⟩ = some (.slice pi ni ci) ∧ w.cell? ⟨b, o + 3, none⟩ = some (.slice pv nv cv) ∧ w.cell? ⟨b, o + 4, none⟩ = some (.int .i64 far) ∧ w.cell? ⟨b', o', none⟩ = some (.int .i64 i)
theorem tryAt {F : Mem} {w : World} {r : Rl} {v : Ts} {far i : Int} {x y : Value} (h : RepV (argGh F w) (.el (mvDs r v far)) [x]) (k : RepV (argGh F w) (.el (.lit (.int .i64 i) .nil)) [y]) : TryAt w r i x y := by
  obtain ⟨-, b, o, ys, e, hb, ⟨_, rfl, v1, _, rfl, ⟨p1, n1, c1, rfl, l1, -⟩, v2, _, rfl, ⟨p2, n2, c2, rfl, -⟩, v3, _, rfl, ⟨p3, n3, c3, rfl, -⟩, _, rfl, rfl⟩, hf⟩ := h
  obtain ⟨-, b', o', ys', e', hb', ⟨_, rfl, rfl⟩, hf'⟩ := k
  cases e; cases e'
  have cell : ∀ {b o : Nat} {u : Value}, b < w.heap.size → (argGh F w).Fs b o = some u → w.cell? ⟨b, o, none⟩ = some u := fun {b o u} hb h => by
    have h : (if b < w.heap.size then U w b o else F b o) = some u := h
    rw [if_pos hb] at h
    exact U_cell h
  rw [agDs_len] at l1
  exact ⟨_, _, _, _, _, _, _, _, _, _, _, _, _, _, _, rfl, rfl, by omega, hb, hb', cell hb (hf 0 _ rfl), cell hb (hf 1 _ rfl), cell hb (hf 2 _ rfl), cell hb (hf 3 _ rfl), cell hb (hf 4 _ rfl), cell hb' (hf' 0 _ rfl)⟩
theorem TryAt.on {w W : World} {r : Rl} {i : Int} {x y : Value} (h : TryAt w r i x y) (hb : Below w.heap.size w W) : TryAt W r i x y := by
  obtain ⟨m, far, pa, pi, pv, na, ca, ni, ci, nv, cv, b, o, b', o', e1, e2, e3, l1, l2, h0, h1, h2, h3, h4, h5⟩ := h
  exact ⟨m, far, pa, pi, pv, na, ca, ni, ci, nv, cv, b, o, b', o', e1, e2, e3, Nat.lt_of_lt_of_le l1 hb.size, Nat.lt_of_lt_of_le l2 hb.size, (hb.cell (p := ⟨b, o, none⟩) l1).trans h0, (hb.cell (p := ⟨b, o + 1, none⟩) l1).trans h1, (hb.cell (p := ⟨b, o + 2, none⟩) l1).trans h2, (hb.cell (p := ⟨b, o + 3, none⟩) l1).trans h3, (hb.cell (p := ⟨b, o + 4, none⟩) l1).trans h4, (hb.cell (p := ⟨b', o', none⟩) l2).trans h5⟩
theorem tried_nil {g : Nat} (hc : IsCode Tryz.prog g) {r : Rl} {v : Ts} {far i : Int} (h : ∀ W x y, TryAt W r i x y → Calls Tryz.prog g #[x, y] W (throwsP W)) : HH 112 [tryA g r v far i] (tsA (some (0, 0)) .nil) := by
  refine ⟨code_of Tryz.func112 (by decide) rfl, rfl, fun F w vs hF hG hv => ?_⟩
  obtain ⟨v, rfl, ys, zs, e1, h1, h2⟩ := list1 hv
  cases e1
  obtain rfl : ys = [] := h1
  obtain ⟨x, y, rfl, h3, h4⟩ := list2 h2
  have ht := tryAt h3 h4
  refine (triedT_out g #[] #[x, y] w hc fun W hb => h W x y (ht.on hb)).mono ?_
  rintro e w' ⟨rfl, hb⟩
  refine ⟨_, fun _ => [], rfl, hb, ⟨trivial, _, [], rfl, Rd.none_ _ _ _, fun j e => ?_, rfl⟩, fun k b hb => (by cases hb), fun k k' b hb => (by cases hb)⟩
  cases e
  exact ⟨rfl, [], ⟨_, [], [], [], [], [], [], [], rfl, .inl ⟨none, rfl, rfl, rfl, rfl⟩, ⟨rfl, rfl⟩, ⟨rfl, rfl⟩, ⟨rfl, rfl⟩, rfl⟩, by simp, fun b hb => by cases hb⟩
theorem tele_nil (r : Rl) (v : Ts) (far i : Int) (ho : i < 0 ∨ (r.g.length : Int) ≤ i) : HH 112 [tryA 113 r v far i] (tsA (some (0, 0)) .nil) :=
  tried_nil (code_of Tryz.func113 (by decide) rfl) fun W x y h => by
    obtain ⟨m, far, pa, pi, pv, na, ca, ni, ci, nv, cv, b, o, b', o', rfl, rfl, rfl, -, -, h0, h1, h2, h3, h4, h5⟩ := h
    exact tele_out _ _ _ _ _ _ _ _ _ _ _ _ _ _ _ _ _ ho h0 h1 h2 h3 h4 h5
theorem index_nil (r : Rl) (v : Ts) (far i : Int) (ho : i < 0 ∨ (r.g.length : Int) ≤ i) : HH 112 [tryA 115 r v far i] (tsA (some (0, 0)) .nil) :=
  tried_nil (code_of Tryz.func115 (by decide) rfl) fun W x y h => by
    obtain ⟨m, far, pa, pi, pv, na, ca, ni, ci, nv, cv, b, o, b', o', rfl, rfl, rfl, -, -, h0, h1, h2, h3, h4, h5⟩ := h
    exact index_out _ _ _ _ _ _ _ _ _ _ _ _ _ _ _ _ _ ho h0 h1 h2 h3 h4 h5
/-- What is tried is owned, if what does it makes it so. -/
theorem tried_own {g : Nat} {x y : AV} {t : Ts} (hx : x.isLL = true) (hux : x.unl = true) (huy : y.unl = true) (h : Holds Tryz.prog KA g (x.app y) (tsA (some (0, 0)) t)) : HH 112 [.fn (.func g) x y] (tsA (some (0, 0)) t) := by
  refine ⟨code_of Tryz.func112 (by decide) rfl, rfl, fun F w vs hF hG hv => ?_⟩
  obtain ⟨v, rfl, ys, zs, e1, h1, h2⟩ := list1 hv
  cases e1
  have hb : Below w.heap.size w (w.alloc (.cells #[.slice none 0 0] 22)) := below_alloc _ _
  have hFW : ∀ b o v, F b o = some v → U (w.alloc (.cells #[.slice none 0 0] 22)) b o = some v := fun b o v hv => U_below hb _ _ _ (U_lt (hF b o v hv)) (hF b o v hv)
  have hmv : ∀ {a : AV} {xs : List Value}, a.unl = true → RepV (argGh F w) a xs → RepV (argGh F (w.alloc (.cells #[.slice none 0 0] 22))) a xs := fun hu h => RepV.mv (g := argGh F w) (g' := argGh F (w.alloc (.cells #[.slice none 0 0] 22))) (fun _ _ _ h => h) hb.size (.inr fun b o v hlt hv => by
    have hlt : b < w.heap.size := hlt
    have h3 : (if b < w.heap.size then U w b o else F b o) = some v := hv
    rw [if_pos hlt] at h3
    show (if b < (w.alloc (.cells #[.slice none 0 0] 22)).heap.size then U (w.alloc (.cells #[.slice none 0 0] 22)) b o else F b o) = some v
    rw [if_pos (Nat.lt_of_lt_of_le hlt hb.size)]
    exact U_below hb _ _ _ hlt h3) hu h
  have hc := h.2.2 F _ (ys ++ zs) hFW (stKA _ _ hb hG) (RepV.app (hmv huy h2) (hmv hux h1) hx)
  refine (triedT_any g ys.toArray zs.toArray w h.1 (fun v w1 => ∃ S, Own w1 (w.heap.size + 1) (.row 5 26 (tDs ty t) .nil .nil) [v] S ∧ S.Nodup) ?_).mono ?_
  · rw [show ys.toArray ++ zs.toArray = (ys ++ zs).toArray by simp]
    refine hc.mono ?_
    rintro e w' ⟨v, fp, rfl, h3, ⟨-, v', _, e2, -, how, -⟩, -⟩
    cases e2
    obtain ⟨-, S, o1, o2, -⟩ := how (0, 0) rfl
    obtain ⟨p, n, c, rfl⟩ := own_slice o1
    have o3 : Own w' (w.alloc (.cells #[.slice none 0 0] 22)).heap.size (.row 5 26 (tDs ty t) .nil .nil) [.slice p n c] S := o1
    rw [World.size_alloc] at o3
    exact ⟨p, n, c, rfl, by simpa using h3, S, o3, o2⟩
  · rintro e w' ⟨v, w1, rfl, h3, ⟨S, o1, o2⟩, rfl⟩
    have hsz : w.heap.size + 1 ≤ w1.heap.size := by have := h3.size; simpa using this
    have hO : Own (w1.setCell ⟨w.heap.size, 0, none⟩ v) w.heap.size (.row 5 26 (tDs ty t) .nil .nil) [v] S := (o1.setCell (p := ⟨w.heap.size, 0, none⟩) (o1.notMem (Nat.lt_succ_self _)) v).lower (Nat.le_succ _)
    obtain ⟨v', _, e2, h8, -⟩ := Vs.res (F := F) (fp := fp1 S) (Nat.le_refl _) hO
    cases e2
    refine ⟨v, fp1 S, rfl, (hb.trans (h3.mono (by omega))).setCell (p := ⟨w.heap.size, 0, none⟩) (Nat.le_refl _) _, ⟨tDs_good _, v, [], rfl, h8, fun j e => ?_, rfl⟩, fun k b hb => ?_, fun k k' b h1 h2 => ?_⟩
    · cases e
      exact ⟨rfl, S, hO, o2, fun b hb => mem_fp1.2 ⟨rfl, hb⟩⟩
    · exact hO.mem b (mem_fp1.1 hb).2
    · rw [(mem_fp1.1 h1).1, (mem_fp1.1 h2).1]
theorem f38_of (r : Rl) (v : Ts) (far i : Int) {t : Ts} (h : HH 112 [tryA 113 r v far i] (tsA (some (0, 0)) t)) : HH 38 [rlL r, iA i, tsA none v, iA far] (tsA (some (0, 0)) t) := by
  refine ab Tryz.func38 Tryz.ntmps38 Tryz.results38 rfl (by decide) (by simp) rfl rfl ?_
  simp [rlL, rlC]
  refine asks h ?_ ?_ ?_ <;> simp [mvDs]
  · exact ⟨⟨_, _, ⟨rfl, rfl⟩, rfl⟩, ⟨_, _, ⟨rfl, rfl⟩, rfl⟩⟩
  · exact ⟨[((0, 0), [(16, 0)])], by simp⟩
theorem f39_of (r : Rl) (v : Ts) (far i : Int) {t : Ts} (h : HH 112 [tryA 115 r v far i] (tsA (some (0, 0)) t)) : HH 39 [rlL r, iA i, tsA none v, iA far] (tsA (some (0, 0)) t) := by
  refine ab Tryz.func39 Tryz.ntmps39 Tryz.results39 rfl (by decide) (by simp) rfl rfl ?_
  simp [rlL, rlC]
  refine asks h ?_ ?_ ?_ <;> simp [mvDs]
  · exact ⟨⟨_, _, ⟨rfl, rfl⟩, rfl⟩, ⟨_, _, ⟨rfl, rfl⟩, rfl⟩⟩
  · exact ⟨[((0, 0), [(16, 0)])], by simp⟩
theorem k38_out (r : Rl) (v : Ts) (far i : Int) (ho : i < 0 ∨ (r.g.length : Int) ≤ i) : HH 38 [rlL r, iA i, tsA none v, iA far] (tsA (some (0, 0)) .nil) := f38_of r v far i (tele_nil r v far i ho)
theorem k39_out (r : Rl) (v : Ts) (far i : Int) (ho : i < 0 ∨ (r.g.length : Int) ≤ i) : HH 39 [rlL r, iA i, tsA none v, iA far] (tsA (some (0, 0)) .nil) := f39_of r v far i (index_nil r v far i ho)
theorem k38 (r : Rl) (v : Ts) (far : Int) (i : Nat) (hi : i < r.g.length) (hl : r.g.length ≤ 500) (hs : szAg r.g ≤ 300000) (hf : agFits r.g) (hv : v.fits) (hsz : i * (v.size + 1) ≤ 1000000) (hvs : v.size ≤ 1000000) :
    HH 38 [rlL r, iA i, tsA none v, iA far] (tsA (some (0, 0)) (teleT r.g v far i .nil r.g[i].e)) := f38_of r v far i (tried_own rfl rfl rfl (k113 r v far i hi hl hs hf hv hsz hvs))
theorem k39 (r : Rl) (v : Ts) (far : Int) (i : Nat) (hi : i < r.g.length) (hl : r.g.length ≤ 500) (hs : szAg r.g ≤ 300000) (hf : agFits r.g) (hv : v.fits) (hsz : i * (v.size + 1) ≤ 1000000) (hvs : v.size ≤ 1000000) :
    HH 39 [rlL r, iA i, tsA none v, iA far] (tsA (some (0, 0)) (rowT r.g v far i r.g[i].e r.g[i].i)) := f39_of r v far i (tried_own rfl rfl rfl (k115 r v far i hi hl hs hf hv hsz hvs))
end Go.Proofs.YtkcmapimcgppmaaGreatDoor
end
section
namespace Go.Proofs.YtkcmapimcgppmaaGreatDoor
open Go.RowKit

theorem put_leaf {y : Ts} {h : Hd} {d : Nat} {u : Tm} {C : Nat} (hC : ∀ j, j < y.len → (y.tm j).size ≤ C) (hp : putNode y h d = .inl u) : u.size ≤ C := by
  unfold putNode at hp
  split at hp
  · rename_i c1
    split at hp
    · rename_i c2
      cases hp
      rw [lift_size]
      exact hC _ (by omega)
    · cases hp
  · cases hp
theorem put_node {y : Ts} {h h' : Hd} {d : Nat} (hp : putNode y h d = .inr h') : h'.l = h.l := by
  unfold putNode at hp
  split at hp
  · split at hp
    · cases hp
    · cases hp; rfl
  · cases hp; rfl
theorem putR_size {y : Ts} {C : Nat} (hC : ∀ j, j < y.len → (y.tm j).size ≤ C) : ∀ (x : Ts) (pk : Int) (i d : Nat), (putR y pk i d x).size ≤ x.size * (C + 1)
  | .nil, _, _, _ => by simp [putR, Ts.size]
  | .cons h x r, pk, i, d => by
    have ir := putR_size hC r pk (i + 1) d
    have ix := putR_size hC x h.k 0 (deeper pk i d)
    have e1 : (lvSize h.l + x.size + 1 + r.size) * (C + 1) = lvSize h.l * (C + 1) + x.size * (C + 1) + (C + 1) + r.size * (C + 1) := by
      rw [Nat.add_mul, Nat.add_mul, Nat.add_mul, Nat.one_mul]
    have e2 : lvSize h.l ≤ lvSize h.l * (C + 1) := Nat.le_mul_of_pos_right _ (Nat.succ_pos _)
    have e3 : (Ts.cons h x r).size = lvSize h.l + x.size + 1 + r.size := by simp only [Ts.size]; omega
    rw [e3, e1]
    simp only [putR]
    cases hp : putNode y h (deeper pk i d) with
    | inl u =>
      have := put_leaf hC hp
      unfold Tm.size at this
      simp only [Ts.size]
      omega
    | inr h' =>
      have := put_node hp
      simp only [Ts.size, this]
      omega
theorem putAt_size {y : Ts} {C : Nat} (hC : ∀ j, j < y.len → (y.tm j).size ≤ C) (t : Tm) (d : Nat) : (putAt y d t).size + 1 ≤ (t.size + 1) * (C + 1) := by
  have := putR_size hC t.x t.h.k 0 d
  have e1 : (t.size + 1) * (C + 1) = lvSize t.h.l * (C + 1) + t.x.size * (C + 1) + (C + 1) := by
    unfold Tm.size; rw [Nat.add_mul, Nat.add_mul, Nat.one_mul]
  have e2 : lvSize t.h.l ≤ lvSize t.h.l * (C + 1) := Nat.le_mul_of_pos_right _ (Nat.succ_pos _)
  rw [e1]
  simp only [putAt]
  cases hp : putNode y t.h d with
  | inl u => have := put_leaf hC hp; simp only; omega
  | inr h' =>
    have := put_node hp
    unfold Tm.size
    simp only [this]
    omega
theorem inner_put {y : Ts} : ∀ (m : Nat) (T : Tm) (d : Nat), deepT m T → ∃ d', inner m (putAt y d T) = putAt y d' (inner m T)
  | 0, T, d, _ => ⟨d, rfl⟩
  | m + 1, ⟨h, x⟩, d, ⟨h1, h2, h3⟩ => by
    have h5 : h.k = 5 := h1
    have e1 : putAt y d ⟨h, x⟩ = ⟨h, putR y h.k 0 d x⟩ := by
      simp only [putAt, putNode]
      rw [if_neg (fun h9 => by rw [h5] at h9; exact absurd h9.1 (by decide))]
    match x, h2, h3 with
    | .cons a p (.cons b q .nil), _, h3 =>
      obtain ⟨d', h4⟩ := inner_put m ⟨b, q⟩ (deeper h.k 1 d) h3
      refine ⟨d', ?_⟩
      rw [e1]
      show inner m ((putR y h.k 0 d (.cons a p (.cons b q .nil))).tm 1) = putAt y d' (inner m ⟨b, q⟩)
      rw [← h4, putR_cons, putR_cons]
      rfl
theorem inner_lift (n f : Int) : ∀ (m : Nat) (T : Tm) (d : Nat), deepT m T → (inner m ⟨T.h.lift n f d, T.x.lift n f T.h.k 0 d⟩).size = (inner m T).size
  | 0, T, d, _ => by simp only [inner, Tm.size, hdlift_l, tslift_size]
  | m + 1, ⟨h, x⟩, d, ⟨h1, h2, h3⟩ => by
    match x, h2, h3 with
    | .cons a p (.cons b q .nil), _, h3 => exact inner_lift n f m ⟨b, q⟩ (deeper h.k 1 d) h3
theorem inner_above : ∀ (row : Ts) (t : Tm), inner row.len (aboveT 5 row t) = t
  | .nil, _ => rfl
  | .cons h x r, t => inner_above r t
theorem byT_elem (v : Ts) : ∀ (l : List Ag) (n j : Nat), j < (byT l n v).len → ((byT l n v).tm j).size ≤ v.size
  | [], _, _, h => by simp [byT, Ts.len] at h
  | a :: r, n, 0, _ => one_size a n v
  | a :: r, n, j + 1, h => byT_elem v r _ j (by simp [byT, Ts.len] at h; omega)
theorem moved_size (g : List Ag) (v : Ts) (far : Int) (i : Nat) (row : Ts) (t : Tm) : (movedT g v far i row t).size + 1 ≤ (t.size + 1) * (v.size + 1) := by
  have hd := deep_lift far i _ _ 0 (deep_above row t)
  obtain ⟨d', h1⟩ : ∃ d', inner row.len (putAt (byT (g.take i) 0 v) 0 ((aboveT 5 row t).lift far i)) = putAt (byT (g.take i) 0 v) d' (inner row.len ((aboveT 5 row t).lift far i)) := inner_put (y := byT (g.take i) 0 v) row.len _ 0 hd
  have h2 : (inner row.len ((aboveT 5 row t).lift far i)).size = (inner row.len (aboveT 5 row t)).size := inner_lift far i row.len _ 0 (deep_above row t)
  rw [inner_above] at h2
  show (inner row.len (putAt (byT (g.take i) 0 v) 0 ((aboveT 5 row t).lift far i))).size + 1 ≤ _
  have h3 := putAt_size (byT_elem v (g.take i) 0) (inner row.len ((aboveT 5 row t).lift far i)) d'
  rw [← h1] at h3
  rw [h2] at h3
  exact h3
theorem cons_size (h : Hd) (x r : Ts) : (Ts.cons h x r).size = (Tm.size ⟨h, x⟩ + 1) + r.size := by simp only [Ts.size, Tm.size]; omega
theorem teleT_size (g : List Ag) (v : Ts) (far : Int) (i : Nat) : ∀ q e : Ts, (teleT g v far i e q).size ≤ q.size * (v.size + 1)
  | .nil, _ => by simp [teleT, Ts.size]
  | .cons h x q, e => by
    have h1 : Tm.size ⟨(movedT g v far i e ⟨h, x⟩).h, (movedT g v far i e ⟨h, x⟩).x⟩ + 1 ≤ _ := moved_size g v far i e ⟨h, x⟩
    have h2 := teleT_size g v far i q (e.app (.cons h x .nil))
    simp only [teleT]
    rw [cons_size, cons_size, Nat.add_mul]
    omega
theorem typesT_size (g : List Ag) (M : Nat) : ∀ (l : List Ag) (k n : Nat), n + l.length ≤ M → (typesT g l k n).size ≤ szAg l * (M + 1)
  | [], _, _, _ => by simp [typesT, Ts.size]
  | a :: r, k, n, hM => by
    simp only [List.length_cons] at hM
    have e1 : szAg (a :: r) = (1 + a.t.size + a.e.size + a.i.size) + szAg r := by simp [szAg]
    rw [e1, Nat.add_mul]
    simp only [typesT]
    split
    · have h2 := typesT_size g M r (k + 1) n (by omega)
      omega
    · have h1 := moved_size g (varsT 0 n) n k .nil a.t
      have h2 := typesT_size g M r (k + 1) (n + 1) (by omega)
      rw [varsT_size] at h1
      have h3 : (a.t.size + 1) * (n + 1) ≤ (1 + a.t.size + a.e.size + a.i.size) * (M + 1) := Nat.mul_le_mul (by omega) (by omega)
      rw [cons_size]
      show ((typeOf g k n a).size + 1) + _ ≤ _
      change (typeOf g k n a).size + 1 ≤ _ at h1
      omega
end Go.Proofs.YtkcmapimcgppmaaGreatDoor
end
section
namespace Go.Proofs.YtkcmapimcgppmaaGreatDoor
open Go.RowKit
attribute [local simp] ty_p ty_l ty_t kH tDs lvDs Tm.ts finH elemH ac_skip ac_label ac_region ac_seq ac_cond ac_block ac_loop ac_exit ac_ret seqK_n seqK_r seqK_e vo_nil vo_cons blkK loopK callOf vout aout abuiltin aslice ev startSt nmOf St.out putE updo upd contOf freshC K0 asC fillD fieldOf rowD astore aapp srcOf elsOf tb Dc.tk Dc.dp Dc.over Dc.app Dc.ln Dc.ds Dc.sing Dc.cont AV.cont Ds.hd Value.oneCell' retK resOf one1 AV.imp Dc.imp φOf calleeOf AV.isLL AV.list AV.app AV.arg AV.isL AV.ren Dc.ren Dc.lent tmC tmA tsA iA lo? abin AV.nth Dc.own Dc.toks stOf envOf bxOf τOf
attribute [local simp] AV.room amake agC lentAgC Ds.len Ds.dp

def lvA (s : Lv) : AV := .agg (.row none 2 77 (ptDs s) .nil)
def psA (l : Lv) : AV := .c (.row none 2 77 (ptDs l) .nil)
def varL (v : Int) : Lv := [(v, 0)]
def st238 (v : Int) (k : Nat) : St := stOf [(1, .bx 2 0), (3, iA k)] [(2, 43, .row none 2 77 (ptDs (varL v)) .nil)] []
set_option maxRecDepth 10000 in
theorem k238 (v : Int) (h1 : 0 < v) (h2 : v ≤ 1048576) : HH 238 [lvA (varL v)] (.v (.bool false)) := by
  have g1 : ¬ v < 0 := by omega
  have g2 : ¬ 1048576 < v := by omega
  refine ab Tryz.func238 Tryz.ntmps238 Tryz.results238 rfl (by decide) (by simp) rfl rfl ?_
  simp [lvA, varL, ptDs]
  refine lp (α := { k : Nat // k ≤ 1 }) (fun k => st238 v k.1) (fun k => 1 - k.1) ⟨0, by decide⟩ ?_ ?_
  · refine le_of [] ?_ ?_ ?_ <;> simp [AV.ok, Dc.ok, varL, ptDs]
  · rintro ⟨k, hk⟩
    by_cases h0 : k = 0
    · subst h0
      have w4 : IntKind.i64.wrap 1 = 1 := by decide
      simp [st238, varL, ptDs, g1, g2, w4]
      refine ⟨1, rfl, Nat.le_refl _, ?_⟩
      refine le_of [] ?_ ?_ ?_ <;> simp [AV.ok, Dc.ok, varL, ptDs]
    · obtain rfl : k = 1 := by omega
      simp [st238, varL, ptDs]
      exact ⟨[], by simp⟩
def st239 (v : Int) : St := stOf [(0, psA []), (3, .bx 4 0), (5, .v (.slice none 0 0)), (6, iA 0)] [(4, 77, .lit (.int .i64 v) (.lit (.int .i64 0) .nil))] []
set_option maxRecDepth 10000 in
theorem k239 (v : Int) : HH 239 [psA [], .agg (.lit (.int .i64 v) (.lit (.int .i64 0) .nil))] (psA (varL v)) := by
  refine ab Tryz.func239 Tryz.ntmps239 Tryz.results239 rfl (by decide) (by simp) rfl rfl ?_
  simp [psA, ptDs]
  refine lp (α := Unit) (fun _ => st239 v) (fun _ => 0) () ?_ ?_
  · refine le_of [] ?_ ?_ ?_ <;> simp [AV.ok, Dc.ok, psA, ptDs]
  · rintro ⟨⟩
    simp [st239, psA, ptDs]
    refine ⟨by kernel_rfl, ?_⟩
    exact ⟨by kernel_rfl, by simp [Ds.tk], by simp [varL, ptDs, Ds.tk, Ds.app], [], by simp⟩
def st235 (v : Int) (k : Nat) : St := stOf [(1, .bx 2 0), (2, .bx 3 0), (3, psA (if k = 0 then [] else varL v)), (4, iA k)] [(2, 43, .row none 2 77 (ptDs (varL v)) .nil), (3, 43, .nilr 2 77 .nil)] []
set_option maxRecDepth 10000 in
theorem k235 (v : Int) (h1 : 0 < v) (h2 : v ≤ 1048576) : HH 235 [lvA (varL v)] (lvA (varL v)) := by
  have g1 : v ≠ 0 := by omega
  refine ab Tryz.func235 Tryz.ntmps235 Tryz.results235 rfl (by decide) (by simp) rfl rfl ?_
  simp [lvA]
  refine asks (k238 v h1 h2) ?_ ?_ ?_ <;> simp [lvA]
  refine lp (α := { k : Nat // k ≤ 1 }) (fun k => st235 v k.1) (fun k => 1 - k.1) ⟨0, by decide⟩ ?_ ?_
  · refine le_of [] ?_ ?_ ?_ <;> simp [AV.ok, Dc.ok, psA, ptDs]
  · rintro ⟨k, hk⟩
    by_cases h0 : k = 0
    · subst h0
      have w4 : IntKind.i64.wrap 1 = 1 := by decide
      simp [st235, psA, varL, ptDs, w4]
      refine asks (k239 v) ?_ ?_ ?_ <;> simp [psA, varL, ptDs, w4]
      refine ⟨1, rfl, Nat.le_refl _, ?_⟩
      refine le_of [] ?_ ?_ ?_ <;> simp [AV.ok, Dc.ok, varL, ptDs, psA]
    · obtain rfl : k = 1 := by omega
      simp [st235, psA, varL, ptDs, g1]
      exact ⟨[], by simp⟩
theorem k223 (v : Int) (h1 : 0 < v) (h2 : v ≤ 1048576) : HH 223 [iA v] (lvA (varL v)) := by
  refine ab Tryz.func223 Tryz.ntmps223 Tryz.results223 rfl (by decide) (by simp) rfl rfl ?_
  simp
  refine asks (k235 v h1 h2) ?_ ?_ ?_ <;> simp [lvA, varL, ptDs]
  exact ⟨[], by simp⟩
end Go.Proofs.YtkcmapimcgppmaaGreatDoor
end
