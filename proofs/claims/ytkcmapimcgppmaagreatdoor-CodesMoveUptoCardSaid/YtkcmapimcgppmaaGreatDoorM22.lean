/-
  What the program tries: a row of a recursive argument, its index, moved: the call's own. Conditions: no more than 500 arguments, 300000 nodes, levels, parts; numbers that a word holds. What is tried and thrown: nothing comes back. Conditions: what is thrown is what is caught. What the program's tries come to: a row of a recursive argument, its index; nothing, if there is no such argument. Conditions: no more than 500 arguments, 300000 nodes, levels, parts; numbers that a word holds. How great terms are that are put, moved. Rows that are written over: appended to in their room, or beyond it; rows of such rows. Rows that are grown one by one, by many at once; the list of what they have grown to. Conditions: as each lemma states them.
-/
import Derived.Test.YtkcmapimcgppmaaGreatDoorM21
import Derived.WalkLawsBesides
import Derived.Test.YtkcmapimcgppmaaGreatDoorM20
import Derived.Test.YtkcmapimcgppmaaGreatDoorM18
set_option linter.all false
set_option linter.unusedVariables false
set_option linter.unusedSimpArgs false
set_option linter.unnecessarySimpa false
section
namespace Go.Proofs.YtkcmapimcgppmaaGreatDoor
open Go.RowKit
attribute [local simp] ty_p ty_l ty_t kH tDs lvDs Tm.ts finH elemH ac_skip ac_label ac_region ac_seq ac_cond ac_block ac_loop ac_exit ac_ret seqK_n seqK_r seqK_e vo_nil vo_cons blkK loopK callOf vout aout abuiltin aslice ev startSt nmOf St.out putE updo upd contOf freshC K0 asC fillD fieldOf rowD astore aapp srcOf elsOf tb Dc.tk Dc.dp Dc.over Dc.app Dc.ln Dc.ds Dc.sing Dc.cont AV.cont Ds.hd Value.oneCell' retK resOf one1 AV.imp Dc.imp φOf calleeOf AV.isLL AV.list AV.app AV.arg AV.isL AV.ren Dc.ren Dc.lent tmC tmA tsA iA lo? abin AV.nth Dc.own Dc.toks stOf envOf bxOf τOf
attribute [local simp] AV.room amake agC lentAgC Ds.len Ds.dp

/-- A rule at work, as it lies. -/
def mvDs (r : Rl) (v : Ts) (far : Int) : Ds := .lit (.int .i64 r.m) (.row 9 82 (agDs r.g) .nil (.row 5 26 (tDs ty r.i) .nil (.row 5 26 (tDs ty v) .nil (.lit (.int .i64 far) .nil))))
theorem k114 (r : Rl) (v : Ts) (far : Int) (i : Nat) (hi : i < r.g.length) (hl : r.g.length ≤ 500) : HH 114 [.agg (mvC r v far), iA i] (agL r.g[i]) := by
  have h1 := dp_ag hi
  have dg : r.g.length * 9 / 9 = r.g.length := by omega
  have h0 : ¬ (i : Int) < 0 := by omega
  have hi2 : ¬ r.g.length ≤ i := by omega
  generalize r.g.drop (i + 1) = qq at h1
  generalize r.g[i] = b at *
  refine ab Tryz.func114 Tryz.ntmps114 Tryz.results114 rfl (by decide) (by simp) rfl rfl ?_
  simp [mvC, h0, agDs_len, dg, hi, hi2, h1, agDs]
  refine ⟨by omega, [], by simp [agL]⟩
def st113 (r : Rl) (v : Ts) (far : Int) (i : Nat) (e a : Ts) : St := stOf [(0, .el (mvDs r v far)), (1, .el (.lit (.int .i64 i) .nil)), (2, .c (.blk 27 (a.len + 1) 5 26 (.seg (some (100, 0)) (tDs ty (teleT r.g v far i .nil a)) .nil) .nil)), (3, tsA none e), (10, tsA none e), (11, iA e.len), (12, iA a.len)] [] [(27, a.len + 1), (100, 0)]
set_option maxRecDepth 10000 in
set_option maxHeartbeats 2000000 in
theorem k113 (r : Rl) (v : Ts) (far : Int) (i : Nat) (hi : i < r.g.length) (hl : r.g.length ≤ 500) (hs : szAg r.g ≤ 300000) (hf : agFits r.g) (hv : v.fits) (hsz : i * (v.size + 1) ≤ 1000000) (hvs : v.size ≤ 1000000) :
    HH 113 [.el (mvDs r v far), .el (.lit (.int .i64 i) .nil)] (tsA (some (0, 0)) (teleT r.g v far i .nil r.g[i].e)) := by
  have h1 := dp_ag hi
  have hsa := szAg_at hi
  have ka := k114 r v far i hi hl
  obtain ⟨f1, f2, f3⟩ := hf _ (List.getElem_mem hi)
  have hvl : v.len ≤ 1000000 := Nat.le_trans (len_le_size v) hvs
  have hby := by_size v (r.g.take i) 0
  rw [List.length_take, show min i r.g.length = i by omega] at hby
  generalize r.g.drop (i + 1) = qq at h1
  generalize r.g[i] = b at *
  have hil : b.e.len ≤ 1000000 := Nat.le_trans (len_le_size b.e) (by omega)
  have d0 : b.e.len * 5 / 5 = b.e.len := by omega
  refine ab Tryz.func113 Tryz.ntmps113 Tryz.results113 rfl (by decide) (by simp) rfl rfl ?_
  simp [mvDs]
  refine asks ka ?_ ?_ ?_ <;> simp [mvC, agL]
  refine lp (α := { q : Ts × Ts // q.1.app q.2 = b.e }) (fun q => st113 r v far i b.e q.1.1) (fun q => q.1.2.len) ⟨(.nil, b.e), rfl⟩ ?_ ?_
  · refine le_of [((27, 0), [(27, 0)])] ?_ ?_ ?_ <;> simp [AV.ok, Dc.ok, teleT, Ts.len, mvDs, tDs_len, d0]
  · rintro ⟨⟨a, q⟩, hq⟩
    simp only at hq
    cases q with
    | nil =>
      have e : a = b.e := by rw [← hq]; exact (Ts.app_nil a).symm
      rw [← e] at d0
      simp [st113, tDs_len, d0, ← e, Ds.app_nil]
      exact ⟨[((0, 0), [(27, 0), (100, 0)])], by simp⟩
    | cons h y q =>
      have h3 : a.len < b.e.len := by rw [← hq]; simp [Ts.app_len, Ts.len]
      have h2 : (tDs ty b.e).dp (a.len * 5) = tDs ty (.cons h y q) := by rw [← hq]; exact dp_mid a _
      have h6 : (tDs ty b.e).tk (a.len * 5) = tDs ty a := by rw [← hq]; exact tk_mid a _
      have h4 : h.fits ∧ y.fits := app_fits (a := a) (by rw [hq]; exact f2)
      have h5 : lvSize h.l + y.size + 1 ≤ b.e.size := by rw [← hq]; exact app_size
      have h7 : a.fits ∧ a.size ≤ b.e.size := by
        have hfa : ∀ (a r : Ts), (a.app r).fits → a.fits := fun a => by
          induction a with
          | nil => intro _ _; trivial
          | cons h x a _ ih => intro r h9; exact ⟨h9.1, h9.2.1, ih r h9.2.2⟩
        have e9 : b.e.size = a.size + (Ts.cons h y q).size := by rw [← hq, size_app]
        exact ⟨hfa a _ (by rw [hq]; exact f2), by omega⟩
      have hw : IntKind.i64.wrap ((a.len : Int) + 1) = a.len + 1 := by rw [IntKind.wrap_i64]; omega
      have hts : (⟨h, y⟩ : Tm).size ≤ 300000 := by unfold Tm.size; simp only; omega
      have hab := above_size a ⟨h, y⟩
      have q1 := k111 r i a ⟨h, y⟩ v far (by omega) (by omega) hvl h7.1 (by omega) h4 (by omega) (above_fits h7.1 h4) (by omega) (lift_fits _ _ (above_fits h7.1 h4)) (by rw [lift_size]; omega) (by_fits hv _ _) (by omega)
      have e1 : teleT r.g v far i .nil (a.app (.cons h y .nil)) = (teleT r.g v far i .nil a).app (.cons (movedT r.g v far i a ⟨h, y⟩).h (movedT r.g v far i a ⟨h, y⟩).x .nil) := by rw [teleT_app]; rfl
      generalize movedT r.g v far i a ⟨h, y⟩ = P at *
      simp [st113, tDs_len, d0, h3, h2, h6, mvDs]
      refine ⟨by omega, by kernel_rfl, by omega, ?_⟩
      refine asks q1 ?_ ?_ ?_ <;> simp [mvC]
      refine ⟨by rw [tDs_len, teleT_len]; omega, a.app (.cons h y .nil), q, by simp [Ts.len], by rw [Ts.app_assoc]; exact hq, ?_⟩
      refine le_of [((27, 0), [(27, 0)]), ((100, 0), [(100, 0), (25, 0), (25, 1)])] ?_ ?_ ?_ <;> simp [Ts.len, Ts.app_len, AV.ok, Dc.ok, hw, e1, mvDs]
      rw [tDs_app]; rfl
def st115 (r : Rl) (v : Ts) (far : Int) (i : Nat) (b : Ag) (a : Ts) : St := stOf [(0, .el (mvDs r v far)), (1, .el (.lit (.int .i64 i) .nil)), (2, .c (.blk 25 (a.len + 1) 5 26 (.seg (some (100, 0)) (tDs ty (rowT r.g v far i b.e a)) .nil) .nil)), (3, .bx 4 0), (10, tsA none b.i), (11, iA b.i.len), (12, iA a.len)] [(4, 82, agC b)] [(25, a.len + 1), (100, 0)]
set_option maxRecDepth 10000 in
set_option maxHeartbeats 2000000 in
theorem k115 (r : Rl) (v : Ts) (far : Int) (i : Nat) (hi : i < r.g.length) (hl : r.g.length ≤ 500) (hs : szAg r.g ≤ 300000) (hf : agFits r.g) (hv : v.fits) (hsz : i * (v.size + 1) ≤ 1000000) (hvs : v.size ≤ 1000000) :
    HH 115 [.el (mvDs r v far), .el (.lit (.int .i64 i) .nil)] (tsA (some (0, 0)) (rowT r.g v far i r.g[i].e r.g[i].i)) := by
  have h1 := dp_ag hi
  have hsa := szAg_at hi
  have ka := k114 r v far i hi hl
  obtain ⟨f1, f2, f3⟩ := hf _ (List.getElem_mem hi)
  have hvl : v.len ≤ 1000000 := Nat.le_trans (len_le_size v) hvs
  have hby := by_size v (r.g.take i) 0
  rw [List.length_take, show min i r.g.length = i by omega] at hby
  generalize r.g.drop (i + 1) = qq at h1
  generalize r.g[i] = b at *
  have hil : b.i.len ≤ 1000000 := Nat.le_trans (len_le_size b.i) (by omega)
  have d0 : b.i.len * 5 / 5 = b.i.len := by omega
  refine ab Tryz.func115 Tryz.ntmps115 Tryz.results115 rfl (by decide) (by simp) rfl rfl ?_
  simp [mvDs]
  refine asks ka ?_ ?_ ?_ <;> simp [mvC, agL]
  refine lp (α := { q : Ts × Ts // q.1.app q.2 = b.i }) (fun q => st115 r v far i b q.1.1) (fun q => q.1.2.len) ⟨(.nil, b.i), rfl⟩ ?_ ?_
  · refine le_of [((25, 0), [(25, 0)])] ?_ ?_ ?_ <;> simp [AV.ok, Dc.ok, rowT, Ts.len, mvDs, tDs_len, d0]
  · rintro ⟨⟨a, q⟩, hq⟩
    simp only at hq
    cases q with
    | nil =>
      have e : a = b.i := by rw [← hq]; exact (Ts.app_nil a).symm
      rw [← e] at d0
      simp [st115, tDs_len, d0, ← e, Ds.app_nil]
      exact ⟨[((0, 0), [(25, 0), (100, 0)])], by simp⟩
    | cons h y q =>
      have h3 : a.len < b.i.len := by rw [← hq]; simp [Ts.app_len, Ts.len]
      have h2 : (tDs ty b.i).dp (a.len * 5) = tDs ty (.cons h y q) := by rw [← hq]; exact dp_mid a _
      have h4 : h.fits ∧ y.fits := app_fits (a := a) (by rw [hq]; exact f3)
      have h5 : lvSize h.l + y.size + 1 ≤ b.i.size := by rw [← hq]; exact app_size
      have hw : IntKind.i64.wrap ((a.len : Int) + 1) = a.len + 1 := by rw [IntKind.wrap_i64]; omega
      have hts : (⟨h, y⟩ : Tm).size ≤ 300000 := by unfold Tm.size; simp only; omega
      have hab := above_size b.e ⟨h, y⟩
      have q1 := k111 r i b.e ⟨h, y⟩ v far (by omega) (by omega) hvl f2 (by omega) h4 (by omega) (above_fits f2 h4) (by omega) (lift_fits _ _ (above_fits f2 h4)) (by rw [lift_size]; omega) (by_fits hv _ _) (by omega)
      have e1 : rowT r.g v far i b.e (a.app (.cons h y .nil)) = (rowT r.g v far i b.e a).app (.cons (movedT r.g v far i b.e ⟨h, y⟩).h (movedT r.g v far i b.e ⟨h, y⟩).x .nil) := by rw [rowT_app]; rfl
      generalize movedT r.g v far i b.e ⟨h, y⟩ = P at *
      simp [st115, tDs_len, d0, h3, h2, mvDs]
      refine ⟨by omega, ?_⟩
      refine asks q1 ?_ ?_ ?_ <;> simp [mvC]
      refine ⟨by rw [tDs_len, rowT_len]; omega, a.app (.cons h y .nil), q, by simp [Ts.len], by rw [Ts.app_assoc]; exact hq, ?_⟩
      refine le_of [((25, 0), [(25, 0)]), ((100, 0), [(100, 0), (23, 0), (23, 1)])] ?_ ?_ ?_ <;> simp [Ts.len, Ts.app_len, AV.ok, Dc.ok, hw, e1, mvDs]
      rw [tDs_app]; rfl
end Go.Proofs.YtkcmapimcgppmaaGreatDoor
end
section
namespace Go.Proofs.YtkcmapimcgppmaaGreatDoor
open Go.RowKit

/-- What is thrown where there is no such thing. -/
abbrev thrown : Value := .iface 128 (.agg #[])
theorem assert_thrown (w : World) : Sem.run Tryz.prog (Instr.typeAssert thrown 20 128 true) w = .ok (.tuple #[.agg #[], .bool true]) w := by
  simp [Instr.typeAssert, go_sem]
set_option maxRecDepth 100000 in
set_option maxHeartbeats 1000000 in
theorem catchT_thrown (p : Addr) (u : Value) (w : World) (hc : w.cell? p = some u) (hz : w.frozen? p = false) :
    CallsD Tryz.prog 194 #[.pointer (some p)] (.panicking [{ v := thrown, recovered := false }]) w fun e u' w' => e = .returned (.tuple #[]) ∧ u' = .panicking [{ v := thrown, recovered := true }] ∧ w' = (w.alloc (.cells #[] 128)).setCell p (.slice none 0 0) := by
  refine callsD_of_wpS Tryz.func194 rfl fun c₀ cs hu => ?_
  apply wpS_seq
  apply wpS_region
  simp [wpOpsS, go_sem, recoverD, hu, Tryz.ntmps194, Exit.thenS]
  refine wpS_of_wp (wp_mono (Q := fun e a w' => e = .normal ∧ a.defers = [] ∧ w' = (w.alloc (.cells #[] 128)).setCell p (.slice none 0 0)) ?_ ?_)
  · clear hu
    have hlt : p.block < w.heap.size := by
      apply Nat.lt_of_not_le
      intro h
      have : w.heap[p.block]? = none := by simp [h]
      simp [World.cell?, this] at hc
    have hc2 : (w.alloc (.cells #[] 128)).cell? p = some u := by
      rw [← hc]; exact (below_alloc w (.cells #[] 128)).cell hlt
    have hz2 : (w.alloc (.cells #[] 128)).frozen? p = false := by
      rw [← hz]; exact (below_alloc w (.cells #[] 128)).frozen hlt
    rw [show #[Value.pointer (some p)] ++ ((Array.replicate 16 undef).setIfInBounds 4 thrown).setIfInBounds 0 thrown = #[Value.pointer (some p), thrown, undef, undef, undef, thrown, undef, undef, undef, undef, undef, undef, undef, undef, undef, undef, undef] from rfl]
    have hta := assert_thrown
    go_wp2
  · rintro e a w' ⟨rfl, hd, rfl⟩
    cases c₀
    simp_all [bodyPostS, results, Tryz.results194]

/-- How it ends. -/
abbrev throwsP (w : World) : Ending → World → Prop := fun e w' => e = .panicked [{ v := thrown, recovered := false }] ∧ Below w.heap.size w w'
set_option maxRecDepth 100000 in
set_option maxHeartbeats 1000000 in
theorem triedT_out (g : Nat) (x y : Array Value) (w : World) (hg : IsCode Tryz.prog g) (hc : ∀ W, Below w.heap.size w W → Calls Tryz.prog g (x ++ y) W (throwsP W)) :
    Calls Tryz.prog 112 #[.func (.func g) x y] w fun e w' => e = .returned (.slice none 0 0) ∧ Below w.heap.size w w' := by
  have hmf : ∀ (fn : Fn) (first cap : Array Value) (w : World), (Instr.makeFunc fn first cap).run Tryz.prog w = .ok (.func fn first cap) w := fun _ _ _ _ => rfl
  have hcf : ∀ w, (callFunc g (x ++ y)).run Tryz.prog w = .ok (.enter g (x ++ y)) w := fun w => by
    obtain ⟨fn, k1, k2, k3⟩ := hg
    simp [callFunc, k1, k2, k3]
  have hb0 : Below w.heap.size w (w.alloc (.cells #[.slice none 0 0] 22)) := below_alloc _ _
  have HC := Lib.hid (hc _ hb0)
  have HB0 := Lib.hid hb0
  clear hc hg hb0
  go_enter_defers Tryz.func112, Tryz.ntmps112
  go_wp2_with fail
  refine HC.out.mono ?_
  rintro e w1 ⟨rfl, hb1⟩
  have hsz : w.heap.size < (w.alloc (.cells #[.slice none 0 0] 22)).heap.size := by simp
  have d0 : w1.cell? ⟨w.heap.size, 0, none⟩ = some (.slice none 0 0) := (hb1.cell (p := ⟨w.heap.size, 0, none⟩) hsz).trans (by simp [go_sem])
  have f0 : w1.frozen? ⟨w.heap.size, 0, none⟩ = false := (hb1.frozen (p := ⟨w.heap.size, 0, none⟩) hsz).trans (by simp [go_sem])
  have HB1 := Lib.hid (below_step HB0.out hb1)
  clear hb1
  go_wp2
  refine leaves_cons (f := 194) (args := #[.pointer (some ⟨w.heap.size, 0, none⟩)]) (by simp) (by simp [go_sem]) ?_
  refine (catchT_thrown _ _ _ d0 f0).mono ?_
  rintro e u' w'' ⟨rfl, rfl, rfl⟩
  have hlt : (⟨w.heap.size, 0, none⟩ : Addr).block < w1.heap.size := U_lt (U_mk d0 f0)
  have d1 : (w1.alloc (.cells #[] 128)).cell? ⟨w.heap.size, 0, none⟩ = some (.slice none 0 0) := ((below_alloc w1 (.cells #[] 128)).cell hlt).trans d0
  have c0 : ((w1.alloc (.cells #[] 128)).setCell ⟨w.heap.size, 0, none⟩ (.slice none 0 0)).cell? ⟨w.heap.size, 0, none⟩ = some (.slice none 0 0) := World.cell?_setCell_same' _ _ _ (by rw [d1]; rfl)
  have hB : Below w.heap.size w ((w1.alloc (.cells #[] 128)).setCell ⟨w.heap.size, 0, none⟩ (.slice none 0 0)) := (below_step HB1.out (below_alloc _ _)).setCell (p := ⟨w.heap.size, 0, none⟩) (Nat.le_refl _) _
  simp [Leaves, settle, results, Tryz.results112, go_sem, c0]
  exact hB
set_option maxRecDepth 100000 in
set_option maxHeartbeats 1000000 in
theorem arg_out (m far : Int) (pa pi pv : Option Addr) (na ca ni ci nv cv : Nat) (i : Int) (w : World) (ho : i < 0 ∨ (na : Int) ≤ i) :
    Calls Tryz.prog 114 #[.agg #[.int .i64 m, .slice pa na ca, .slice pi ni ci, .slice pv nv cv, .int .i64 far], .int .i64 i] w (throwsP w) := by
  go_enter Tryz.func114, Tryz.ntmps114
  by_cases h0 : i < 0
  · have b0 : decide (i < 0) = true := decide_eq_true h0
    go_wp2_with fail
    exact ⟨rfl, rfl, below_step (below_alloc _ _) (below_alloc _ _)⟩
  · have b0 : decide (i < 0) = false := decide_eq_false h0
    have b1 : decide ((na : Int) ≤ i) = true := decide_eq_true (by omega)
    go_wp2_with fail
    exact ⟨rfl, rfl, below_step (below_alloc _ _) (below_alloc _ _)⟩
end Go.Proofs.YtkcmapimcgppmaaGreatDoor
end
section
namespace Go.Proofs.YtkcmapimcgppmaaGreatDoor
open Go.RowKit
attribute [local simp] ty_p ty_l ty_t kH tDs lvDs Tm.ts finH elemH ac_skip ac_label ac_region ac_seq ac_cond ac_block ac_loop ac_exit ac_ret seqK_n seqK_r seqK_e vo_nil vo_cons blkK loopK callOf vout aout abuiltin aslice ev startSt nmOf St.out putE updo upd contOf freshC K0 asC fillD fieldOf rowD astore aapp srcOf elsOf tb Dc.tk Dc.dp Dc.over Dc.app Dc.ln Dc.ds Dc.sing Dc.cont AV.cont Ds.hd Value.oneCell' retK resOf one1 AV.imp Dc.imp φOf calleeOf AV.isLL AV.list AV.app AV.arg AV.isL AV.ren Dc.ren Dc.lent tmC tmA tsA iA lo? abin AV.nth Dc.own Dc.toks stOf envOf bxOf τOf
attribute [local simp] AV.room amake agC lentAgC Ds.len Ds.dp

set_option maxRecDepth 100000 in
set_option maxHeartbeats 1000000 in
theorem tele_out (m far : Int) (pa pi pv : Option Addr) (na ca ni ci nv cv : Nat) (i : Int) (b o b' o' : Nat) (w : World) (ho : i < 0 ∨ (na : Int) ≤ i)
    (h0 : w.cell? ⟨b, o, none⟩ = some (.int .i64 m)) (h1 : w.cell? ⟨b, o + 1, none⟩ = some (.slice pa na ca)) (h2 : w.cell? ⟨b, o + 2, none⟩ = some (.slice pi ni ci)) (h3 : w.cell? ⟨b, o + 3, none⟩ = some (.slice pv nv cv)) (h4 : w.cell? ⟨b, o + 4, none⟩ = some (.int .i64 far)) (h5 : w.cell? ⟨b', o', none⟩ = some (.int .i64 i)) :
    Calls Tryz.prog 113 #[.pointer (some ⟨b, o, none⟩), .pointer (some ⟨b', o', none⟩)] w (throwsP w) := by
  have HA := Lib.hid (arg_out m far pa pi pv na ca ni ci nv cv i w ho)
  clear ho
  go_enter Tryz.func113, Tryz.ntmps113
  go_wp2_with fail
  refine HA.out.mono ?_
  rintro e w1 ⟨rfl, hb⟩
  have HB := Lib.hid hb
  clear hb
  go_wp2_with fail
  exact ⟨rfl, rfl, HB.out⟩
set_option maxRecDepth 100000 in
set_option maxHeartbeats 1000000 in
theorem index_out (m far : Int) (pa pi pv : Option Addr) (na ca ni ci nv cv : Nat) (i : Int) (b o b' o' : Nat) (w : World) (ho : i < 0 ∨ (na : Int) ≤ i)
    (h0 : w.cell? ⟨b, o, none⟩ = some (.int .i64 m)) (h1 : w.cell? ⟨b, o + 1, none⟩ = some (.slice pa na ca)) (h2 : w.cell? ⟨b, o + 2, none⟩ = some (.slice pi ni ci)) (h3 : w.cell? ⟨b, o + 3, none⟩ = some (.slice pv nv cv)) (h4 : w.cell? ⟨b, o + 4, none⟩ = some (.int .i64 far)) (h5 : w.cell? ⟨b', o', none⟩ = some (.int .i64 i)) :
    Calls Tryz.prog 115 #[.pointer (some ⟨b, o, none⟩), .pointer (some ⟨b', o', none⟩)] w (throwsP w) := by
  have HA := Lib.hid (arg_out m far pa pi pv na ca ni ci nv cv i w ho)
  clear ho
  go_enter Tryz.func115, Tryz.ntmps115
  go_wp2_with fail
  refine HA.out.mono ?_
  rintro e w1 ⟨rfl, hb⟩
  have HB := Lib.hid hb
  clear hb
  go_wp2_with fail
  exact ⟨rfl, rfl, HB.out⟩
/-- What it is that is tried: a rule at work, the number of an argument. -/
abbrev tryA (g : Nat) (r : Rl) (v : Ts) (far i : Int) : AV := .fn (.func g) .nil (AV.list [.el (mvDs r v far), .el (.lit (.int .i64 i) .nil)])
/-- Where it lies. -/
def TryAt (w : World) (r : Rl) (i : Int) (x y : Value) : Prop := ∃ m far pa pi pv na ca ni ci nv cv b o b' o', x = .pointer (some ⟨b, o, none⟩) ∧ y = .pointer (some ⟨b', o', none⟩) ∧ na = r.g.length ∧ b < w.heap.size ∧ b' < w.heap.size ∧ 
    w.cell? ⟨b, o, none⟩ = some (.int .i64 m) ∧ w.cell? ⟨b, o + 1, none⟩ = some (.slice pa na ca) ∧ w.cell? ⟨b, o + 2, none⟩ = some (.slice pi ni ci) ∧ w.cell? ⟨b, o + 3, none⟩ = some (.slice pv nv cv) ∧ w.cell? ⟨b, o + 4, none⟩ = some (.int .i64 far) ∧ w.cell? ⟨b', o', none⟩ = some (.int .i64 i)
theorem tryAt {F : Mem} {w : World} {r : Rl} {v : Ts} {far i : Int} {x y : Value} (h : RepV (argGh F w) (.el (mvDs r v far)) [x]) (k : RepV (argGh F w) (.el (.lit (.int .i64 i) .nil)) [y]) : TryAt w r i x y := by
  obtain ⟨-, b, o, ys, e, hb, ⟨_, rfl, v1, _, rfl, ⟨p1, n1, c1, rfl, l1, -⟩, v2, _, rfl, ⟨p2, n2, c2, rfl, -⟩, v3, _, rfl, ⟨p3, n3, c3, rfl, -⟩, _, rfl, rfl⟩, hf⟩ := h
  obtain ⟨-, b', o', ys', e', hb', ⟨_, rfl, rfl⟩, hf'⟩ := k
  cases e; cases e'
  have cell : ∀ {b o : Nat} {u : Value}, b < w.heap.size → (argGh F w).Fs b o = some u → w.cell? ⟨b, o, none⟩ = some u := fun {b o u} hb h => by
    have h : (if b < w.heap.size then U w b o else F b o) = some u := h
    rw [if_pos hb] at h
    exact U_cell h
  rw [agDs_len] at l1
  exact ⟨_, _, _, _, _, _, _, _, _, _, _, _, _, _, _, rfl, rfl, by omega, hb, hb', cell hb (hf 0 _ rfl), cell hb (hf 1 _ rfl), cell hb (hf 2 _ rfl), cell hb (hf 3 _ rfl), cell hb (hf 4 _ rfl), cell hb' (hf' 0 _ rfl)⟩
theorem TryAt.on {w W : World} {r : Rl} {i : Int} {x y : Value} (h : TryAt w r i x y) (hb : Below w.heap.size w W) : TryAt W r i x y := by
  obtain ⟨m, far, pa, pi, pv, na, ca, ni, ci, nv, cv, b, o, b', o', e1, e2, e3, l1, l2, h0, h1, h2, h3, h4, h5⟩ := h
  exact ⟨m, far, pa, pi, pv, na, ca, ni, ci, nv, cv, b, o, b', o', e1, e2, e3, Nat.lt_of_lt_of_le l1 hb.size, Nat.lt_of_lt_of_le l2 hb.size, (hb.cell (p := ⟨b, o, none⟩) l1).trans h0, (hb.cell (p := ⟨b, o + 1, none⟩) l1).trans h1, (hb.cell (p := ⟨b, o + 2, none⟩) l1).trans h2, (hb.cell (p := ⟨b, o + 3, none⟩) l1).trans h3, (hb.cell (p := ⟨b, o + 4, none⟩) l1).trans h4, (hb.cell (p := ⟨b', o', none⟩) l2).trans h5⟩
theorem tried_nil {g : Nat} (hc : IsCode Tryz.prog g) {r : Rl} {v : Ts} {far i : Int} (h : ∀ W x y, TryAt W r i x y → Calls Tryz.prog g #[x, y] W (throwsP W)) : HH 112 [tryA g r v far i] (tsA (some (0, 0)) .nil) := by
  refine ⟨code_of Tryz.func112 (by decide) rfl, rfl, fun F w vs hF hG hv => ?_⟩
  obtain ⟨v, rfl, ys, zs, e1, h1, h2⟩ := list1 hv
  cases e1
  obtain rfl : ys = [] := h1
  obtain ⟨x, y, rfl, h3, h4⟩ := list2 h2
  have ht := tryAt h3 h4
  refine (triedT_out g #[] #[x, y] w hc fun W hb => h W x y (ht.on hb)).mono ?_
  rintro e w' ⟨rfl, hb⟩
  refine ⟨_, fun _ => [], rfl, hb, ⟨trivial, _, [], rfl, Rd.none_ _ _ _, fun j e => ?_, rfl⟩, fun k b hb => (by cases hb), fun k k' b hb => (by cases hb)⟩
  cases e
  exact ⟨rfl, [], ⟨_, [], [], [], [], [], [], [], rfl, .inl ⟨none, rfl, rfl, rfl, rfl⟩, ⟨rfl, rfl⟩, ⟨rfl, rfl⟩, ⟨rfl, rfl⟩, rfl⟩, by simp, fun b hb => by cases hb⟩
theorem tele_nil (r : Rl) (v : Ts) (far i : Int) (ho : i < 0 ∨ (r.g.length : Int) ≤ i) : HH 112 [tryA 113 r v far i] (tsA (some (0, 0)) .nil) :=
  tried_nil (code_of Tryz.func113 (by decide) rfl) fun W x y h => by
    obtain ⟨m, far, pa, pi, pv, na, ca, ni, ci, nv, cv, b, o, b', o', rfl, rfl, rfl, -, -, h0, h1, h2, h3, h4, h5⟩ := h
    exact tele_out _ _ _ _ _ _ _ _ _ _ _ _ _ _ _ _ _ ho h0 h1 h2 h3 h4 h5
theorem index_nil (r : Rl) (v : Ts) (far i : Int) (ho : i < 0 ∨ (r.g.length : Int) ≤ i) : HH 112 [tryA 115 r v far i] (tsA (some (0, 0)) .nil) :=
  tried_nil (code_of Tryz.func115 (by decide) rfl) fun W x y h => by
    obtain ⟨m, far, pa, pi, pv, na, ca, ni, ci, nv, cv, b, o, b', o', rfl, rfl, rfl, -, -, h0, h1, h2, h3, h4, h5⟩ := h
    exact index_out _ _ _ _ _ _ _ _ _ _ _ _ _ _ _ _ _ ho h0 h1 h2 h3 h4 h5
/-- What is tried is owned, if what does it makes it so. -/
theorem tried_own {g : Nat} {x y : AV} {t : Ts} (hx : x.isLL = true) (hux : x.unl = true) (huy : y.unl = true) (h : Holds Tryz.prog KA g (x.app y) (tsA (some (0, 0)) t)) : HH 112 [.fn (.func g) x y] (tsA (some (0, 0)) t) := by
  refine ⟨code_of Tryz.func112 (by decide) rfl, rfl, fun F w vs hF hG hv => ?_⟩
  obtain ⟨v, rfl, ys, zs, e1, h1, h2⟩ := list1 hv
  cases e1
  have hb : Below w.heap.size w (w.alloc (.cells #[.slice none 0 0] 22)) := below_alloc _ _
  have hFW : ∀ b o v, F b o = some v → U (w.alloc (.cells #[.slice none 0 0] 22)) b o = some v := fun b o v hv => U_below hb _ _ _ (U_lt (hF b o v hv)) (hF b o v hv)
  have hmv : ∀ {a : AV} {xs : List Value}, a.unl = true → RepV (argGh F w) a xs → RepV (argGh F (w.alloc (.cells #[.slice none 0 0] 22))) a xs := fun hu h => RepV.mv (g := argGh F w) (g' := argGh F (w.alloc (.cells #[.slice none 0 0] 22))) (fun _ _ _ h => h) hb.size (.inr fun b o v hlt hv => by
    have hlt : b < w.heap.size := hlt
    have h3 : (if b < w.heap.size then U w b o else F b o) = some v := hv
    rw [if_pos hlt] at h3
    show (if b < (w.alloc (.cells #[.slice none 0 0] 22)).heap.size then U (w.alloc (.cells #[.slice none 0 0] 22)) b o else F b o) = some v
    rw [if_pos (Nat.lt_of_lt_of_le hlt hb.size)]
    exact U_below hb _ _ _ hlt h3) hu h
  have hc := h.2.2 F _ (ys ++ zs) hFW (stKA _ _ hb hG) (RepV.app (hmv huy h2) (hmv hux h1) hx)
  refine (triedT_any g ys.toArray zs.toArray w h.1 (fun v w1 => ∃ S, Own w1 (w.heap.size + 1) (.row 5 26 (tDs ty t) .nil .nil) [v] S ∧ S.Nodup) ?_).mono ?_
  · rw [show ys.toArray ++ zs.toArray = (ys ++ zs).toArray by simp]
    refine hc.mono ?_
    rintro e w' ⟨v, fp, rfl, h3, ⟨-, v', _, e2, -, how, -⟩, -⟩
    cases e2
    obtain ⟨-, S, o1, o2, -⟩ := how (0, 0) rfl
    obtain ⟨p, n, c, rfl⟩ := own_slice o1
    have o3 : Own w' (w.alloc (.cells #[.slice none 0 0] 22)).heap.size (.row 5 26 (tDs ty t) .nil .nil) [.slice p n c] S := o1
    rw [World.size_alloc] at o3
    exact ⟨p, n, c, rfl, by simpa using h3, S, o3, o2⟩
  · rintro e w' ⟨v, w1, rfl, h3, ⟨S, o1, o2⟩, rfl⟩
    have hsz : w.heap.size + 1 ≤ w1.heap.size := by have := h3.size; simpa using this
    have hO : Own (w1.setCell ⟨w.heap.size, 0, none⟩ v) w.heap.size (.row 5 26 (tDs ty t) .nil .nil) [v] S := (o1.setCell (p := ⟨w.heap.size, 0, none⟩) (o1.notMem (Nat.lt_succ_self _)) v).lower (Nat.le_succ _)
    obtain ⟨v', _, e2, h8, -⟩ := Vs.res (F := F) (fp := fp1 S) (Nat.le_refl _) hO
    cases e2
    refine ⟨v, fp1 S, rfl, (hb.trans (h3.mono (by omega))).setCell (p := ⟨w.heap.size, 0, none⟩) (Nat.le_refl _) _, ⟨tDs_good _, v, [], rfl, h8, fun j e => ?_, rfl⟩, fun k b hb => ?_, fun k k' b h1 h2 => ?_⟩
    · cases e
      exact ⟨rfl, S, hO, o2, fun b hb => mem_fp1.2 ⟨rfl, hb⟩⟩
    · exact hO.mem b (mem_fp1.1 hb).2
    · rw [(mem_fp1.1 h1).1, (mem_fp1.1 h2).1]
theorem f38_of (r : Rl) (v : Ts) (far i : Int) {t : Ts} (h : HH 112 [tryA 113 r v far i] (tsA (some (0, 0)) t)) : HH 38 [rlL r, iA i, tsA none v, iA far] (tsA (some (0, 0)) t) := by
  refine ab Tryz.func38 Tryz.ntmps38 Tryz.results38 rfl (by decide) (by simp) rfl rfl ?_
  simp [rlL, rlC]
  refine asks h ?_ ?_ ?_ <;> simp [mvDs]
  · exact ⟨⟨_, _, ⟨rfl, rfl⟩, rfl⟩, ⟨_, _, ⟨rfl, rfl⟩, rfl⟩⟩
  · exact ⟨[((0, 0), [(16, 0)])], by simp⟩
theorem f39_of (r : Rl) (v : Ts) (far i : Int) {t : Ts} (h : HH 112 [tryA 115 r v far i] (tsA (some (0, 0)) t)) : HH 39 [rlL r, iA i, tsA none v, iA far] (tsA (some (0, 0)) t) := by
  refine ab Tryz.func39 Tryz.ntmps39 Tryz.results39 rfl (by decide) (by simp) rfl rfl ?_
  simp [rlL, rlC]
  refine asks h ?_ ?_ ?_ <;> simp [mvDs]
  · exact ⟨⟨_, _, ⟨rfl, rfl⟩, rfl⟩, ⟨_, _, ⟨rfl, rfl⟩, rfl⟩⟩
  · exact ⟨[((0, 0), [(16, 0)])], by simp⟩
theorem k38_out (r : Rl) (v : Ts) (far i : Int) (ho : i < 0 ∨ (r.g.length : Int) ≤ i) : HH 38 [rlL r, iA i, tsA none v, iA far] (tsA (some (0, 0)) .nil) := f38_of r v far i (tele_nil r v far i ho)
theorem k39_out (r : Rl) (v : Ts) (far i : Int) (ho : i < 0 ∨ (r.g.length : Int) ≤ i) : HH 39 [rlL r, iA i, tsA none v, iA far] (tsA (some (0, 0)) .nil) := f39_of r v far i (index_nil r v far i ho)
theorem k38 (r : Rl) (v : Ts) (far : Int) (i : Nat) (hi : i < r.g.length) (hl : r.g.length ≤ 500) (hs : szAg r.g ≤ 300000) (hf : agFits r.g) (hv : v.fits) (hsz : i * (v.size + 1) ≤ 1000000) (hvs : v.size ≤ 1000000) :
    HH 38 [rlL r, iA i, tsA none v, iA far] (tsA (some (0, 0)) (teleT r.g v far i .nil r.g[i].e)) := f38_of r v far i (tried_own rfl rfl rfl (k113 r v far i hi hl hs hf hv hsz hvs))
theorem k39 (r : Rl) (v : Ts) (far : Int) (i : Nat) (hi : i < r.g.length) (hl : r.g.length ≤ 500) (hs : szAg r.g ≤ 300000) (hf : agFits r.g) (hv : v.fits) (hsz : i * (v.size + 1) ≤ 1000000) (hvs : v.size ≤ 1000000) :
    HH 39 [rlL r, iA i, tsA none v, iA far] (tsA (some (0, 0)) (rowT r.g v far i r.g[i].e r.g[i].i)) := f39_of r v far i (tried_own rfl rfl rfl (k115 r v far i hi hl hs hf hv hsz hvs))
end Go.Proofs.YtkcmapimcgppmaaGreatDoor
end
section
namespace Go.Proofs.YtkcmapimcgppmaaGreatDoor
open Go.RowKit

theorem put_leaf {y : Ts} {h : Hd} {d : Nat} {u : Tm} {C : Nat} (hC : ∀ j, j < y.len → (y.tm j).size ≤ C) (hp : putNode y h d = .inl u) : u.size ≤ C := by
  unfold putNode at hp
  split at hp
  · rename_i c1
    split at hp
    · rename_i c2
      cases hp
      rw [lift_size]
      exact hC _ (by omega)
    · cases hp
  · cases hp
theorem put_node {y : Ts} {h h' : Hd} {d : Nat} (hp : putNode y h d = .inr h') : h'.l = h.l := by
  unfold putNode at hp
  split at hp
  · split at hp
    · cases hp
    · cases hp; rfl
  · cases hp; rfl
theorem putR_size {y : Ts} {C : Nat} (hC : ∀ j, j < y.len → (y.tm j).size ≤ C) : ∀ (x : Ts) (pk : Int) (i d : Nat), (putR y pk i d x).size ≤ x.size * (C + 1)
  | .nil, _, _, _ => by simp [putR, Ts.size]
  | .cons h x r, pk, i, d => by
    have ir := putR_size hC r pk (i + 1) d
    have ix := putR_size hC x h.k 0 (deeper pk i d)
    have e1 : (lvSize h.l + x.size + 1 + r.size) * (C + 1) = lvSize h.l * (C + 1) + x.size * (C + 1) + (C + 1) + r.size * (C + 1) := by
      rw [Nat.add_mul, Nat.add_mul, Nat.add_mul, Nat.one_mul]
    have e2 : lvSize h.l ≤ lvSize h.l * (C + 1) := Nat.le_mul_of_pos_right _ (Nat.succ_pos _)
    have e3 : (Ts.cons h x r).size = lvSize h.l + x.size + 1 + r.size := by simp only [Ts.size]; omega
    rw [e3, e1]
    simp only [putR]
    cases hp : putNode y h (deeper pk i d) with
    | inl u =>
      have := put_leaf hC hp
      unfold Tm.size at this
      simp only [Ts.size]
      omega
    | inr h' =>
      have := put_node hp
      simp only [Ts.size, this]
      omega
theorem putAt_size {y : Ts} {C : Nat} (hC : ∀ j, j < y.len → (y.tm j).size ≤ C) (t : Tm) (d : Nat) : (putAt y d t).size + 1 ≤ (t.size + 1) * (C + 1) := by
  have := putR_size hC t.x t.h.k 0 d
  have e1 : (t.size + 1) * (C + 1) = lvSize t.h.l * (C + 1) + t.x.size * (C + 1) + (C + 1) := by
    unfold Tm.size; rw [Nat.add_mul, Nat.add_mul, Nat.one_mul]
  have e2 : lvSize t.h.l ≤ lvSize t.h.l * (C + 1) := Nat.le_mul_of_pos_right _ (Nat.succ_pos _)
  rw [e1]
  simp only [putAt]
  cases hp : putNode y t.h d with
  | inl u => have := put_leaf hC hp; simp only; omega
  | inr h' =>
    have := put_node hp
    unfold Tm.size
    simp only [this]
    omega
theorem inner_put {y : Ts} : ∀ (m : Nat) (T : Tm) (d : Nat), deepT m T → ∃ d', inner m (putAt y d T) = putAt y d' (inner m T)
  | 0, T, d, _ => ⟨d, rfl⟩
  | m + 1, ⟨h, x⟩, d, ⟨h1, h2, h3⟩ => by
    have h5 : h.k = 5 := h1
    have e1 : putAt y d ⟨h, x⟩ = ⟨h, putR y h.k 0 d x⟩ := by
      simp only [putAt, putNode]
      rw [if_neg (fun h9 => by rw [h5] at h9; exact absurd h9.1 (by decide))]
    match x, h2, h3 with
    | .cons a p (.cons b q .nil), _, h3 =>
      obtain ⟨d', h4⟩ := inner_put m ⟨b, q⟩ (deeper h.k 1 d) h3
      refine ⟨d', ?_⟩
      rw [e1]
      show inner m ((putR y h.k 0 d (.cons a p (.cons b q .nil))).tm 1) = putAt y d' (inner m ⟨b, q⟩)
      rw [← h4, putR_cons, putR_cons]
      rfl
theorem inner_lift (n f : Int) : ∀ (m : Nat) (T : Tm) (d : Nat), deepT m T → (inner m ⟨T.h.lift n f d, T.x.lift n f T.h.k 0 d⟩).size = (inner m T).size
  | 0, T, d, _ => by simp only [inner, Tm.size, hdlift_l, tslift_size]
  | m + 1, ⟨h, x⟩, d, ⟨h1, h2, h3⟩ => by
    match x, h2, h3 with
    | .cons a p (.cons b q .nil), _, h3 => exact inner_lift n f m ⟨b, q⟩ (deeper h.k 1 d) h3
theorem inner_above : ∀ (row : Ts) (t : Tm), inner row.len (aboveT 5 row t) = t
  | .nil, _ => rfl
  | .cons h x r, t => inner_above r t
theorem byT_elem (v : Ts) : ∀ (l : List Ag) (n j : Nat), j < (byT l n v).len → ((byT l n v).tm j).size ≤ v.size
  | [], _, _, h => by simp [byT, Ts.len] at h
  | a :: r, n, 0, _ => one_size a n v
  | a :: r, n, j + 1, h => byT_elem v r _ j (by simp [byT, Ts.len] at h; omega)
theorem moved_size (g : List Ag) (v : Ts) (far : Int) (i : Nat) (row : Ts) (t : Tm) : (movedT g v far i row t).size + 1 ≤ (t.size + 1) * (v.size + 1) := by
  have hd := deep_lift far i _ _ 0 (deep_above row t)
  obtain ⟨d', h1⟩ : ∃ d', inner row.len (putAt (byT (g.take i) 0 v) 0 ((aboveT 5 row t).lift far i)) = putAt (byT (g.take i) 0 v) d' (inner row.len ((aboveT 5 row t).lift far i)) := inner_put (y := byT (g.take i) 0 v) row.len _ 0 hd
  have h2 : (inner row.len ((aboveT 5 row t).lift far i)).size = (inner row.len (aboveT 5 row t)).size := inner_lift far i row.len _ 0 (deep_above row t)
  rw [inner_above] at h2
  show (inner row.len (putAt (byT (g.take i) 0 v) 0 ((aboveT 5 row t).lift far i))).size + 1 ≤ _
  have h3 := putAt_size (byT_elem v (g.take i) 0) (inner row.len ((aboveT 5 row t).lift far i)) d'
  rw [← h1] at h3
  rw [h2] at h3
  exact h3
theorem cons_size (h : Hd) (x r : Ts) : (Ts.cons h x r).size = (Tm.size ⟨h, x⟩ + 1) + r.size := by simp only [Ts.size, Tm.size]; omega
theorem endT_size (r : Rl) (v : Ts) (far : Int) : ∀ q : Ts, (endT r v far q).size ≤ q.size * (v.size + 1)
  | .nil => by simp [endT, Ts.size]
  | .cons h x q => by
    have h1 : Tm.size ⟨(movedT r.g v far r.g.length .nil ⟨h, x⟩).h, (movedT r.g v far r.g.length .nil ⟨h, x⟩).x⟩ + 1 ≤ _ := moved_size r.g v far r.g.length .nil ⟨h, x⟩
    have h2 := endT_size r v far q
    simp only [endT]
    rw [cons_size, cons_size, Nat.add_mul]
    omega
theorem rowT_size (g : List Ag) (v : Ts) (far : Int) (i : Nat) (e : Ts) : ∀ q : Ts, (rowT g v far i e q).size ≤ q.size * (v.size + 1)
  | .nil => by simp [rowT, Ts.size]
  | .cons h x q => by
    have h1 : Tm.size ⟨(movedT g v far i e ⟨h, x⟩).h, (movedT g v far i e ⟨h, x⟩).x⟩ + 1 ≤ _ := moved_size g v far i e ⟨h, x⟩
    have h2 := rowT_size g v far i e q
    simp only [rowT]
    rw [cons_size, cons_size, Nat.add_mul]
    omega
theorem teleT_size (g : List Ag) (v : Ts) (far : Int) (i : Nat) : ∀ q e : Ts, (teleT g v far i e q).size ≤ q.size * (v.size + 1)
  | .nil, _ => by simp [teleT, Ts.size]
  | .cons h x q, e => by
    have h1 : Tm.size ⟨(movedT g v far i e ⟨h, x⟩).h, (movedT g v far i e ⟨h, x⟩).x⟩ + 1 ≤ _ := moved_size g v far i e ⟨h, x⟩
    have h2 := teleT_size g v far i q (e.app (.cons h x .nil))
    simp only [teleT]
    rw [cons_size, cons_size, Nat.add_mul]
    omega
theorem typesT_size (g : List Ag) (M : Nat) : ∀ (l : List Ag) (k n : Nat), n + l.length ≤ M → (typesT g l k n).size ≤ szAg l * (M + 1)
  | [], _, _, _ => by simp [typesT, Ts.size]
  | a :: r, k, n, hM => by
    simp only [List.length_cons] at hM
    have e1 : szAg (a :: r) = (1 + a.t.size + a.e.size + a.i.size) + szAg r := by simp [szAg]
    rw [e1, Nat.add_mul]
    simp only [typesT]
    split
    · have h2 := typesT_size g M r (k + 1) n (by omega)
      omega
    · have h1 := moved_size g (varsT 0 n) n k .nil a.t
      have h2 := typesT_size g M r (k + 1) (n + 1) (by omega)
      rw [varsT_size] at h1
      have h3 : (a.t.size + 1) * (n + 1) ≤ (1 + a.t.size + a.e.size + a.i.size) * (M + 1) := Nat.mul_le_mul (by omega) (by omega)
      rw [cons_size]
      show ((typeOf g k n a).size + 1) + _ ≤ _
      change (typeOf g k n a).size + 1 ≤ _ at h1
      omega
end Go.Proofs.YtkcmapimcgppmaaGreatDoor
end
section
namespace Go.Proofs.YtkcmapimcgppmaaGreatDoor
open Go.RowKit

variable {P : Program}

/-- What is known of a type of slices: its elements are the kind's. -/
structure Sty (P : Program) (K : Kd) (t : Nat) : Prop where
  t : P.underlying t = some (.slice K.e)
  i : ∃ (i : TypeInfo) (z : Value), P.info? K.e = some i ∧ i.zero = some z ∧ i.size = K.sz ∧ z.cells.size = K.sz ∧ i.bytes ≤ 1000
/-- A row in memory that may be appended to. -/
def RowA (K : Kd) (w : World) (v : Value) : Prop :=
  (∃ p, v = .slice p 0 0) ∨ ∃ g n cap cur, v = .slice (some ⟨g, 0, none⟩) n cap ∧ w.heap[g]? = some (Obj.cells cur K.e (0, 0)) ∧ n ≤ cap ∧ 0 < cap ∧ cap ≤ maxLen ∧ cur.size = cap * K.sz
theorem app_any {K : Kd} {t : Nat} (hS : Sty P K t) (ty : TypeId) (w : World) {v : Value} (hv : RowA K w v) {a : Addr} {m c : Nat} {news : List Value} (hl : news.length = m * K.sz) (hm : 0 < m) (hnews : ∀ j u, news[j]? = some u → w.cell? (a.add j) = some u)
    (h1 : ∀ u ∈ news, u.oneCell' = true) (h63 : vn v + m ≤ 1000000000) :
    ∃ h cap' cur' w', (Builtin.append_ #[t, t] ty #[v, .slice (some a) m c]).run P w = .ok (.slice (some ⟨h, 0, none⟩) (vn v + m) cap') w' ∧ w'.heap[h]? = some (Obj.cells cur' K.e (0, 0)) ∧ vn v + m ≤ cap' ∧ cap' ≤ maxLen ∧ cur'.size = cap' * K.sz ∧
      (∀ j, j < news.length → cur'[vn v * K.sz + j]? = news[j]?) ∧ (∀ g n cap cur, v = .slice (some ⟨g, 0, none⟩) n cap → w.heap[g]? = some (Obj.cells cur K.e (0, 0)) → ∀ p, p < vn v * K.sz → cur'[p]? = cur[p]?) ∧
      ((vb v = some h ∧ w' = w.setCells h (vn v * K.sz) news) ∨ (h = w.heap.size ∧ Below w.heap.size w w')) := by
  obtain ⟨ht, i, z, hi, hz, hsz, hzs, hby⟩ := hS
  have hmm : vn v + m ≤ maxLen := by unfold maxLen; omega
  have hmb : (vn v + m) * i.bytes ≤ 1000000000 * 1000 := Nat.mul_le_mul h63 hby
  have hmb1 : m * i.bytes ≤ 1000000000 * 1000 := Nat.mul_le_mul (by omega) hby
  have hbel : ∀ o, Below w.heap.size w (w.drew.alloc o) := fun o => below_step (below_drew w) (below_alloc w.drew o)
  rcases hv with ⟨p, rfl⟩ | ⟨g, n, cap, cur, rfl, hg, hnc, hc0, hcm, hcs⟩
  · cases p with
    | none =>
      have hr := run_append_nil (P := P) w t ty K.e i z ht hi hz a m c news (by rw [hl, hsz]) hnews hm (by omega) (by omega)
      simp only [vn, Nat.zero_add] at hmm hmb ⊢
      refine ⟨_, _, _, _, hr, heap_alloc_new w.drew _, grownCap_ge w m 0 K.e, grownCap_le_maxLen w m 0 K.e hmm, ?_, fun j hj => ?_, (fun _ _ _ _ e => by cases e), .inr ⟨rfl, hbel _⟩⟩
      · have := grownCap_ge w m 0 K.e
        simp only [Array.size_append, List.size_toArray, size_zeroCells, hzs, hl, ← Nat.add_mul]
        congr 1; omega
      · rw [Nat.zero_mul, Nat.zero_add, Array.getElem?_append_left (by simpa using hj)]; simp
    | some b =>
      have hr := run_append_grow (P := P) w t ty K.e i z ht hi hz b 0 0 [] (by simp) (fun j v h => by simp at h) a m c news (by rw [hl, hsz]) hnews (by omega) (by omega)
        (by rw [Nat.zero_add, nextslicecap_zero hm]; omega)
      simp only [vn, Nat.zero_add] at hmm hmb hr ⊢
      refine ⟨_, _, _, _, hr, heap_alloc_new w.drew _, grownCap_ge w m 0 K.e, grownCap_le_maxLen w m 0 K.e hmm, ?_, fun j hj => ?_, (fun _ _ _ _ _ _ p hp => by omega), .inr ⟨rfl, hbel _⟩⟩
      · have := grownCap_ge w m 0 K.e
        simp only [Array.size_append, List.size_toArray, size_zeroCells, hzs, hl, List.length_nil, Nat.zero_add, ← Nat.add_mul]
        congr 1; omega
      · rw [Nat.zero_mul, Nat.zero_add]
        simp only [Array.append_assoc]
        rw [Array.getElem?_append_right (by simp)]
        rw [Array.getElem?_append_left (by simpa using hj)]; simp
  · have hn : vn (.slice (some ⟨g, 0, none⟩) n cap) = n := rfl
    rw [hn] at hmm hmb h63 ⊢
    by_cases hroom : n + m ≤ cap
    · have hle : n * K.sz + news.length ≤ cur.size := by rw [hl, hcs, ← Nat.add_mul]; exact Nat.mul_le_mul_right _ hroom
      have hth := there_of (w := w) hg hle
      have hr := run_append_room_cells (P := P) w t ty K.e i ht hi g 0 n cap a m c news (by rw [hl, hsz]) hnews h1 hroom (fun j hj => by rw [Nat.zero_add, hsz]; exact (hth j hj).1) (fun j hj => by rw [Nat.zero_add, hsz]; exact (hth j hj).2)
      rw [Nat.zero_add, hsz] at hr
      obtain ⟨cur', e1, e2, e3, e4⟩ := setCells_heap news (n * K.sz) cur w hg hle
      refine ⟨g, cap, cur', _, hr, e1, hroom, hcm, by rw [e2, hcs], e4, fun g' n' cap' cur0 e h0 p hp => ?_, .inl ⟨vb_of hc0, rfl⟩⟩
      cases e
      rw [hg] at h0; cases h0
      exact e3 p (.inl hp)
    · have hol : n * K.sz ≤ cur.size := by rw [hcs]; exact Nat.mul_le_mul_right _ hnc
      have hfit : Builtin.nextslicecap (n + m) cap * i.bytes ≤ 281474976710656 := growslice_fits (by omega) (by omega)
      have hr := run_append_grow (P := P) w t ty K.e i z ht hi hz ⟨g, 0, none⟩ n cap (cur.toList.take (n * K.sz)) (by rw [List.length_take, Array.length_toList, hsz]; omega) (fun j v h => by
          have hj : j < n * K.sz := by have := (List.getElem?_eq_some_iff.1 h).1; rw [List.length_take] at this; omega
          rw [List.getElem?_take, if_pos hj] at h
          rw [Addr.add_mid]
          simpa [World.cell?, hg] using h) a m c news (by rw [hl, hsz]) hnews (by omega) (by omega) hfit
      have hge := grownCap_ge w (n + m) cap K.e
      refine ⟨_, _, _, _, hr, heap_alloc_new w.drew _, hge, grownCap_le_maxLen w (n + m) cap K.e hmm, ?_, fun j hj => ?_, fun g' n' cap' cur0 e h0 p hp => ?_, .inr ⟨rfl, hbel _⟩⟩
      · simp only [Array.size_append, List.size_toArray, size_zeroCells, hzs, hl, List.length_take, Array.length_toList, Nat.min_eq_left hol, ← Nat.add_mul]
        congr 1; omega
      · rw [Array.append_assoc, Array.getElem?_append_right (by simp; omega)]
        rw [Array.getElem?_append_left (by simp; omega)]
        simp [Nat.min_eq_left hol]
      · cases e
        rw [hg] at h0; cases h0
        rw [Array.append_assoc, Array.getElem?_append_left (by simp; omega)]
        simp [hp]
end Go.Proofs.YtkcmapimcgppmaaGreatDoor
end
section
namespace Go.Proofs.YtkcmapimcgppmaaGreatDoor
open Go.RowKit

variable {P : Program}
theorem RowI.rowA {K : Kd} {lo : Nat} {w : World} {v : Value} {d k : Nat} (h : RowI K lo w v d k) : RowA K w v := by
  rcases h with ⟨p, rfl, -⟩ | ⟨g, n, cap, cur, rfl, h1, h2, h3, h4, h5, h6, h7, h8⟩
  · exact .inl ⟨p, rfl⟩
  · exact .inr ⟨g, n, cap, cur, rfl, h2, h3, h4, h5, h6⟩
/-- A row as it has grown by t, from one that was handed out; s: where memory ended when it began to grow. -/
def Cur (K : Kd) (s : Nat) (w : World) (v gv : Value) (t k : Nat) : Prop :=
  (t = 0 ∧ gv = v) ∨ ∃ h cap cur, gv = .slice (some ⟨h, 0, none⟩) (vn v + t) cap ∧ w.heap[h]? = some (Obj.cells cur K.e (0, 0)) ∧ vn v + t ≤ cap ∧ 0 < cap ∧ cap ≤ maxLen ∧ cur.size = cap * K.sz ∧ (vb v = some h ∨ s ≤ h) ∧ Mkd K w cur (vn v + t) k
theorem Cur.on {K : Kd} (hK : K.Ok) {X : Nat → Prop} {s : Nat} {w w' : World} {v gv : Value} {t k : Nat} (h : Cur K s w v gv t k) (ht : Tn K.em X w w') (hx : ∀ (b : Nat) (cur : Array Value), w.heap[b]? = some (Obj.cells cur K.e (0, 0)) → (vb v = some b ∨ s ≤ b) → ¬ X b) : Cur K s w' v gv t k := by
  rcases h with h | ⟨h, cap, cur, h1, h2, h3, h4, h5, h6, h7, h8⟩
  · exact .inl h
  · exact .inr ⟨h, cap, cur, h1, by rw [ht.block h (heap_lt h2) (hx h cur h2 h7)]; exact h2, h3, h4, h5, h6, h7, h8.on hK ht⟩
theorem Cur.len {K : Kd} {s : Nat} {w : World} {v gv : Value} {lo d t k k' : Nat} (hr : RowI K lo w v d k') (h : Cur K s w v gv t k) : ∃ p c, gv = .slice p (vn v + t) c := by
  rcases h with ⟨rfl, rfl⟩ | ⟨h, cap, cur, h1, -⟩
  · rcases hr with ⟨p, rfl, -⟩ | ⟨g, n, cap, cur, rfl, -⟩
    · exact ⟨p, 0, rfl⟩
    · exact ⟨_, cap, rfl⟩
  · exact ⟨_, _, h1⟩
theorem RowI.tnx {K : Kd} (hK : K.Ok) {lo : Nat} {w w' : World} {v : Value} {d k h o : Nat} {xs : List Value} {cur0 : Array Value} (hr : RowI K lo w v d k) (hvb : ∀ b, vb v = some b → b = h → d * K.sz ≤ o) (hh : w.heap[h]? = some (Obj.cells cur0 K.e (0, 0))) (hw : w' = w.setCells h o xs) (hfit : o + xs.length ≤ cur0.size) : RowI K lo w' v d k := by
  subst hw
  have ht := setCells_tn (em := K.em) (o := o) xs hh hK.ne
  rcases hr with hr | ⟨g, n, cap, cur, rfl, h1, h2, h3, h4, h5, h6, h7, h8⟩
  · exact .inl hr
  · by_cases e : g = h
    · subst e
      have e9 : cur = cur0 := by rw [h2] at hh; injection hh with hh; injection hh
      subst e9
      obtain ⟨cur', e1, e2, e3, e4⟩ := setCells_heap xs o cur w h2 hfit
      have := hvb g (vb_of h4) rfl
      exact .inr ⟨g, n, cap, cur', rfl, h1, e1, h3, h4, h5, by rw [e2, h6], h7, (h8.on hK ht).head hK fun p hp => e3 p (.inl (by omega))⟩
    · exact .inr ⟨g, n, cap, cur, rfl, h1, by rw [setCells_other e]; exact h2, h3, h4, h5, h6, h7, h8.on hK ht⟩
/-- It grows by one. -/
theorem Cur.grow {K : Kd} (hK : K.Ok) {ts : Nat} (hS : Sty P K ts) (ty : TypeId) {lo s : Nat} {w : World} {v gv : Value} {t k : Nat} (hr : RowI K lo w v (vn v) k) (hs : ∀ b, vb v = some b → b < s) (hsw : s ≤ w.heap.size) (h : Cur K s w v gv t k)
    {a : Addr} {c : Nat} {xs : List Value} (hx : K.cel w (mk k (vn v + t)) xs) (hxs : ∀ j u, xs[j]? = some u → w.cell? (a.add j) = some u) (h63 : vn v + t + 1 ≤ 1000000000) :
    ∃ gv' w', (Builtin.append_ #[ts, ts] ty #[gv, .slice (some a) 1 c]).run P w = .ok gv' w' ∧ RowI K lo w' v (vn v) k ∧ Cur K s w' v gv' (t + 1) k ∧ Tn K.em (fun b => vb v = some b ∨ s ≤ b) w w' := by
  have hl : xs.length = 1 * K.sz := by rw [Nat.one_mul]; exact hK.len _ _ _ hx
  have hA : RowA K w gv := by
    rcases h with ⟨-, rfl⟩ | ⟨h, cap, cur, h1, h2, h3, h4, h5, h6, h7, h8⟩
    · exact hr.rowA
    · exact .inr ⟨h, _, cap, cur, h1, h2, h3, h4, h5, h6⟩
  have hn : vn gv = vn v + t := by
    obtain ⟨p, c, e⟩ := h.len hr
    rw [e]; rfl
  obtain ⟨h', cap', cur', w', e1, e2, e3, e4, e5, e6, e7, e8⟩ := app_any hS ty w hA hl (by omega) hxs (hK.one _ _ _ hx) (by omega)
  rw [hn] at e1 e3 e6 e7 e8
  -- what was marked is so
  have hmk : Mkd K w cur' (vn v + t) k := by
    rcases h with ⟨rfl, rfl⟩ | ⟨h, cap, cur, h1, h2, h3, h4, h5, h6, h7, h8⟩
    · rcases hr with ⟨p, rfl, -⟩ | ⟨g, n, cap, cur, rfl, h1, h2, h3, h4, h5, h6, h7, h8⟩
      · intro i hi; simp [vn] at hi
      · exact h8.head hK fun p hp => e7 g n cap cur rfl h2 p hp
    · exact h8.head hK fun p hp => e7 h _ cap cur h1 h2 p hp
  have fin : ∀ X, Tn K.em X w w' → (vb v = some h' ∨ s ≤ h') → Cur K s w' v (.slice (some ⟨h', 0, none⟩) (vn v + t + 1) cap') (t + 1) k := fun X ht hb =>
    .inr ⟨h', cap', cur', rfl, e2, e3, by omega, e4, e5, hb, (hmk.on hK ht).next (hK.on _ _ _ _ ht.keep hx) e6⟩
  rcases e8 with ⟨e8, rfl⟩ | ⟨rfl, e8⟩
  · have hb : vb v = some h' ∨ s ≤ h' := by
      rcases h with ⟨-, rfl⟩ | ⟨h, cap, cur, rfl, h2, h3, h4, h5, h6, h7, h8⟩
      · exact .inl e8
      · rw [vb_of h4] at e8; cases e8; exact h7
    have hh : ∃ cur0, w.heap[h']? = some (Obj.cells cur0 K.e (0, 0)) ∧ (vn v + t) * K.sz + xs.length ≤ cur0.size := by
      obtain ⟨cur0, c1, c2⟩ : ∃ cur0, w.heap[h']? = some (Obj.cells cur0 K.e (0, 0)) ∧ True := by
        rcases hA with ⟨p, rfl⟩ | ⟨g, n, cap, cur, rfl, g1, g2, g3, g4, g5⟩
        · cases p <;> cases e8
        · rw [vb_of g3] at e8; cases e8; exact ⟨cur, g1, trivial⟩
      refine ⟨cur0, c1, ?_⟩
      apply Classical.byContradiction
      intro hc
      -- the store reached beyond the block
      have := e5
      have hsz : (w.setCells h' ((vn v + t) * K.sz) xs).heap[h']? = some (Obj.cells cur' K.e (0, 0)) := e2
      have key : ∀ (vs : List Value) (o : Nat) (c0 : Array Value) (w : World), w.heap[h']? = some (Obj.cells c0 K.e (0, 0)) → ∃ c1, (w.setCells h' o vs).heap[h']? = some (Obj.cells c1 K.e (0, 0)) ∧ c1.size = c0.size := by
        intro vs
        induction vs with
        | nil => intro o c0 w h; exact ⟨c0, h, rfl⟩
        | cons u vs ih =>
          intro o c0 w h
          obtain ⟨c1, i1, i2⟩ := ih (o + 1) _ (w.setCell ⟨h', o, none⟩ u) (by rw [setCell_eq_setRow w h' o c0 K.e (0, 0) u h]; exact setRow_heap w h' c0 _ K.e _ h)
          exact ⟨c1, i1, by rw [i2, Array.size_setIfInBounds]⟩
      obtain ⟨c1', k1, k2⟩ := key xs ((vn v + t) * K.sz) cur0 w c1
      rw [hsz] at k1; cases k1
      have hm : (vn v + t + 1) * K.sz ≤ cap' * K.sz := Nat.mul_le_mul_right _ e3
      rw [Nat.add_mul, Nat.one_mul] at hm
      rw [Nat.one_mul] at hl
      omega
    obtain ⟨cur0, c1, c2⟩ := hh
    have ht := setCells_tn (em := K.em) (o := (vn v + t) * K.sz) xs c1 hK.ne
    refine ⟨_, _, e1, hr.tnx hK (fun b hb' e => ?_) c1 rfl c2, fin _ ht hb, ht.mono fun b _ e => by rw [e]; exact hb⟩
    exact Nat.mul_le_mul_right _ (by omega)
  · have ht : Tn K.em (fun _ => False) w w' := Tn.of_below e8
    exact ⟨_, _, e1, hr.on hK ht (fun _ _ _ _ => id), fin _ ht (.inr hsw), ht.mono fun _ _ => False.elim⟩

/-- What a row has grown to: of n elements, the first d marks of row k. -/
def Ent (K : Kd) (s : Nat) (w : World) (v u : Value) (n d k : Nat) : Prop :=
  ∃ h cap cur, u = .slice (some ⟨h, 0, none⟩) n cap ∧ w.heap[h]? = some (Obj.cells cur K.e (0, 0)) ∧ d ≤ n ∧ n ≤ cap ∧ cap ≤ maxLen ∧ (vb v = some h ∨ s ≤ h) ∧ Mkd K w cur d k
theorem Ent.on {K : Kd} (hK : K.Ok) {X : Nat → Prop} {s : Nat} {w w' : World} {v u : Value} {n d k : Nat} (h : Ent K s w v u n d k) (ht : Tn K.em X w w') (hx : ∀ (b : Nat) (cur : Array Value), w.heap[b]? = some (Obj.cells cur K.e (0, 0)) → (vb v = some b ∨ s ≤ b) → ¬ X b) : Ent K s w' v u n d k := by
  obtain ⟨h, cap, cur, h1, h2, h3, h4, h5, h6, h7⟩ := h
  exact ⟨h, cap, cur, h1, by rw [ht.block h (heap_lt h2) (hx h cur h2 h6)]; exact h2, h3, h4, h5, h6, h7.on hK ht⟩
theorem Ent.get {K : Kd} {s : Nat} {w : World} {v u : Value} {n d k i : Nat} (h : Ent K s w v u n d k) (hi : i < d) : ∃ h cap xs, u = .slice (some ⟨h, 0, none⟩) n cap ∧ K.cel w (mk k i) xs ∧ w.rangeAt h (i * K.sz) xs := by
  obtain ⟨h, cap, cur, h1, h2, h3, h4, h5, h6, h7⟩ := h
  obtain ⟨xs, e1, e2⟩ := h7 i hi
  exact ⟨h, cap, xs, h1, e1, rangeAt_of h2 e2⟩
theorem Ent.less {K : Kd} {s s' : Nat} {w : World} {v u : Value} {n d d' k : Nat} (h : Ent K s w v u n d k) (hd : d' ≤ d) (hs : s' ≤ s) : Ent K s' w v u n d' k := by
  obtain ⟨h, cap, cur, h1, h2, h3, h4, h5, h6, h7⟩ := h
  exact ⟨h, cap, cur, h1, h2, by omega, h4, h5, h6.imp id (by omega), h7.less hd⟩
theorem Cur.ent {K : Kd} {s : Nat} {w : World} {v gv : Value} {t k : Nat} (h : Cur K s w v gv t k) (ht : 0 < t) : Ent K s w v gv (vn v + t) (vn v + t) k := by
  rcases h with ⟨rfl, -⟩ | ⟨h, cap, cur, h1, h2, h3, h4, h5, h6, h7, h8⟩
  · omega
  · exact ⟨h, cap, cur, h1, h2, Nat.le_refl _, h3, h5, h7, h8⟩
/-- It grows by many. -/
theorem RowI.many {K : Kd} (hK : K.Ok) {ts : Nat} (hS : Sty P K ts) (ty : TypeId) {lo : Nat} {w : World} {v : Value} {k : Nat} (hr : RowI K lo w v (vn v) k) {a : Addr} {c m : Nat} {news : List Value} (hl : news.length = m * K.sz) (hm : 0 < m) (hnews : ∀ j u, news[j]? = some u → w.cell? (a.add j) = some u)
    (h1 : ∀ u ∈ news, u.oneCell' = true) (h63 : vn v + m ≤ 1000000000) :
    ∃ gv' w', (Builtin.append_ #[ts, ts] ty #[v, .slice (some a) m c]).run P w = .ok gv' w' ∧ RowI K lo w' v (vn v) k ∧ Ent K w.heap.size w' v gv' (vn v + m) (vn v) k ∧ Tn K.em (fun b => vb v = some b) w w' := by
  obtain ⟨h', cap', cur', w', e1, e2, e3, e4, e5, e6, e7, e8⟩ := app_any hS ty w hr.rowA hl hm hnews h1 h63
  have hmk : Mkd K w cur' (vn v) k := by
    rcases hr with ⟨p, rfl, -⟩ | ⟨g, n, cap, cur, rfl, h1, h2, h3, h4, h5, h6, h7, h8⟩
    · intro i hi; simp [vn] at hi
    · exact h8.head hK fun p hp => e7 g n cap cur rfl h2 p hp
  rcases e8 with ⟨e8, rfl⟩ | ⟨rfl, e8⟩
  · have hh : ∃ cur0, w.heap[h']? = some (Obj.cells cur0 K.e (0, 0)) := by
      rcases hr with ⟨p, rfl, -⟩ | ⟨g, n, cap, cur, rfl, h1, h2, h3, h4, -⟩
      · cases p <;> cases e8
      · rw [vb_of h4] at e8; cases e8; exact ⟨cur, h2⟩
    obtain ⟨cur0, c1⟩ := hh
    have ht := setCells_tn (em := K.em) (o := vn v * K.sz) news c1 hK.ne
    refine ⟨_, _, e1, ?_, ⟨h', cap', cur', rfl, e2, by omega, e3, e4, .inl e8, hmk.on hK ht⟩, ht.mono fun b _ e => by rw [e]; exact e8⟩
    rcases hr with hr | ⟨g, n, cap, cur, rfl, h1, h2, h3, h4, h5, h6, h7, h8⟩
    · exact .inl hr
    · have e9 : g = h' := by rw [vb_of h4] at e8; injection e8
      subst e9
      have e10 : cur = cur0 := by rw [h2] at c1; injection c1 with c1; injection c1
      subst e10
      have hsz : cur'.size = cur.size := by
        have key : ∀ (vs : List Value) (o : Nat) (c0 : Array Value) (w : World), w.heap[g]? = some (Obj.cells c0 K.e (0, 0)) → ∃ c1, (w.setCells g o vs).heap[g]? = some (Obj.cells c1 K.e (0, 0)) ∧ c1.size = c0.size := by
          intro vs
          induction vs with
          | nil => intro o c0 w h; exact ⟨c0, h, rfl⟩
          | cons u vs ih =>
            intro o c0 w h
            obtain ⟨c1, i1, i2⟩ := ih (o + 1) _ (w.setCell ⟨g, o, none⟩ u) (by rw [setCell_eq_setRow w g o c0 K.e (0, 0) u h]; exact setRow_heap w g c0 _ K.e _ h)
            exact ⟨c1, i1, by rw [i2, Array.size_setIfInBounds]⟩
        obtain ⟨c1', k1, k2⟩ := key news (vn (.slice (some ⟨g, 0, none⟩) n cap) * K.sz) cur w h2
        rw [e2] at k1; cases k1
        exact k2
      exact .inr ⟨g, n, cap, cur', rfl, h1, e2, h3, h4, h5, by rw [hsz, h6], h7, hmk.on hK ht⟩
  · have ht : Tn K.em (fun _ => False) w w' := Tn.of_below e8
    exact ⟨_, _, e1, hr.on hK ht (fun _ _ _ _ => id), ⟨w.heap.size, cap', cur', rfl, e2, by omega, e3, e4, .inr (Nat.le_refl _), hmk.on hK ht⟩, ht.mono fun _ _ => False.elim⟩

/-- The list of what the rows have grown to, in a block of its own: of x more, the first are marks, d more than were. -/
def Gsl (K : Kd) (eS G s : Nat) (w : World) (vs : List Value) (d x j : Nat) : Prop :=
  ∃ arr, w.heap[G]? = some (Obj.cells arr eS (0, 0)) ∧ arr.size = vs.length ∧ ∀ k v, k < j → vs[k]? = some v → ∃ u, arr[k]? = some u ∧ Ent K s w v u (vn v + x) (vn v + d) k
theorem Gsl.on {K : Kd} (hK : K.Ok) {eS G s : Nat} {X : Nat → Prop} {w w' : World} {vs : List Value} {d x j : Nat} (h : Gsl K eS G s w vs d x j) (ht : Tn K.em X w w') (hG : ∀ cur, w.heap[G]? = some (Obj.cells cur eS (0, 0)) → ¬ X G)
    (hx : ∀ (b : Nat) (cur : Array Value), w.heap[b]? = some (Obj.cells cur K.e (0, 0)) → ((∃ k v, k < j ∧ vs[k]? = some v ∧ vb v = some b) ∨ s ≤ b) → ¬ X b) : Gsl K eS G s w' vs d x j := by
  obtain ⟨arr, h1, h2, h3⟩ := h
  refine ⟨arr, by rw [ht.block G (heap_lt h1) (hG arr h1)]; exact h1, h2, fun k v hk hv => ?_⟩
  obtain ⟨u, h4, h5⟩ := h3 k v hk hv
  exact ⟨u, h4, h5.on hK ht fun b cur hc hb => hx b cur hc (hb.imp (fun e => ⟨k, v, hk, hv, e⟩) id)⟩
/-- An entry is put. -/
theorem Gsl.put {K : Kd} (hK : K.Ok) {eS G s : Nat} (heS : eS ≠ K.em) (heE : eS ≠ K.e) {w : World} {vs : List Value} {d x j : Nat} (h : Gsl K eS G s w vs d x j) {v u : Value} (hv : vs[j]? = some v) (hu : Ent K s w v u (vn v + x) (vn v + d) j) :
    w.there G j 1 ∧ Gsl K eS G s (w.setCell ⟨G, j, none⟩ u) vs d x (j + 1) ∧ Tn K.em (fun b => b = G) w (w.setCell ⟨G, j, none⟩ u) := by
  obtain ⟨arr, h1, h2, h3⟩ := h
  have hj : j < vs.length := (List.getElem?_eq_some_iff.1 hv).1
  have ht := setCells_tn (em := K.em) (o := j) [u] h1 heS
  have hne : ∀ (b : Nat) (cur : Array Value), w.heap[b]? = some (Obj.cells cur K.e (0, 0)) → ¬ b = G := fun b cur hc e => by
    subst e; rw [h1] at hc; cases hc; exact heE rfl
  have hh : (w.setCell ⟨G, j, none⟩ u).heap[G]? = some (Obj.cells (arr.setIfInBounds j u) eS (0, 0)) := by
    rw [setCell_eq_setRow w G j arr eS (0, 0) u h1]; exact setRow_heap w G arr _ eS _ h1
  refine ⟨there_of h1 (by omega), ⟨_, hh, by rw [Array.size_setIfInBounds, h2], fun k v' hk hv' => ?_⟩, ht⟩
  by_cases e : k = j
  · subst e
    rw [hv] at hv'; cases hv'
    refine ⟨u, by rw [Array.getElem?_setIfInBounds, if_pos rfl, if_pos (by omega)], hu.on hK ht fun b cur hc _ => hne b cur hc⟩
  · obtain ⟨u', h4, h5⟩ := h3 k v' (by omega) hv'
    exact ⟨u', by rw [Array.getElem?_setIfInBounds, if_neg (by omega)]; exact h4, h5.on hK ht fun b cur hc _ => hne b cur hc⟩
theorem Gsl.get {K : Kd} {eS G s : Nat} {w : World} {vs : List Value} {d x j k : Nat} (h : Gsl K eS G s w vs d x j) (hk : k < j) {v : Value} (hv : vs[k]? = some v) : ∃ u, w.cell? ⟨G, k, none⟩ = some u ∧ w.frozen? ⟨G, k, none⟩ = false ∧ Ent K s w v u (vn v + x) (vn v + d) k := by
  obtain ⟨arr, h1, h2, h3⟩ := h
  obtain ⟨u, h4, h5⟩ := h3 k v hk hv
  exact ⟨u, by simp [World.cell?, h1, h4], by simp [World.frozen?, h1], h5⟩
end Go.Proofs.YtkcmapimcgppmaaGreatDoor
end
