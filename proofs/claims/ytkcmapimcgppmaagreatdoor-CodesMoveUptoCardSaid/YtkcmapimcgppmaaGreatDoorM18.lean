/-
  Terms with marks are found kept, where their levels are. Conditions: no more than 2000000 nodes, levels, parts. Terms with marks are found kept. Conditions: no more than 2000000 nodes, levels, parts. The program's parts of a tuple, walked. Conditions: no more than 1000000 nodes, levels, parts; twelve parts at most; numbers that a word holds; the table of kinds lies where it was laid. What a law asks of the program and of the kit, over data: counts, what is lent with marks, parts, likeness. Conditions: no more than 2000000 nodes, levels, parts. Pieces of a function's code walked over states, one behind the other; states begun anew. Conditions: the table of types is the program's. Rules, their arguments, as plain data, as cells; lent ones, with marks behind all ends. Arguments, rules lent with marks behind all ends. Conditions: no more than 1000000 parts. Rows that are written over: what of memory turns, what stays; marks that were written. What a state tells of its slots and variables, in memory's own words; and back. Conditions: as each lemma states them.
-/
import Derived.Test.YtkcmapimcgppmaaGreatDoorM17
import Derived.Test.YtkcmapimcgppmaaGreatDoorM09
import Derived.Test.YtkcmapimcgppmaaGreatDoorM13
import Derived.Test.YtkcmapimcgppmaaGreatDoorM08
import Derived.Test.YtkcmapimcgppmaaGreatDoorM01
import Derived.Deep.MidRow
import Derived.Deep.Upon
import Derived.ArgAppend
import Derived.Laws.AppendOwn
set_option linter.all false
set_option linter.unusedVariables false
set_option linter.unusedSimpArgs false
set_option linter.unnecessarySimpa false
section
namespace Go.Proofs.YtkcmapimcgppmaaGreatDoor
open Go.RowKit

theorem Rd.lentT_plain {w : World} {v : Value} {t : Ts} {s : Ds} (h : Rd (U w) w.heap.size v 5 (lentT ty t) s) : RT ty w v t := by
  have := h.strip
  rw [lentT_strip] at this
  exact this
theorem Rd.lentL_plain {w : World} {v : Value} {l : List Lv} {s : Ds} (h : Rd (U w) w.heap.size v 1 (lentLv ty l) s) : RL ty w v l := by
  have := h.strip
  rw [lentLv_strip] at this
  exact this
/-- What KeptLevels tells, asked of it. -/
def KeptL (l : List Lv) : Prop := ∀ (va vb : Value) (w : World), Rd (U w) w.heap.size va 1 (lentLv ty l) (lvDs ty (lvMarks 1 12)) → RL ty w vb l → Calls Tryz.prog 67 #[va, vb] w fun e w' => e = .returned (.bool true) ∧ Below w.heap.size w w'
/-- One term with marks, as a value. -/
def RLent (w : World) (v : Value) (h : Hd) (x : Ts) : Prop :=
  ∃ q n c r m d, v = .agg #[.int .i64 h.k, .int .i64 h.n, .int .i64 h.a, .slice q n c, .slice r m d] ∧ Rd (U w) w.heap.size (.slice q n c) 1 (lentLv ty h.l) (lvDs ty (lvMarks 1 12)) ∧ Rd (U w) w.heap.size (.slice r m d) 5 (lentT ty x) (tDs ty (tMarks 1 12))
theorem RLent.on {w w' : World} {v : Value} {h : Hd} {x : Ts} (hm : RLent w v h x) (hb : Below w.heap.size w w') : RLent w' v h x := by
  obtain ⟨q, n, c, r, m, d, e1, h1, h2⟩ := hm
  exact ⟨q, n, c, r, m, d, e1, h1.on hb, h2.on hb⟩

set_option maxHeartbeats 2000000 in
theorem keptTerm_of (h : Hd) (x : Ts) (va vb : Value) (w : World) (ha : RLent w va h x) (hb : RM ty w vb h x) (hkl : KeptL h.l)
    (hk : ∀ W v v', Rd (U W) W.heap.size v 5 (lentT ty x) (tDs ty (tMarks 1 12)) → RT ty W v' x → Calls Tryz.prog 22 #[v, v'] W fun e w' => e = .returned (.bool true) ∧ Below W.heap.size W w') :
    Calls Tryz.prog 23 #[va, vb] w fun e w' => e = .returned (.bool true) ∧ Below w.heap.size w w' := by
  obtain ⟨q, n, c, r, m, d, rfl, hl, hx⟩ := ha
  obtain ⟨q', n', c', r', m', d', rfl, hl', hx'⟩ := hb
  obtain ⟨k0, hk0⟩ : ∃ k, h.k = k := ⟨_, rfl⟩
  obtain ⟨n0, hn0⟩ : ∃ k, h.n = k := ⟨_, rfl⟩
  obtain ⟨a0, ha0⟩ : ∃ k, h.a = k := ⟨_, rfl⟩
  have H16 : Hid (∀ W, Below w.heap.size w W → Calls Tryz.prog 16 #[.agg #[.int .i64 h.k, .int .i64 h.n, .int .i64 h.a, .slice q n c, .slice r m d], .agg #[.int .i64 h.k, .int .i64 h.n, .int .i64 h.a, .slice q' n' c', .slice r' m' d']] W fun e w' => e = .returned (.bool true) ∧ Below W.heap.size W w') := fun W hW =>
    sameTerm_any h x _ _ W ⟨_, _, _, _, _, _, rfl, (hl.lentL_plain).on hW, (hx.lentT_plain).on hW⟩ ⟨_, _, _, _, _, _, rfl, hl'.on hW, hx'.on hW⟩
  have H67 : Hid (∀ W, Below w.heap.size w W → Calls Tryz.prog 67 #[.slice q n c, .slice q' n' c'] W fun e w' => e = .returned (.bool true) ∧ Below W.heap.size W w') := fun W hW => hkl _ _ W (hl.on hW) (hl'.on hW)
  have H22 : Hid (∀ W, Below w.heap.size w W → Calls Tryz.prog 22 #[.slice r m d, .slice r' m' d'] W fun e w' => e = .returned (.bool true) ∧ Below W.heap.size W w') := fun W hW => hk W _ _ (hx.on hW) (hx'.on hW)
  rw [hk0, hn0, ha0] at H16 ⊢
  obtain ⟨W0, hW0⟩ : ∃ W0, (w.alloc (.cells #[.int .i64 k0, .int .i64 n0, .int .i64 a0, .slice q n c, .slice r m d] 26)).alloc (.cells #[.int .i64 k0, .int .i64 n0, .int .i64 a0, .slice q' n' c', .slice r' m' d'] 26) = W0 := ⟨_, rfl⟩
  have hB0 : Below w.heap.size w W0 := by rw [← hW0]; exact below_step (below_alloc _ _) (below_alloc _ _)
  have p1 : ∀ o v, (#[.int .i64 k0, .int .i64 n0, .int .i64 a0, .slice q n c, .slice r m d] : Array Value)[o]? = some v → U W0 w.heap.size o = some v := fun o v hv => by
    rw [← hW0]; exact U_below (below_alloc _ _) _ _ _ (by simp) (laid_cell hv)
  have p2 : ∀ o v, (#[.int .i64 k0, .int .i64 n0, .int .i64 a0, .slice q' n' c', .slice r' m' d'] : Array Value)[o]? = some v → U W0 (w.heap.size + 1) o = some v := fun o v hv => by
    have := laid_cell (w := w.alloc (.cells #[.int .i64 k0, .int .i64 n0, .int .i64 a0, .slice q n c, .slice r m d] 26)) (ty := 26) hv
    rw [World.size_alloc, hW0] at this
    exact this
  have c0 := U_cell (p1 0 _ rfl)
  have c1 := U_cell (p1 1 _ rfl)
  have c2 := U_cell (p1 2 _ rfl)
  have c3 := U_cell (p1 3 _ rfl)
  have c4 := U_cell (p1 4 _ rfl)
  have d0 := U_cell (p2 0 _ rfl)
  have d1 := U_cell (p2 1 _ rfl)
  have d2 := U_cell (p2 2 _ rfl)
  have d3 := U_cell (p2 3 _ rfl)
  have d4 := U_cell (p2 4 _ rfl)
  have HB0 := Lib.hid hB0
  have P1 := Lib.hid p1
  have P2 := Lib.hid p2
  clear hl hl' hx hx' hk hkl hk0 hn0 ha0 hB0 p1 p2
  go_enter Tryz.func23, Tryz.ntmps23
  go_wp2_with fail
  refine (H16.out _ HB0.out).mono ?_
  rintro e w1 ⟨rfl, hb1⟩
  have f3 := U_cell (U_below hb1 _ _ _ (U_lt (P1.out 3 _ rfl)) (P1.out 3 _ rfl))
  have f4 := U_cell (U_below hb1 _ _ _ (U_lt (P2.out 3 _ rfl)) (P2.out 3 _ rfl))
  have Q1 : Hid (U w1 w.heap.size 4 = some (.slice r m d)) := Lib.hid (U_below hb1 _ _ _ (U_lt (P1.out 4 _ rfl)) (P1.out 4 _ rfl))
  have Q2 : Hid (U w1 (w.heap.size + 1) 4 = some (.slice r' m' d')) := Lib.hid (U_below hb1 _ _ _ (U_lt (P2.out 4 _ rfl)) (P2.out 4 _ rfl))
  have HB1 := Lib.hid (below_step HB0.out hb1)
  clear hb1 hW0 c0 c1 c2 c3 c4 d0 d1 d2 d3 d4
  go_wp2_with fail
  refine (H67.out _ HB1.out).mono ?_
  rintro e w2 ⟨rfl, hb2⟩
  have g3 := U_cell (U_below hb2 _ _ _ (U_lt Q1.out) Q1.out)
  have g4 := U_cell (U_below hb2 _ _ _ (U_lt Q2.out) Q2.out)
  have HB2 := Lib.hid (below_step HB1.out hb2)
  clear hb2 f3 f4
  go_wp2_with fail
  refine (H22.out _ HB2.out).mono ?_
  rintro e w3 ⟨rfl, hb3⟩
  have HB3 := Lib.hid (below_step HB2.out hb3)
  clear hb3
  go_wp2_with fail
  go_ret
  exact ⟨rfl, HB3.out⟩

theorem tMarks_at (k n i : Nat) (h : i < n) : (tMarks k n).hd i = tMark k i ∧ (tMarks k n).kd i = .nil := by
  induction n with
  | zero => omega
  | succ n ih =>
    have key : ∀ (x : Ts) (h : Hd) (i : Nat), (i < x.len → (x.snoc h .nil).hd i = x.hd i ∧ (x.snoc h .nil).kd i = x.kd i) ∧ (i = x.len → (x.snoc h .nil).hd i = h ∧ (x.snoc h .nil).kd i = .nil) := by
      intro x h
      induction x with
      | nil => intro i; exact ⟨fun hi => by simp [Ts.len] at hi, fun hi => by subst hi; exact ⟨rfl, rfl⟩⟩
      | cons w y r _ ihr =>
        intro i
        cases i with
        | zero => exact ⟨fun _ => ⟨rfl, rfl⟩, fun hi => by simp [Ts.len] at hi⟩
        | succ i => exact ⟨fun hi => (ihr i).1 (by simp [Ts.len] at hi; omega), fun hi => (ihr i).2 (by simp [Ts.len] at hi; omega)⟩
    by_cases hi : i < n
    · have := (key (tMarks k n) (tMark k n) i).1 (by rw [tMarks_len]; exact hi)
      exact ⟨this.1.trans (ih hi).1, this.2.trans (ih hi).2⟩
    · obtain rfl : i = n := by omega
      exact (key (tMarks k i) (tMark k i) i).2 (tMarks_len k i).symm

set_option maxHeartbeats 4000000 in
theorem keptTerms_of (hkl : ∀ l, lvSize l ≤ 2000000 → KeptL l) (M : Nat) : ∀ (t : Ts) (va vb : Value) (w : World), t.count < M → Rd (U w) w.heap.size va 5 (lentT ty t) (tDs ty (tMarks 1 12)) → RT ty w vb t → t.size ≤ 2000000 →
    Calls Tryz.prog 22 #[va, vb] w fun e w' => e = .returned (.bool true) ∧ Below w.heap.size w w' := by
  induction M with
  | zero => intro t va vb w hm; omega
  | succ M ih =>
    intro t va vb w hm ha hb hs
    obtain ⟨q, c, rfl, hc1, hc2, -⟩ := RT.slice (y := ty) (w := w) (t := t) ha.lentT_plain
    obtain ⟨q', c', rfl, hc3, hc4, -⟩ := hb.slice
    unfold maxLen at hc2 hc4
    obtain ⟨hc5, hall⟩ := ha.whole (m := 12) (by rw [tDs_len, tMarks_len]) (by decide) (by decide)
    have HA := Lib.hid ha
    have HW := Lib.hid hall
    have HB := Lib.hid hb
    have HSZ := Lib.hid hs
    have IH := Lib.hid ih
    have HM := Lib.hid hm
    have HKL := Lib.hid hkl
    have hl : t.len ≤ 2000000 := by have := Ts.len_le_size t; omega
    obtain ⟨n, hpn⟩ : ∃ n, t.len = n := ⟨_, rfl⟩
    have HN := Lib.hid hpn
    rw [hpn] at HA HW HB hc1 hc3 hc5 hl ⊢
    have hne : ((n : Int) != (n : Int)) = false := by simp
    clear ha hb hall hpn hs ih hm hkl
    go_enter Tryz.func22, Tryz.ntmps22
    go_wp2_with fail
    clear hne
    go_loopw [6] (fun i wr => ∃ k : Nat, k ≤ n + 12 ∧ i = .int .i64 k ∧ Below w.heap.size w wr) (fun i _ => n + 12 - (intOf i).toNat)
    case atStart => exact ⟨0, Nat.zero_le _, rfl, Below.refl _ _⟩
    case round =>
      obtain ⟨k, hk, rfl, hB⟩ := hrel
      have HBB := Lib.hid hB
      clear hB
      by_cases hlt : k < n + 12
      · have r1 : decide ((k : Int) < (n : Int) + 12) = true := decide_eq_true (by omega)
        have i0 : (0 : Int) ≤ (k : Int) := by omega
        have i1 : (k : Int) < (n : Int) + 12 := by omega
        by_cases hkn : k < n
        · have r2 : decide ((k : Int) < (n : Int)) = true := decide_eq_true (by omega)
          have r4 : decide (n ≤ k) = false := decide_eq_false (by omega)
          have i2 : (k : Int) < (n : Int) := by omega
          have hkt : k < t.len := by rw [HN.out]; exact hkn
          obtain ⟨b, o, rfl, hlb, hAt, -⟩ := Rd.lies (HA.out.on HBB.out) (by omega)
          obtain ⟨h1, h2, h3, ⟨v, h4, hrv⟩, ⟨v', h5, hrv'⟩⟩ := lentT_at hAt (k := k) hkt
          obtain ⟨r, m, d, rfl, -⟩ := Rd.slice hrv
          obtain ⟨s, p, f, rfl, -⟩ := Rd.slice hrv'
          obtain ⟨b', o', rfl, hb2, u1, u2, u3, ⟨r', d', u4, -, -, hr2⟩, ⟨s', f', u5, -, -, hs2⟩⟩ := (HB.out.on HBB.out).at_ hkt
          have hsz := Ts.size_kd hkt
          have hcnt := Ts.count_kd hkt
          have HK : Hid (∀ W : Grown wr, Calls Tryz.prog 23 #[.agg #[.int .i64 (t.hd k).k, .int .i64 (t.hd k).n, .int .i64 (t.hd k).a, .slice r m d, .slice s p f], .agg #[.int .i64 (t.hd k).k, .int .i64 (t.hd k).n, .int .i64 (t.hd k).a, .slice r' (t.hd k).l.length d', .slice s' (t.kd k).len f']] W.it fun e w' => e = .returned (.bool true) ∧ Below W.it.heap.size W.it w') := fun W =>
            keptTerm_of (t.hd k) (t.kd k) _ _ W.it ⟨_, _, _, _, _, _, rfl, hrv.on W.below, hrv'.on W.below⟩ ⟨_, _, _, _, _, _, rfl, hr2.on W.below, hs2.on W.below⟩ (HKL.out _ (by have := HSZ.out; omega)) (fun W' v v' g1 g2 => IH.out (t.kd k) v v' W' (by have := HM.out; omega) g1 g2 (by have := HSZ.out; omega))
          obtain ⟨z1, hz1⟩ : ∃ z, (t.hd k).l.length = z := ⟨_, rfl⟩
          obtain ⟨z2, hz2⟩ : ∃ z, (t.kd k).len = z := ⟨_, rfl⟩
          obtain ⟨x1, hx1⟩ : ∃ z, (t.hd k).k = z := ⟨_, rfl⟩
          obtain ⟨x2, hx2⟩ : ∃ z, (t.hd k).n = z := ⟨_, rfl⟩
          obtain ⟨x3, hx3⟩ : ∃ z, (t.hd k).a = z := ⟨_, rfl⟩
          rw [hz1] at u4 HK
          rw [hz2] at u5 HK
          rw [hx1] at h1 u1 HK
          rw [hx2] at h2 u2 HK
          rw [hx3] at h3 u3 HK
          have e1 := Grown.cell h1
          have e2 := Grown.cell h2
          have e3 := Grown.cell h3
          have e4 := Grown.cell h4
          have e5 := Grown.cell h5
          have f1 := Grown.cell u1
          have f2 := Grown.cell u2
          have f3 := Grown.cell u3
          have f4 := Grown.cell u4
          have f5 := Grown.cell u5
          clear h1 h2 h3 h4 h5 u1 u2 u3 u4 u5 hrv hrv' hr2 hs2 hAt hz1 hz2 hx1 hx2 hx3 hsz hcnt hkt
          go_wp2_with fail
          refine wp_region_calm (by kernel_rfl) (by kernel_rfl) ?_
          repeat (go_big_quiet_step (exact calm_of (HK.out _)))
          refine wpQuiet_nil ?_
          intro _ hw'
          obtain ⟨nq, hw''⟩ := hw'
          subst hw''
          have HNQ := Lib.hid nq.below
          clear e1 e2 e3 e4 e5 f1 f2 f3 f4 f5
          obtain ⟨wq, hwq⟩ : ∃ wq, nq.it = wq := ⟨_, rfl⟩
          rw [hwq] at HNQ ⊢
          clear hwq nq
          go_wp2_with fail
          go_roundw
          case rel => exact ⟨k + 1, by omega, by go_num, below_step HBB.out HNQ.out⟩
          case measure => simp [intOf]; omega
        · have r2 : decide ((k : Int) < (n : Int)) = false := decide_eq_false (by omega)
          have r4 : decide (n ≤ k) = true := decide_eq_true (by omega)
          obtain ⟨b, o, rfl, hlb, hAt, -⟩ := Rd.lies (HW.out.on HBB.out) (by omega)
          have hAt2 := (At.app.1 hAt).2
          have hoff : o + (lentT ty t).len + (k - n) * 5 = o + k * 5 := by rw [lentT_len, HN.out]; omega
          obtain ⟨h1, h2, h3, ⟨v, h4, hrv⟩, ⟨v', h5, hrv'⟩⟩ := t_at hAt2 (k := k - n) (by rw [tMarks_len]; omega)
          rw [hoff] at h1 h2 h3 h4 h5
          obtain ⟨g1, g2⟩ := tMarks_at 1 12 (k - n) (by omega)
          rw [g1] at h1 h2 h3 hrv
          rw [g2] at hrv'
          obtain ⟨r, m, d, rfl, -⟩ := Rd.slice hrv
          obtain ⟨s, p, f, rfl, -⟩ := Rd.slice hrv'
          obtain ⟨j, hj⟩ : ∃ j, k - n = j := ⟨_, rfl⟩
          rw [hj] at h2
          have i2 : (k : Int) - (n : Int) = (j : Int) := by omega
          obtain ⟨x, hx⟩ : ∃ x, mark 1 j = x := ⟨_, rfl⟩
          have HM1 : Hid (∀ W : Grown wr, Calls Tryz.prog 54 #[.int .i64 1, .int .i64 j] W.it fun e w' => e = .returned (.agg #[.int .i64 0, .int .i64 x, .int .i64 0, .slice none 0 0, .slice none 0 0]) ∧ Below W.it.heap.size W.it w') := fun W => by rw [← hx]; exact markTerm_any 1 j W.it (by decide) (by omega)
          have h2' : U wr b (o + k * 5 + 1) = some (.int .i64 x) := by rw [← hx]; exact h2
          have h1' : U wr b (o + k * 5) = some (.int .i64 0) := h1
          have h3' : U wr b (o + k * 5 + 2) = some (.int .i64 0) := h3
          have HS : Hid (∀ W : Grown wr, Calls Tryz.prog 16 #[.agg #[.int .i64 0, .int .i64 x, .int .i64 0, .slice r m d, .slice s p f], .agg #[.int .i64 0, .int .i64 x, .int .i64 0, .slice none 0 0, .slice none 0 0]] W.it fun e w' => e = .returned (.bool true) ∧ Below W.it.heap.size W.it w') := fun W =>
            sameTerm_any ⟨0, x, 0, []⟩ .nil _ _ W.it ⟨_, _, _, _, _, _, rfl, Rd.on hrv W.below, Rd.on hrv' W.below⟩ ⟨_, _, _, _, _, _, rfl, Rd.none_ _ _ _, Rd.none_ _ _ _⟩
          have e1 := Grown.cell h1'
          have e2 := Grown.cell h2'
          have e3 := Grown.cell h3'
          have e4 := Grown.cell h4
          have e5 := Grown.cell h5
          clear h1 h2 h3 h4 h5 h1' h2' h3' hrv hrv' hAt hAt2 hoff g1 g2 hj hx
          go_wp2_with fail
          refine wp_region_calm (by kernel_rfl) (by kernel_rfl) ?_
          repeat (go_big_quiet_step (first | (exact calm_of (HM1.out _)) | (exact calm_of (HS.out _))))
          refine wpQuiet_nil ?_
          intro _ hw'
          obtain ⟨nq, hw''⟩ := hw'
          subst hw''
          have HNQ := Lib.hid nq.below
          clear e1 e2 e3 e4 e5
          obtain ⟨wq, hwq⟩ : ∃ wq, nq.it = wq := ⟨_, rfl⟩
          rw [hwq] at HNQ ⊢
          clear hwq nq
          go_wp2_with fail
          go_roundw
          case rel => exact ⟨k + 1, by omega, by go_num, below_step HBB.out HNQ.out⟩
          case measure => simp [intOf]; omega
      · have r1 : decide ((k : Int) < (n : Int) + 12) = false := decide_eq_false (by omega)
        go_wp2_with fail
        go_ret
        exact ⟨rfl, HBB.out⟩
end Go.Proofs.YtkcmapimcgppmaaGreatDoor
end
section
namespace Go.Proofs.YtkcmapimcgppmaaGreatDoor
open Go.RowKit

theorem keptL_all (l : List Lv) (hs : lvSize l ≤ 2000000) : KeptL l := fun va vb w ha hb => keptLevels_any l va vb w ha hb hs
theorem keptTerms_any (t : Ts) (va vb : Value) (w : World) (ha : Rd (U w) w.heap.size va 5 (lentT ty t) (tDs ty (tMarks 1 12))) (hb : RT ty w vb t) (hs : t.size ≤ 2000000) :
    Calls Tryz.prog 22 #[va, vb] w fun e w' => e = .returned (.bool true) ∧ Below w.heap.size w w' := keptTerms_of keptL_all _ t va vb w (Nat.lt_succ_self _) ha hb hs
theorem keptTerm_any (h : Hd) (x : Ts) (va vb : Value) (w : World) (ha : RLent w va h x) (hb : RM ty w vb h x) (hs : lvSize h.l + x.size ≤ 2000000) :
    Calls Tryz.prog 23 #[va, vb] w fun e w' => e = .returned (.bool true) ∧ Below w.heap.size w w' := keptTerm_of h x va vb w ha hb (keptL_all _ (by omega)) fun W v v' h1 h2 => keptTerms_any x v v' W h1 h2 (by omega)
end Go.Proofs.YtkcmapimcgppmaaGreatDoor
end
section
namespace Go.Proofs.YtkcmapimcgppmaaGreatDoor
open Go.RowKit

/-- What the cells hold but of some blocks. -/
def Fl (S : List Nat) (w : World) (b o : Nat) : Option Value := if b ∈ S then none else U w b o
theorem Fl_U {S : List Nat} {w : World} {b o : Nat} {v : Value} (h : Fl S w b o = some v) : U w b o = some v := by
  unfold Fl at h; split at h
  · cases h
  · exact h
theorem Fl_ne {S : List Nat} {w : World} {b o : Nat} {v : Value} (h : Fl S w b o = some v) : b ∉ S := by
  unfold Fl at h; split at h
  · cases h
  · assumption
theorem Fl_mk {S : List Nat} {w : World} {b o : Nat} {v : Value} (h : U w b o = some v) (hb : b ∉ S) : Fl S w b o = some v := by
  unfold Fl; rw [if_neg hb]; exact h
/-- Between two rounds: the variable x. -/
def XAt (S : List Nat) (g : Nat) (t : Tm) (W : World) : Prop := g < W.heap.size ∧ ∃ q n c r m d, RMx (Fl S W) W.heap.size (.agg #[.int .i64 t.h.k, .int .i64 t.h.n, .int .i64 t.h.a, .slice q n c, .slice r m d]) t.h t.x ∧ ∀ o u, (#[.int .i64 t.h.k, .int .i64 t.h.n, .int .i64 t.h.a, .slice q n c, .slice r m d] : Array Value)[o]? = some u → U W g o = some u
theorem XAt.keep {S : List Nat} {g : Nat} {t : Tm} {W W' : World} (h : XAt S g t W) (hk : ∀ b, b < W.heap.size → b ∉ S ∨ b = g → W'.heap[b]? = W.heap[b]?) (hs : W.heap.size ≤ W'.heap.size) : XAt S g t W' := by
  obtain ⟨h1, q, n, c, r, m, d, h2, h3⟩ := h
  exact ⟨Nat.lt_of_lt_of_le h1 hs, q, n, c, r, m, d, h2.mono (fun b o v hb hv => Fl_mk ((U_block (hk b hb (.inl (Fl_ne hv))) o).trans (Fl_U hv)) (Fl_ne hv)) hs, fun o u hu => (U_block (hk g h1 (.inr rfl)) o).trans (h3 o u hu)⟩
theorem XAt.on {S : List Nat} {g : Nat} {t : Tm} {W W' : World} (h : XAt S g t W) (hb : Below W.heap.size W W') : XAt S g t W' := h.keep (fun b hb' _ => hb.block b hb') hb.size
/-- A block laid of its five cells is a row of it alone. -/
theorem XAt.row {F : Nat → Nat → Option Value} {T : Tm} {W wa : World} {q1 q2 : Option Addr} {n1 c1 n2 c2 : Nat} (hRM : RMx F W.heap.size (.agg #[.int .i64 T.h.k, .int .i64 T.h.n, .int .i64 T.h.a, .slice q1 n1 c1, .slice q2 n2 c2]) T.h T.x) (hF : ∀ b o v, F b o = some v → U W b o = some v)
    (hwa : W.alloc (.cells #[.int .i64 T.h.k, .int .i64 T.h.n, .int .i64 T.h.a, .slice q1 n1 c1, .slice q2 n2 c2] 26) = wa) : RT ty wa (.slice (some ⟨W.heap.size, 0, none⟩) 1 1) T.ts ∧ Below W.heap.size W wa ∧ wa.heap.size = W.heap.size + 1 := by
  have hba : Below W.heap.size W wa := by rw [← hwa]; exact below_alloc _ _
  have hsa : wa.heap.size = W.heap.size + 1 := by rw [← hwa]; simp
  obtain ⟨v3, v4, e, hv⟩ := (hRM.mono (F' := U wa) (hi' := wa.heap.size) (fun b o v hb hv => U_below hba _ _ _ hb (hF _ _ _ hv)) hba.size).cells
  injection e with e
  rw [← show [Value.int .i64 T.h.k, .int .i64 T.h.n, .int .i64 T.h.a, .slice q1 n1 c1, .slice q2 n2 c2] = [.int .i64 T.h.k, .int .i64 T.h.n, .int .i64 T.h.a, v3, v4] from congrArg Array.toList e] at hv
  exact ⟨RT.block (n := 1) (fun i u hu => by rw [← hwa]; exact laid_cell (by simpa using hu)) (by omega) hv rfl (by decide), hba, hsa⟩

end Go.Proofs.YtkcmapimcgppmaaGreatDoor
end
section
namespace Go.Proofs.YtkcmapimcgppmaaGreatDoor
open Go.RowKit

/-- Lent: terms, a term, with marks behind all ends. -/
def lentA (t : Ts) : AV := .c (.seg none (.row 5 26 (lentT ty t) (tDs ty (tMarks 1 12)) .nil) .nil)
def lentC (t : Tm) : Dc := .lit (.int .i64 t.h.k) (.lit (.int .i64 t.h.n) (.lit (.int .i64 t.h.a) (.seg none (.row 1 43 (lentLv ty t.h.l) (lvDs ty (lvMarks 1 12)) (.row 5 26 (lentT ty t.x) (tDs ty (tMarks 1 12)) .nil)) .nil)))
/-- .. cell by cell. -/
def lentF (t : Tm) : Dc := .lit (.int .i64 t.h.k) (.lit (.int .i64 t.h.n) (.lit (.int .i64 t.h.a) (.seg none (.row 1 43 (lentLv ty t.h.l) (lvDs ty (lvMarks 1 12)) .nil) (.seg none (.row 5 26 (lentT ty t.x) (tDs ty (tMarks 1 12)) .nil) .nil))))
def lentM (t : Tm) : AV := .agg (lentF t)
theorem lentLv_good (l : List Lv) : (lentLv ty l).good := by
  induction l with
  | nil => trivial
  | cons p r ih => exact ⟨ptDs_good p, ptDs_good _, ih⟩
theorem lentT_good (t : Ts) : (lentT ty t).good := by
  induction t with
  | nil => trivial
  | cons h x r ihx ih => exact ⟨rfl, rfl, rfl, lentLv_good _, lvDs_good _, ihx, tDs_good _, ih⟩
theorem k7 (t : Ts) (hs : t.size ≤ 2000000) : HH 7 [tsA none t, iA 500] (iA (t.cnt 500 0)) := by
  refine ⟨code_of Tryz.func7 (by decide) rfl, rfl, fun F w vs hF hG hv => ?_⟩
  obtain ⟨u, v, rfl, h1, h2⟩ := list2 hv
  rw [iA_eq h2]
  refine (termsOf_any _ t u 500 w (Nat.lt_succ_self _) (tsA_rt hF h1) hs (by decide) (by decide)).mono ?_
  rintro e w' ⟨rfl, h5⟩
  exact ⟨_, fun _ => [], rfl, h5, rfl, fun k b hb => (by cases hb), fun k k' b hb => (by cases hb)⟩
theorem k8 (t : Tm) (hs : t.size ≤ 2000000) : HH 8 [tmL t, iA 500] (iA (1 + lvCount t.h.l 500 0 + t.x.cnt 500 0)) := by
  refine ⟨code_of Tryz.func8 (by decide) rfl, rfl, fun F w vs hF hG hv => ?_⟩
  obtain ⟨u, v, rfl, h1, h2⟩ := list2 hv
  rw [iA_eq h2]
  refine (termOf_any t.h t.x u 500 w (tmA_rm hF h1) hs (by decide) (by decide)).mono ?_
  rintro e w' ⟨rfl, h5⟩
  exact ⟨_, fun _ => [], rfl, h5, rfl, fun k b hb => (by cases hb), fun k k' b hb => (by cases hb)⟩
theorem k10 (t : Ts) (hs : t.size ≤ 2000000) : HH 10 [tsA none t] (lentA t) := by
  refine ⟨code_of Tryz.func10 (by decide) rfl, rfl, fun F w vs hF hG hv => ?_⟩
  obtain ⟨u, rfl, h1⟩ := list1 hv
  refine (lentTerms_any _ t u w (Nat.lt_succ_self _) (tsA_rt hF h1) hs).mono ?_
  rintro e w' ⟨v, S, rfl, h5, h6, h7⟩
  exact ⟨v, fun _ => [], rfl, h5, ⟨⟨lentT_good t, tDs_good _, trivial⟩, [v], [], rfl, Vs.res (F := F) (fp := fun _ => []) (Nat.le_refl _) h6, Gh.Ow_none, rfl⟩, fun k b hb => (by cases hb), fun k k' b hb => (by cases hb)⟩
theorem k11 (t : Tm) (hs : t.size ≤ 2000000) : HH 11 [tmL t] (lentM t) := by
  refine ⟨code_of Tryz.func11 (by decide) rfl, rfl, fun F w vs hF hG hv => ?_⟩
  obtain ⟨u, rfl, h1⟩ := list1 hv
  refine (lentTerm_any t.h t.x u w (tmA_rm hF h1) hs).mono ?_
  rintro e w' ⟨xs, S, rfl, h5, h6, h7⟩
  obtain ⟨_, rfl, _, rfl, _, rfl, v1, _, rfl, h8, v2, _, rfl, h9, rfl⟩ := Vs.res (F := F) (fp := fun _ => []) (Nat.le_refl _) h6
  exact ⟨_, fun _ => [], rfl, h5, ⟨_, rfl, rfl, _, rfl, rfl, _, rfl, rfl, _, rfl, ⟨lentLv_good _, lvDs_good _, trivial⟩, [v1], [v2], rfl, ⟨v1, [], rfl, h8, rfl⟩, Gh.Ow_none, ⟨lentT_good _, tDs_good _, trivial⟩, [v2], [], rfl, ⟨v2, [], rfl, h9, rfl⟩, Gh.Ow_none, rfl⟩, fun k b hb => (by cases hb), fun k k' b hb => (by cases hb)⟩
theorem k20 (t : Ts) : HH 20 [tsA none t, tsA none t] (.v (.bool true)) := by
  refine ⟨code_of Tryz.func20 (by decide) rfl, rfl, fun F w vs hF hG hv => ?_⟩
  obtain ⟨u, v, rfl, h1, h2⟩ := list2 hv
  refine (sameTerms_any _ t u v w (Nat.lt_succ_self _) (tsA_rt hF h1) (tsA_rt hF h2)).mono ?_
  rintro e w' ⟨rfl, h5⟩
  exact ⟨_, fun _ => [], rfl, h5, rfl, fun k b hb => (by cases hb), fun k k' b hb => (by cases hb)⟩
def fp1 (S : List Nat) : Tk → List Nat := fun k => if k = (0, 0) then S else []
theorem mem_fp1 {S : List Nat} {k : Tk} {b : Nat} : b ∈ fp1 S k ↔ k = (0, 0) ∧ b ∈ S := by
  unfold fp1
  by_cases h : k = (0, 0)
  · rw [if_pos h]; simp [h]
  · rw [if_neg h]; simp [h]
end Go.Proofs.YtkcmapimcgppmaaGreatDoor
end
section
namespace Go.Proofs.YtkcmapimcgppmaaGreatDoor
open Go.RowKit

variable {P : Program} {G : World → Prop} {tb : TB} {N : Nat} {F0 : Mem} {w0 : World}

/-- A state told by its slots, its variables, its names, and what some slots hold. -/
def stX (l : List (Nat × AV)) (b : List (Nat × Nat × Dc)) (t : List (Nat × Nat)) (fx : Nat → Option Value) : St := { stOf l b t with fx := fx }
theorem le_ofX {s : St} {l : List (Nat × AV)} {b : List (Nat × Nat × Dc)} {t : List (Nat × Nat)} {fx : Nat → Option Value} (h : Le G N s (stOf l b t)) (hf : ∀ t x, fx t = some x → s.fx t = some x) : Le G N s (stX l b t fx) := by
  intro F0 w0 a w hs
  obtain ⟨h1, h2, h3, h4, h5, h6, -⟩ := h F0 w0 a w hs
  exact ⟨⟨h1.1, h1.2⟩, h2, h3, h4, h5, h6, fun t x e => hs.fix t x (hf t x e)⟩
/-- What a piece of code must leave, to go on from a state. -/
def toK (G : World → Prop) (N : Nat) (st' : St) : Exit → St → Prop := fun e s => e = .normal ∧ Le G N s st'
theorem seq_state (hT : TbOk P tb) (hS : Stays G) (hm : P.follows .mixedOrders = true) {x y : Code} {Q : Exit → Act → World → Prop} {st st' : St} {a : Act} {w : World} (hs : Sat G F0 w0 N st a w) (h : acode P G tb N x (toK G N st') st)
    (k : ∀ a' w', Sat G F0 w0 N st' a' w' → y.wp P Q a' w') : (x.seq y).wp P Q a w := by
  refine wp_seq (wp_mono (acode_sound hT hS hm h F0 w0 a w hs) ?_)
  rintro e a' w' ⟨s, ⟨rfl, hle⟩, hs'⟩
  exact k a' w' (hle F0 w0 a' w' hs')
/-- A state begun anew: what lies is what stays; nothing is the call's own. -/
theorem rebase (hG : G w0) {st : St} {a : Act} (hok : ∀ t, (st.env t).ok (fun _ => none) (fun _ => none)) (hb : st.bx = fun _ => none) (hτ : st.τ = fun _ => none) (hsz : a.tmps.size = N) (hd : a.defers = []) (hx : ∀ t x, st.fx t = some x → a.tmps.getD t undef = x)
    (hr : ∀ t, t < N → RepV (argGh (U w0) w0) (st.env t) [a.tmps.getD t undef]) : Sat G (U w0) w0 N st a w0 := by
  refine ⟨⟨fun t => by rw [hb, hτ]; exact hok t, fun k T d e => by rw [hb] at e; cases e⟩, ⟨argGh (U w0) w0, rfl, ⟨fun _ _ _ h => h, Nat.le_refl _, fun k T d e => (by cases e), fun k k' h1 => (absurd rfl h1), fun k j b h1 => (absurd rfl h1), fun k k' b h1 => (absurd rfl h1)⟩, hb.symm, hτ.symm, rfl, fun _ _ _ => rfl, hr⟩, Below.refl _ _, hG, hsz, hd, hx⟩
/-- Where a function begins. -/
theorem start_sat (hG : G w0) {l : List AV} {vs : List Value} (hv : RepV (argGh (U w0) w0) (.list l) vs) (hN : l.length ≤ N) (hl : ∀ a ∈ l, a.ok (fun _ => none) (fun _ => none)) :
    Sat G (U w0) w0 N (startSt l) { tmps := vs.toArray ++ Array.replicate (N - vs.toArray.size) undef, defers := [] } w0 := by
  have hlen : ∀ (l : List AV) (vs : List Value), RepV (argGh (U w0) w0) (.list l) vs → vs.length = l.length ∧ ∀ t, RepV (argGh (U w0) w0) (l.getD t .junk) [vs.getD t undef] := by
    intro l
    induction l with
    | nil => intro vs h; rw [show vs = [] from h]; exact ⟨rfl, fun t => trivial⟩
    | cons a l ih =>
      rintro vs ⟨y, ys, rfl, h1, h2⟩
      obtain ⟨h3, h4⟩ := ih ys h2
      refine ⟨by simp [h3], fun t => ?_⟩
      cases t with
      | zero => exact h1
      | succ t => exact h4 t
  obtain ⟨hvl, hvs⟩ := hlen l vs hv
  refine rebase hG (fun t => ?_) rfl rfl (by simp; omega) rfl (fun t x e => by cases e) fun t ht => ?_
  · show (l.getD t .junk).ok _ _
    rw [List.getD_eq_getElem?_getD]
    cases ht : l[t]? with
    | none => trivial
    | some x => exact hl x (List.mem_of_getElem? ht)
  · have := hvs t
    have e : (vs.toArray ++ Array.replicate (N - vs.toArray.size) undef).getD t undef = vs.getD t undef := by
      rw [Array.getD_eq_getD_getElem?, Array.getElem?_append, List.getD_eq_getElem?_getD]
      by_cases h1 : t < vs.length
      · simp [h1]
      · have h2 : vs[t]? = none := List.getElem?_eq_none (by omega)
        simp only [List.size_toArray, h1, if_false, h2, Option.getD_none]
        rw [Array.getElem?_replicate]
        split <;> rfl
    show RepV _ (l.getD t .junk) [(vs.toArray ++ Array.replicate (N - vs.toArray.size) undef).getD t undef]
    rw [e]
    exact this
/-- A frame's slots, written out. -/
theorem arr_lit {n : Nat} {arr : Array Value} (h : arr.size = n) : arr = ((List.range n).map fun i => arr.getD i undef).toArray := by
  apply Array.ext_getElem?
  intro i
  subst h
  by_cases hi : i < arr.size
  · simp [hi]
  · simp [hi]
end Go.Proofs.YtkcmapimcgppmaaGreatDoor
end
section
namespace Go.Proofs.YtkcmapimcgppmaaGreatDoor
open Go.RowKit

/-- An argument of a rule: is it recursive, its type, its row, its member, its index. -/
structure Ag where
  r : Bool
  t : Tm
  e : Ts
  m : Int
  i : Ts
/-- A rule: its member, its arguments, its index. -/
structure Rl where
  m : Int
  g : List Ag
  i : Ts
def agDs : List Ag → Ds
  | [] => .nil
  | a :: r => .lit (.bool a.r) (.lit (.int .i64 a.t.h.k) (.lit (.int .i64 a.t.h.n) (.lit (.int .i64 a.t.h.a) (.row 1 43 (lvDs ty a.t.h.l) .nil (.row 5 26 (tDs ty a.t.x) .nil (.row 5 26 (tDs ty a.e) .nil (.lit (.int .i64 a.m) (.row 5 26 (tDs ty a.i) .nil (agDs r)))))))))
/-- .. lent. -/
def lentAg : List Ag → Ds
  | [] => .nil
  | a :: r => .lit (.bool a.r) (.lit (.int .i64 a.t.h.k) (.lit (.int .i64 a.t.h.n) (.lit (.int .i64 a.t.h.a) (.row 1 43 (lentLv ty a.t.h.l) (lvDs ty (lvMarks 1 12)) (.row 5 26 (lentT ty a.t.x) (tDs ty (tMarks 1 12)) (.row 5 26 (lentT ty a.e) (tDs ty (tMarks 1 12)) (.lit (.int .i64 a.m) (.row 5 26 (lentT ty a.i) (tDs ty (tMarks 1 12)) (lentAg r)))))))))
theorem agDs_len (l : List Ag) : (agDs l).len = l.length * 9 := by
  induction l with
  | nil => rfl
  | cons a r ih => simp [agDs, Ds.len, ih]; omega
theorem lentAg_len (l : List Ag) : (lentAg l).len = l.length * 9 := by
  induction l with
  | nil => rfl
  | cons a r ih => simp [lentAg, Ds.len, ih]; omega
theorem agDs_app (p q : List Ag) : agDs (p ++ q) = (agDs p).app (agDs q) := by
  induction p with
  | nil => rfl
  | cons a r ih => simp [agDs, Ds.app, ih]
theorem lentAg_app (p q : List Ag) : lentAg (p ++ q) = (lentAg p).app (lentAg q) := by
  induction p with
  | nil => rfl
  | cons a r ih => simp [lentAg, Ds.app, ih]
theorem agDs_good (l : List Ag) : (agDs l).good := by
  induction l with
  | nil => trivial
  | cons a r ih => exact ⟨rfl, rfl, rfl, rfl, lvDs_good _, trivial, tDs_good _, trivial, tDs_good _, trivial, rfl, tDs_good _, trivial, ih⟩
/-- What is lent, without its room. -/
theorem lentAg_strip (l : List Ag) : (lentAg l).strip = agDs l := by
  induction l with
  | nil => rfl
  | cons a r ih => simp [lentAg, agDs, Ds.strip, ih, lentT_strip, lentLv_strip, ty]
/-- The mark of an argument. -/
def markAg (k i : Nat) : Ag := ⟨false, ⟨⟨0, 0, 0, []⟩, .nil⟩, .nil, mark k i, .nil⟩
def agMarks (k n : Nat) : List Ag := (List.range n).map (markAg k)
theorem agMarks_succ (k n : Nat) : agMarks k (n + 1) = agMarks k n ++ [markAg k n] := by simp [agMarks, List.range_succ]
theorem agMarks_len (k n : Nat) : (agMarks k n).length = n := by simp [agMarks]
def szAg (l : List Ag) : Nat := (l.map fun a => 1 + a.t.size + a.e.size + a.i.size).sum
/-- Cells of one. -/
def agC (a : Ag) : Dc := .lit (.bool a.r) (.lit (.int .i64 a.t.h.k) (.lit (.int .i64 a.t.h.n) (.lit (.int .i64 a.t.h.a) (.row none 1 43 (lvDs ty a.t.h.l) (.row none 5 26 (tDs ty a.t.x) (.row none 5 26 (tDs ty a.e) (.lit (.int .i64 a.m) (.row none 5 26 (tDs ty a.i) .nil))))))))
def agL (a : Ag) : AV := .agg (agC a)
def agsA (l : List Ag) : AV := .c (.row none 9 82 (agDs l) .nil)
def rlC (r : Rl) : Dc := .lit (.int .i64 r.m) (.row none 9 82 (agDs r.g) (.row none 5 26 (tDs ty r.i) .nil))
def rlL (r : Rl) : AV := .agg (rlC r)
/-- Lent ones. -/
def lentAgC (a : Ag) : Dc := .lit (.bool a.r) (.lit (.int .i64 a.t.h.k) (.lit (.int .i64 a.t.h.n) (.lit (.int .i64 a.t.h.a) (.seg none (.row 1 43 (lentLv ty a.t.h.l) (lvDs ty (lvMarks 1 12)) .nil) (.seg none (.row 5 26 (lentT ty a.t.x) (tDs ty (tMarks 1 12)) .nil) (.seg none (.row 5 26 (lentT ty a.e) (tDs ty (tMarks 1 12)) .nil) (.lit (.int .i64 a.m) (.seg none (.row 5 26 (lentT ty a.i) (tDs ty (tMarks 1 12)) .nil) .nil))))))))
end Go.Proofs.YtkcmapimcgppmaaGreatDoor
end
section
namespace Go.Proofs.YtkcmapimcgppmaaGreatDoor
open Go.RowKit
attribute [local simp] ty_p ty_l ty_t kH tDs lvDs Tm.ts finH elemH ac_skip ac_label ac_region ac_seq ac_cond ac_block ac_loop ac_exit ac_ret seqK_n seqK_r seqK_e vo_nil vo_cons blkK loopK callOf vout aout abuiltin aslice ev startSt nmOf St.out putE updo upd contOf freshC K0 asC fillD fieldOf rowD astore aapp srcOf elsOf tb Dc.tk Dc.dp Dc.over Dc.app Dc.ln Dc.ds Dc.sing Dc.cont AV.cont Ds.hd Value.oneCell' retK resOf one1 AV.imp Dc.imp φOf calleeOf AV.isLL AV.list AV.app AV.arg AV.isL AV.ren Dc.ren Dc.lent tmC tmA tsA iA lo? abin AV.nth Dc.own Dc.toks stOf envOf bxOf τOf
attribute [local simp] AV.room amake agC lentAgC

theorem k120 (i : Nat) (hi : i ≤ 1000) : HH 120 [iA 1, iA i] (iA (mark 1 i)) := by
  have w1 : IntKind.i64.wrap 8 = 8 := by decide
  have w2 : IntKind.i64.wrap 8000024 = 8000024 := by decide
  have w3 : IntKind.i64.wrap (8000024 + (i : Int)) = 8000024 + i := by rw [IntKind.wrap_i64]; omega
  have w4 : mark 1 i = 8000024 + i := by unfold mark; omega
  refine ab Tryz.func120 Tryz.ntmps120 Tryz.results120 rfl (by decide) (by simp) rfl rfl ?_
  simp [w1, w2, w3, w4]
  exact ⟨[], by simp⟩
theorem k191 (i : Nat) (hi : i ≤ 1000) : HH 191 [iA 1, iA i] (.agg (.lit (.bool false) (.lit (.int .i64 0) (.lit (.int .i64 0) (.lit (.int .i64 0) (.nilr 1 43 (.nilr 5 26 (.nilr 5 26 (.lit (.int .i64 (mark 1 i)) (.nilr 5 26 .nil)))))))))) := by
  refine ab Tryz.func191 Tryz.ntmps191 Tryz.results191 rfl (by decide) (by simp) rfl rfl ?_
  simp
  refine asks (k120 i hi) ?_ ?_ ?_ <;> simp
  exact ⟨[], by simp⟩
theorem k190 (a : Ag) (h1 : a.t.size ≤ 2000000) (h2 : a.e.size ≤ 2000000) (h3 : a.i.size ≤ 2000000) : HH 190 [agL a] (.agg (lentAgC a)) := by
  refine ab Tryz.func190 Tryz.ntmps190 Tryz.results190 rfl (by decide) (by simp) rfl rfl ?_
  simp [agL]
  refine asks (k11 a.t h1) ?_ ?_ ?_ <;> simp [lentM, lentF, Ds.len]
  refine asks (k10 a.e h2) ?_ ?_ ?_ <;> simp [lentA, Ds.len]
  refine asks (k10 a.i h3) ?_ ?_ ?_ <;> simp [lentA, Ds.len, Ds.app]
  exact ⟨[], by simp⟩
theorem Ds.tk_app (x y : Ds) : (x.app y).tk x.len = x := by
  induction x with
  | nil => cases y <;> rfl
  | lit v r ih => simp [Ds.app, Ds.len, Ds.tk, ih]
  | row sz e x s r _ _ ih => simp [Ds.app, Ds.len, Ds.tk, ih]
def agsLent (l : List Ag) : AV := .c (.seg none (.row 9 82 (lentAg l) (agDs (agMarks 1 12)) .nil) .nil)
theorem take_ag {l : List Ag} {k : Nat} (h : k < l.length) : l.take (k + 1) = l.take k ++ [l[k]] := (List.take_append_getElem h).symm
theorem dp_ag {l : List Ag} {k : Nat} (h : k < l.length) : (agDs l).dp (k * 9) = agDs (l[k] :: l.drop (k + 1)) := by
  have e : l = l.take k ++ (l[k] :: l.drop (k + 1)) := by rw [← List.drop_eq_getElem_cons h, List.take_append_drop]
  have h2 : (agDs (l.take k)).len = k * 9 := by rw [agDs_len, List.length_take]; congr 1; omega
  conv => lhs; rw [e, agDs_app, ← h2, Ds.dp_app]
theorem szAg_len (l : List Ag) : l.length ≤ szAg l := by
  induction l with
  | nil => exact Nat.le_refl _
  | cons a r ih => simp only [szAg, List.map_cons, List.sum_cons, List.length_cons] at *; omega
theorem szAg_app (a b : List Ag) : szAg (a ++ b) = szAg a + szAg b := by simp [szAg]
theorem szAg_at {l : List Ag} {k : Nat} (h : k < l.length) : 1 + l[k].t.size + l[k].e.size + l[k].i.size ≤ szAg l := by
  have e : l = l.take k ++ (l[k] :: l.drop (k + 1)) := by rw [← List.drop_eq_getElem_cons h, List.take_append_drop]
  have e2 : szAg l = szAg (l.take k) + szAg (l[k] :: l.drop (k + 1)) := by rw [← szAg_app, ← e]
  rw [e2]
  have : szAg (l[k] :: l.drop (k + 1)) = 1 + l[k].t.size + l[k].e.size + l[k].i.size + szAg (l.drop (k + 1)) := by
    simp only [szAg, List.map_cons, List.sum_cons]
  omega
def st109 (l : List Ag) (k : Nat) : St := stOf [(0, agsA l), (3, .c (.blk 11 (k + 1) 9 82 (.seg none (lentAg (l.take k)) .nil) .nil)), (4, iA k)] [] [(11, k + 1)]
def st109' (l : List Ag) (i : Nat) : St := stOf [(0, agsA l), (3, .c (.blk 11 (l.length + 1 + i) 9 82 (.seg none ((lentAg l).app (agDs (agMarks 1 i))) .nil) .nil)), (6, iA i)] [] [(11, l.length + 1 + i)]
theorem k109 (l : List Ag) (hs : szAg l ≤ 1000000) : HH 109 [agsA l] (agsLent l) := by
  have hl : l.length ≤ 1000000 := Nat.le_trans (szAg_len l) hs
  refine ab Tryz.func109 Tryz.ntmps109 Tryz.results109 rfl (by decide) (by simp) rfl rfl ?_
  have w0 : IntKind.i64.wrap ((l.length : Int) + 12) = l.length + 12 := by rw [IntKind.wrap_i64]; omega
  have d0 : l.length * 9 / 9 = l.length := by omega
  simp [agsA, agDs_len, d0, w0]
  refine ⟨by omega, ?_⟩
  refine lp (α := { k : Nat // k ≤ l.length }) (fun k => st109 l k.1) (fun k => l.length - k.1) ⟨0, Nat.zero_le _⟩ ?_ ?_
  · refine le_of [((11, 0), [(11, 0)])] ?_ ?_ ?_ <;> simp [agsA, lentAg, AV.ok, Dc.ok]
  · rintro ⟨k, hk⟩
    by_cases hlt : k < l.length
    · have h1 := dp_ag hlt
      have hsz := szAg_at hlt
      simp [st109, agsA, agDs_len, d0, hlt, h1, agDs]
      refine ⟨by omega, ?_⟩
      refine asks (k190 l[k] (by omega) (by omega) (by omega)) ?_ ?_ ?_ <;> simp [agL, Ds.len]
      have hw : IntKind.i64.wrap ((k : Int) + 1) = k + 1 := by rw [IntKind.wrap_i64]; omega
      refine ⟨by rw [lentAg_len, List.length_take]; omega, k + 1, by omega, by omega, ?_⟩
      refine le_of [((11, 0), [(11, 0)])] ?_ ?_ ?_ <;> simp [agsA, AV.ok, Dc.ok, hw, -List.take_append_getElem]
      rw [take_ag hlt, lentAg_app]; rfl
    · obtain rfl : k = l.length := by omega
      simp [st109, agsA, agDs_len, d0]
      refine lp (α := { i : Nat // i ≤ 12 }) (fun i => st109' l i.1) (fun i => 12 - i.1) ⟨0, Nat.zero_le _⟩ ?_ ?_
      · refine le_of [((11, 0), [(11, 0)])] ?_ ?_ ?_ <;> simp [st109', agsA, agMarks, agDs, AV.ok, Dc.ok]
      · rintro ⟨i, hi⟩
        by_cases h12 : i < 12
        · have h13 : (i : Int) < 12 := by omega
          simp [st109', agsA, agDs_len, d0, h13]
          refine asks (k191 i (by omega)) ?_ ?_ ?_ <;> simp [Ds.len]
          have hw : IntKind.i64.wrap ((i : Int) + 1) = i + 1 := by rw [IntKind.wrap_i64]; omega
          refine ⟨by rw [Ds.app_len, lentAg_len, agDs_len, agMarks_len]; omega, i + 1, by omega, by omega, ?_⟩
          refine le_of [((11, 0), [(11, 0)])] ?_ ?_ ?_ <;> simp [agsA, AV.ok, Dc.ok, hw, Nat.add_assoc]
          rw [agMarks_succ, agDs_app, ← Ds.app_assoc]; rfl
        · obtain rfl : i = 12 := by omega
          simp [st109', agsA, agDs_len, d0]
          refine ⟨by rw [Ds.app_nil, Ds.app_len, lentAg_len, Ds.len]; omega, [], ?_⟩
          simp [agsLent, Ds.app_nil]
          have e := lentAg_len l
          refine ⟨?_, ?_⟩ <;> rw [← e]
          · rw [Ds.tk_app]
          · rw [Ds.dp_app]
end Go.Proofs.YtkcmapimcgppmaaGreatDoor
end
section
namespace Go.Proofs.YtkcmapimcgppmaaGreatDoor
open Go.RowKit

/-- From one world to another only blocks of X turn, and none whose cells are of type em. -/
structure Tn (em : Nat) (X : Nat → Prop) (w w' : World) : Prop where
  os : w'.os = w.os
  tape : w'.tape = w.tape
  output : w'.output = w.output
  size : w.heap.size ≤ w'.heap.size
  block : ∀ b, b < w.heap.size → ¬ X b → w'.heap[b]? = w.heap[b]?
  keep : ∀ (b : Nat) (cur : Array Value) (fz : Nat × Nat), w.heap[b]? = some (Obj.cells cur em fz) → w'.heap[b]? = some (Obj.cells cur em fz)
theorem Tn.refl (em : Nat) (X : Nat → Prop) (w : World) : Tn em X w w := ⟨rfl, rfl, rfl, Nat.le_refl _, fun _ _ _ => rfl, fun _ _ _ h => h⟩
theorem Tn.trans {em : Nat} {X : Nat → Prop} {a b c : World} (h : Tn em X a b) (k : Tn em X b c) : Tn em X a c :=
  ⟨k.os.trans h.os, k.tape.trans h.tape, k.output.trans h.output, Nat.le_trans h.size k.size, fun i hi hx => (k.block i (Nat.lt_of_lt_of_le hi h.size) hx).trans (h.block i hi hx), fun i c f e => k.keep i c f (h.keep i c f e)⟩
/-- What is new may turn besides. -/
theorem Tn.trans' {em : Nat} {X Y : Nat → Prop} {a b c : World} (h : Tn em X a b) (k : Tn em Y b c) (hxy : ∀ i, i < a.heap.size → Y i → X i) : Tn em X a c :=
  ⟨k.os.trans h.os, k.tape.trans h.tape, k.output.trans h.output, Nat.le_trans h.size k.size, fun i hi hx => (k.block i (Nat.lt_of_lt_of_le hi h.size) (fun hy => hx (hxy i hi hy))).trans (h.block i hi hx), fun i c f e => k.keep i c f (h.keep i c f e)⟩
theorem Tn.mono {em : Nat} {X Y : Nat → Prop} {w w' : World} (h : Tn em X w w') (hxy : ∀ i, i < w.heap.size → X i → Y i) : Tn em Y w w' :=
  ⟨h.os, h.tape, h.output, h.size, fun i hi hy => h.block i hi (fun hx => hy (hxy i hi hx)), h.keep⟩
theorem heap_lt {w : World} {b : Nat} {o : Obj} (h : w.heap[b]? = some o) : b < w.heap.size := (Array.getElem?_eq_some_iff.1 h).1
theorem Tn.of_below {em : Nat} {X : Nat → Prop} {w w' : World} (h : Below w.heap.size w w') : Tn em X w w' :=
  ⟨h.os, h.tape, h.output, h.size, fun b hb _ => h.block b hb, fun b _ _ e => by rw [h.block b (heap_lt e)]; exact e⟩
theorem Tn.below {em : Nat} {X : Nat → Prop} {w w' : World} (h : Tn em X w w') {B : Nat} (hB : B ≤ w.heap.size) (hx : ∀ b, X b → B ≤ b) : Below B w w' :=
  ⟨h.os, h.tape, h.output, h.size, fun b hb => h.block b (Nat.lt_of_lt_of_le hb hB) (fun h1 => by have := hx b h1; omega)⟩

/-- Cells put into a block. -/
theorem setCells_heap {g : Nat} {t : TypeId} : ∀ (vs : List Value) (o : Nat) (cur : Array Value) (w : World), w.heap[g]? = some (Obj.cells cur t (0, 0)) → o + vs.length ≤ cur.size →
    ∃ cur', (w.setCells g o vs).heap[g]? = some (Obj.cells cur' t (0, 0)) ∧ cur'.size = cur.size ∧ (∀ p, p < o ∨ o + vs.length ≤ p → cur'[p]? = cur[p]?) ∧ ∀ j, j < vs.length → cur'[o + j]? = vs[j]?
  | [], o, cur, w, hg, _ => ⟨cur, hg, rfl, fun _ _ => rfl, fun j hj => by simp at hj⟩
  | v :: vs, o, cur, w, hg, hl => by
    simp only [List.length_cons] at hl
    have h1 : (w.setCell ⟨g, o, none⟩ v).heap[g]? = some (Obj.cells (cur.setIfInBounds o v) t (0, 0)) := by
      rw [setCell_eq_setRow w g o cur t (0, 0) v hg]; exact setRow_heap w g cur _ t _ hg
    obtain ⟨cur', h2, h3, h4, h5⟩ := setCells_heap vs (o + 1) _ _ h1 (by rw [Array.size_setIfInBounds]; omega)
    refine ⟨cur', h2, by rw [h3, Array.size_setIfInBounds], fun p hp => ?_, fun j hj => ?_⟩
    · simp only [List.length_cons] at hp
      rw [h4 p (by omega), Array.getElem?_setIfInBounds, if_neg (by omega)]
    · cases j with
      | zero => rw [Nat.add_zero, h4 o (by omega), Array.getElem?_setIfInBounds, if_pos rfl, if_pos (by omega)]; rfl
      | succ j =>
        have := h5 j (by simp at hj; omega)
        rw [show o + (j + 1) = o + 1 + j by omega, this]; rfl
theorem setCells_size (w : World) (g o : Nat) (vs : List Value) : (w.setCells g o vs).heap.size = w.heap.size := by
  induction vs generalizing o w with
  | nil => rfl
  | cons v vs ih => rw [World.setCells, ih]; simp [World.setCell]
theorem setCells_tape (w : World) (g o : Nat) (vs : List Value) : (w.setCells g o vs).tape = w.tape := by
  induction vs generalizing o w with
  | nil => rfl
  | cons v vs ih => rw [World.setCells, ih]; rfl
theorem setCells_other {w : World} {g o i : Nat} {vs : List Value} (hne : i ≠ g) : (w.setCells g o vs).heap[i]? = w.heap[i]? := by
  induction vs generalizing o w with
  | nil => rfl
  | cons v vs ih => rw [World.setCells, ih]; exact Below.heap_setCell _ _ _ _ (by simpa using hne)
theorem setCells_tn {em e : Nat} {w : World} {g o : Nat} {cur : Array Value} (vs : List Value) (hg : w.heap[g]? = some (Obj.cells cur e (0, 0))) (he : e ≠ em) : Tn em (fun b => b = g) w (w.setCells g o vs) :=
  ⟨World.os_setCells _ _ _ _, setCells_tape _ _ _ _, World.output_setCells _ _ _ _, by rw [setCells_size]; exact Nat.le_refl _, fun b _ hb => setCells_other hb, fun b c f h => by
    by_cases e1 : b = g
    · subst e1; rw [hg] at h; cases h; exact absurd rfl he
    · rw [setCells_other e1]; exact h⟩
theorem there_of {w : World} {g o n : Nat} {cur : Array Value} {t : TypeId} (hg : w.heap[g]? = some (Obj.cells cur t (0, 0))) (hl : o + n ≤ cur.size) : w.there g o n := fun j hj =>
  ⟨by simp [World.cell?, hg]; omega, by simp [World.frozen?, hg]⟩
theorem rangeAt_of {w : World} {g o : Nat} {cur : Array Value} {t : TypeId} {xs : List Value} (hg : w.heap[g]? = some (Obj.cells cur t (0, 0))) (h : ∀ j, j < xs.length → cur[o + j]? = xs[j]?) : w.rangeAt g o xs := fun j v hv => by
  have hj := (List.getElem?_eq_some_iff.1 hv).1
  simp [World.cell?, hg, h j hj, hv]

/-- A kind of elements: their type, how many cells, of what type the blocks are that a mark leads to; the cells of a mark. -/
structure Kd where
  e : Nat
  sz : Nat
  em : Nat
  cel : World → Int → List Value → Prop
structure Kd.Ok (K : Kd) : Prop where
  ne : K.e ≠ K.em
  pos : 0 < K.sz
  len : ∀ w M xs, K.cel w M xs → xs.length = K.sz
  one : ∀ w M xs, K.cel w M xs → ∀ u ∈ xs, u.oneCell' = true
  on : ∀ w w' M xs, (∀ (b : Nat) (cur : Array Value) (fz : Nat × Nat), w.heap[b]? = some (Obj.cells cur K.em fz) → w'.heap[b]? = some (Obj.cells cur K.em fz)) → K.cel w M xs → K.cel w' M xs
/-- The number of a mark. -/
def mk (k i : Nat) : Int := 1000003 * ((k : Int) + 7) + i
/-- The first d elements are marks of row k. -/
def Mkd (K : Kd) (w : World) (cur : Array Value) (d k : Nat) : Prop := ∀ i, i < d → ∃ xs, K.cel w (mk k i) xs ∧ ∀ j, j < xs.length → cur[i * K.sz + j]? = xs[j]?
theorem Mkd.on {K : Kd} (hK : K.Ok) {X : Nat → Prop} {w w' : World} {cur : Array Value} {d k : Nat} (h : Mkd K w cur d k) (ht : Tn K.em X w w') : Mkd K w' cur d k := fun i hi => by
  obtain ⟨xs, h1, h2⟩ := h i hi
  exact ⟨xs, hK.on _ _ _ _ ht.keep h1, h2⟩
theorem Mkd.less {K : Kd} {w : World} {cur : Array Value} {d d' k : Nat} (h : Mkd K w cur d k) (hd : d' ≤ d) : Mkd K w cur d' k := fun i hi => h i (by omega)
/-- The same cells at the head. -/
theorem Mkd.head {K : Kd} (hK : K.Ok) {w : World} {cur cur' : Array Value} {d k : Nat} (h : Mkd K w cur d k) (hc : ∀ p, p < d * K.sz → cur'[p]? = cur[p]?) : Mkd K w cur' d k := fun i hi => by
  obtain ⟨xs, h1, h2⟩ := h i hi
  refine ⟨xs, h1, fun j hj => ?_⟩
  have hl := hK.len _ _ _ h1
  have : (i + 1) * K.sz ≤ d * K.sz := Nat.mul_le_mul_right _ hi
  rw [hc _ (by rw [Nat.add_mul] at this; omega)]
  exact h2 j hj
/-- One more. -/
theorem Mkd.next {K : Kd} {w : World} {cur : Array Value} {d k : Nat} {xs : List Value} (h : Mkd K w cur d k) (hx : K.cel w (mk k d) xs) (hc : ∀ j, j < xs.length → cur[d * K.sz + j]? = xs[j]?) : Mkd K w cur (d + 1) k := fun i hi => by
  by_cases e : i = d
  · subst e; exact ⟨xs, hx, hc⟩
  · exact h i (by omega)

def vn : Value → Nat
  | .slice _ n _ => n
  | _ => 0
/-- A row that may be written (from block lo on), of which the first d elements are marks of row k. -/
def RowI (K : Kd) (lo : Nat) (w : World) (v : Value) (d k : Nat) : Prop :=
  (∃ p, v = .slice p 0 0 ∧ d = 0) ∨ ∃ g n cap cur, v = .slice (some ⟨g, 0, none⟩) n cap ∧ lo ≤ g ∧ w.heap[g]? = some (Obj.cells cur K.e (0, 0)) ∧ n ≤ cap ∧ 0 < cap ∧ cap ≤ maxLen ∧ cur.size = cap * K.sz ∧ d ≤ n ∧ Mkd K w cur d k
/-- The block of a row that has room. -/
def vb : Value → Option Nat
  | .slice (some a) _ (_ + 1) => some a.block
  | _ => none
theorem vb_of {g n cap : Nat} (h : 0 < cap) : vb (.slice (some ⟨g, 0, none⟩) n cap) = some g := by
  cases cap with
  | zero => omega
  | succ c => rfl
theorem RowI.lt {K : Kd} {lo : Nat} {w : World} {v : Value} {d k : Nat} (h : RowI K lo w v d k) {b : Nat} (hb : vb v = some b) : lo ≤ b ∧ b < w.heap.size := by
  rcases h with ⟨p, rfl, -⟩ | ⟨g, n, cap, cur, rfl, h1, h2, h3, h4, -⟩
  · cases p <;> cases hb
  · rw [vb_of h4] at hb; cases hb; exact ⟨h1, heap_lt h2⟩
theorem RowI.on {K : Kd} (hK : K.Ok) {X : Nat → Prop} {lo : Nat} {w w' : World} {v : Value} {d k : Nat} (h : RowI K lo w v d k) (ht : Tn K.em X w w') (hx : ∀ (b : Nat) (cur : Array Value), w.heap[b]? = some (Obj.cells cur K.e (0, 0)) → vb v = some b → ¬ X b) : RowI K lo w' v d k := by
  rcases h with h | ⟨g, n, cap, cur, rfl, h1, h2, h3, h4, h5, h6, h7, h8⟩
  · exact .inl h
  · exact .inr ⟨g, n, cap, cur, rfl, h1, by rw [ht.block g (heap_lt h2) (hx g cur h2 (vb_of h4))]; exact h2, h3, h4, h5, h6, h7, h8.on hK ht⟩
theorem RowI.start {K : Kd} {lo : Nat} {w : World} {v : Value} {d k k' : Nat} (h : RowI K lo w v d k) : RowI K lo w v 0 k' := by
  rcases h with ⟨p, rfl, -⟩ | ⟨g, n, cap, cur, rfl, h1, h2, h3, h4, h5, h6, h7, h8⟩
  · exact .inl ⟨p, rfl, rfl⟩
  · exact .inr ⟨g, n, cap, cur, rfl, h1, h2, h3, h4, h5, h6, Nat.zero_le _, fun i hi => by omega⟩
/-- An element is written. -/
theorem RowI.set {K : Kd} (hK : K.Ok) {lo : Nat} {w : World} {g n cap d k : Nat} {xs : List Value} (h : RowI K lo w (.slice (some ⟨g, 0, none⟩) n cap) d k) (hd : d < n) (hx : K.cel w (mk k d) xs) :
    w.there g (d * K.sz) K.sz ∧ RowI K lo (w.setCells g (d * K.sz) xs) (.slice (some ⟨g, 0, none⟩) n cap) (d + 1) k ∧ Tn K.em (fun b => b = g) w (w.setCells g (d * K.sz) xs) := by
  rcases h with ⟨p, e, -⟩ | ⟨g, n, cap, cur, e, h1, h2, h3, h4, h5, h6, h7, h8⟩
  · cases e; omega
  · cases e
    have hl := hK.len _ _ _ hx
    have hm : (d + 1) * K.sz ≤ cap * K.sz := Nat.mul_le_mul_right _ (by omega)
    rw [Nat.add_mul, Nat.one_mul] at hm
    have ht := setCells_tn (em := K.em) (o := d * K.sz) xs h2 hK.ne
    obtain ⟨cur', e1, e2, e3, e4⟩ := setCells_heap xs (d * K.sz) cur w h2 (by omega)
    refine ⟨there_of h2 (by omega), .inr ⟨g, n, cap, cur', rfl, h1, e1, h3, h4, h5, by rw [e2, h6], hd, ?_⟩, ht⟩
    exact ((h8.on hK ht).head hK (fun p hp => e3 p (.inl hp))).next (hK.on _ _ _ _ ht.keep hx) e4
/-- An element is read. -/
theorem RowI.get {K : Kd} {lo : Nat} {w : World} {g n cap d k i : Nat} (h : RowI K lo w (.slice (some ⟨g, 0, none⟩) n cap) d k) (hi : i < d) : ∃ xs, K.cel w (mk k i) xs ∧ w.rangeAt g (i * K.sz) xs := by
  rcases h with ⟨p, -, rfl⟩ | ⟨g, n, cap, cur, e, h1, h2, h3, h4, h5, h6, h7, h8⟩
  · omega
  · cases e
    obtain ⟨xs, e1, e2⟩ := h8 i hi
    exact ⟨xs, e1, rangeAt_of h2 e2⟩

/-- All rows of a list; how far each is marked. -/
def RowsG (K : Kd) (lo : Nat) (w : World) (vs : List Value) (d : Nat → Nat) : Prop := ∀ k v, vs[k]? = some v → RowI K lo w v (d k) k
/-- They lie apart. -/
def Dist (vs : List Value) : Prop := ∀ (k k' : Nat) (v v' : Value) (b : Nat), vs[k]? = some v → vs[k']? = some v' → vb v = some b → vb v' = some b → k = k'
/-- Their blocks. -/
def InV (vs : List Value) (b : Nat) : Prop := ∃ v ∈ vs, vb v = some b
theorem RowsG.set {K : Kd} (hK : K.Ok) {lo : Nat} {w : World} {vs : List Value} (hD : Dist vs) {d : Nat → Nat} (h : RowsG K lo w vs d) {k g n cap : Nat} {xs : List Value} (hv : vs[k]? = some (.slice (some ⟨g, 0, none⟩) n cap)) (hd : d k < n) (hx : K.cel w (mk k (d k)) xs) :
    w.there g (d k * K.sz) K.sz ∧ RowsG K lo (w.setCells g (d k * K.sz) xs) vs (fun j => if j = k then d k + 1 else d j) ∧ Tn K.em (InV vs) w (w.setCells g (d k * K.sz) xs) := by
  have hr := h k _ hv
  have hcap : 0 < cap := by
    rcases hr with ⟨p, e, -⟩ | ⟨_, _, _, _, e, _, _, _, h4, -⟩
    · cases e; omega
    · cases e; exact h4
  obtain ⟨h1, h2, h3⟩ := hr.set hK hd hx
  refine ⟨h1, fun j v hj => ?_, h3.mono fun b _ e => ⟨_, List.mem_of_getElem? hv, by rw [e]; exact vb_of hcap⟩⟩
  by_cases e : j = k
  · subst e
    rw [hv] at hj; cases hj
    show RowI _ _ _ _ (if j = j then _ else _) _
    rw [if_pos rfl]; exact h2
  · show RowI _ _ _ _ (if j = k then _ else _) _
    rw [if_neg e]
    exact (h j v hj).on hK h3 fun b _ _ hb e2 => e (hD j k v _ b hj hv hb (by rw [e2]; exact vb_of hcap))
theorem RowsG.on {K : Kd} (hK : K.Ok) {X : Nat → Prop} {lo : Nat} {w w' : World} {vs : List Value} {d : Nat → Nat} (h : RowsG K lo w vs d) (ht : Tn K.em X w w') (hx : ∀ (b : Nat) (cur : Array Value), w.heap[b]? = some (Obj.cells cur K.e (0, 0)) → InV vs b → ¬ X b) : RowsG K lo w' vs d := fun k v hv =>
  (h k v hv).on hK ht fun b cur hc hb => hx b cur hc ⟨v, List.mem_of_getElem? hv, hb⟩
end Go.Proofs.YtkcmapimcgppmaaGreatDoor
end
section
namespace Go.Proofs.YtkcmapimcgppmaaGreatDoor
open Go.RowKit

/-- A variable in memory, of a type. -/
def Box (w : World) (b : Nat) (T : Nat) (cs : Array Value) : Prop := w.heap[b]? = some (Obj.cells cs T (0, 0))
theorem Box.on {w w' : World} {b T : Nat} {cs : Array Value} (h : Box w b T cs) (hb : Below w.heap.size w w') : Box w' b T cs := by
  unfold Box at *
  rw [hb.block b (heap_lt h)]; exact h
theorem RLent.plain {w : World} {v : Value} {h : Hd} {x : Ts} (hr : RLent w v h x) : RM ty w v h x := by
  obtain ⟨q, n, c, r, m, d, rfl, h1, h2⟩ := hr
  refine ⟨q, n, c, r, m, d, rfl, h1.lentLv_plain, ?_⟩
  have := h2.strip
  rw [lentT_strip] at this
  exact this
theorem lit5 {g : Gh} {k j : Option Tk} {h : Hd} {x : Ts} {xs : List Value} (hr : RepC g (tmC k j h x) xs) : ∃ q m d q' m' d', xs = [.int .i64 h.k, .int .i64 h.n, .int .i64 h.a, .slice q m d, .slice q' m' d'] := by
  obtain ⟨-, _, rfl, -, _, rfl, -, _, rfl, -, v1, _, rfl, h1, -, -, v2, _, rfl, h2, -, rfl⟩ := hr
  obtain ⟨p, n, c, rfl, -⟩ := id h1
  obtain ⟨p', n', c', rfl, -⟩ := id h2
  exact ⟨_, _, _, _, _, _, rfl⟩
theorem Box.cell {w : World} {b T : Nat} {cs : Array Value} (h : Box w b T cs) {o : Nat} {v : Value} (hv : cs[o]? = some v) : w.cell? ⟨b, o, none⟩ = some v := by
  have h' : w.heap[b]? = _ := h
  simp [World.cell?, h', hv]
theorem Box.below {w w' : World} {B b T : Nat} {cs : Array Value} (h : Box w b T cs) (hb : Below B w w') (hlt : b < B) : Box w' b T cs := by
  unfold Box at *
  rw [hb.block b hlt]; exact h
theorem own_slice {w : World} {base sz e : Nat} {x : Ds} {v : Value} {S : List Nat} (h : Own w base (.row sz e x .nil .nil) [v] S) : ∃ p n c, v = .slice p n c := by
  obtain ⟨_, _, ks, sp, B, T1, T2, T3, e, k1, -⟩ := h
  cases e
  rcases k1 with ⟨p, rfl, -⟩ | ⟨g, n', cap, cur, rfl, rfl, -⟩
  · exact ⟨_, _, _, rfl⟩
  · exact ⟨_, _, _, rfl⟩
/-- A variable of the call's own, out of a state. -/
theorem sat_box {g : Gh} (hI : Inv g) {k T : Nat} {d : Dc} (h : g.st.bx k = some (T, d)) : ∃ xs, Box g.w (g.B k) T xs.toArray ∧ RepC g d xs := by
  obtain ⟨-, -, xs, h1, h2⟩ := hI.box k T d h
  exact ⟨xs, h1, h2⟩
end Go.Proofs.YtkcmapimcgppmaaGreatDoor
end
