/-
  Parts with marks behind their end are found kept. Conditions: no more than 2000000 parts. Levels with marks are found kept. Conditions: no more than 2000000 parts, levels. Terms with marks are found kept, where their levels are. Conditions: no more than 2000000 nodes, levels, parts. Terms with marks are found kept. Conditions: no more than 2000000 nodes, levels, parts. The program's parts of a tuple, walked. Conditions: no more than 1000000 nodes, levels, parts; twelve parts at most; numbers that a word holds; the table of kinds lies where it was laid. What a law asks of the program and of the kit, over data: counts, what is lent with marks, parts, likeness. Conditions: no more than 2000000 nodes, levels, parts. Pieces of a function's code walked over states, one behind the other; states begun anew. Conditions: the table of types is the program's. Conditions: as each lemma states them.
-/
import Derived.Test.YtkcmapimcgppmaaGreatDoorJ17
import Derived.Test.YtkcmapimcgppmaaGreatDoorJ01
import Derived.Test.YtkcmapimcgppmaaGreatDoorJ09
import Derived.Test.YtkcmapimcgppmaaGreatDoorJ14
import Derived.Test.YtkcmapimcgppmaaGreatDoorJ08
set_option linter.all false
set_option linter.unusedVariables false
set_option linter.unusedSimpArgs false
set_option linter.unnecessarySimpa false
section
namespace Go.Proofs.YtkcmapimcgppmaaGreatDoor
open Go.RowKit

theorem Rd.whole {F : Nat → Nat → Option Value} {hi : Nat} {q : Option Addr} {n c sz m : Nat} {x s : Ds} (h : Rd F hi (.slice q n c) sz x s) (hs : s.len = m * sz) (hm : 0 < m) (hz : 0 < sz) : n + m ≤ c ∧ Rd F hi (.slice q (n + m) c) sz (x.app s) .nil := by
  obtain ⟨q', n', c', e1, h2, h3, h4, h5, h6⟩ := h
  cases e1
  have hle : n + m ≤ c := by
    rw [← h2, hs, ← Nat.add_mul] at h5
    exact Nat.le_of_mul_le_mul_right h5 hz
  refine ⟨hle, _, _, _, rfl, by rw [Ds.app_len, ← h2, hs, Nat.add_mul], hle, h4, by simp only [Ds.len]; rw [Ds.app_len]; omega, ?_⟩
  rcases h6 with ⟨rfl, rfl⟩ | ⟨-, h7, -⟩ | ⟨b, o, rfl, hl, ha, hs'⟩
  · omega
  · exfalso
    rw [h7] at hs
    have := Nat.mul_pos hm hz
    omega
  · exact .inr (.inr ⟨b, o, rfl, hl, At.app.2 ⟨ha, hs'⟩, trivial⟩)
theorem ptMarks_at (k n i : Nat) (h : i < n) : (ptMarks k n)[i]'(by rw [ptMarks_len]; exact h) = ptMark k i := by
  induction n with
  | zero => omega
  | succ n ih =>
    by_cases hi : i < n
    · have := ih hi
      simp only [ptMarks]
      rw [List.getElem_append_left (by rw [ptMarks_len]; exact hi)]
      exact this
    · obtain rfl : i = n := by omega
      simp only [ptMarks]
      rw [List.getElem_append_right (by rw [ptMarks_len]; exact Nat.le_refl _)]
      simp [ptMarks_len]

set_option maxHeartbeats 2000000 in
theorem keptParts_any (p : Lv) (va vb : Value) (w : World) (ha : Rd (U w) w.heap.size va 2 (ptDs p) (ptDs (ptMarks 1 12))) (hb : RP w vb p) (hn : p.length ≤ 2000000) : Calls Tryz.prog 183 #[va, vb] w fun e w' => e = .returned (.bool true) ∧ Below w.heap.size w w' := by
  obtain ⟨q, c, rfl, hc1, hc2, -⟩ := RP.slice (w := w) (p := p) ha.plain
  obtain ⟨q', c', rfl, hc3, hc4, -⟩ := hb.slice
  unfold maxLen at hc2 hc4
  obtain ⟨hc5, hall⟩ := ha.whole (m := 12) (by rw [ptDs_len, ptMarks_len]) (by decide) (by decide)
  rw [← ptDs_app] at hall
  have HA : Hid (RP w (.slice q (p.length + 12) c) (p ++ ptMarks 1 12)) := Lib.hid hall
  have HB := Lib.hid hb
  obtain ⟨n, hpn⟩ : ∃ n, p.length = n := ⟨_, rfl⟩
  have HN := Lib.hid hpn
  rw [hpn] at HA HB hc1 hc3 hc5 hn ⊢
  have hne : ((n : Int) != (n : Int)) = false := by simp
  clear ha hb hall hpn
  go_enter Tryz.func183, Tryz.ntmps183
  go_wp2_with fail
  clear hne
  go_loopw [6] (fun i wr => ∃ k : Nat, k ≤ n + 12 ∧ i = .int .i64 k ∧ Below w.heap.size w wr) (fun i _ => n + 12 - (intOf i).toNat)
  case atStart => exact ⟨0, Nat.zero_le _, rfl, Below.refl _ _⟩
  case round =>
    obtain ⟨k, hk, rfl, hB⟩ := hrel
    have HBB := Lib.hid hB
    clear hB
    by_cases hlt : k < n + 12
    · have r1 : decide ((k : Int) < (n : Int) + 12) = true := decide_eq_true (by omega)
      obtain ⟨b, o, rfl, hb1, hu1, hu2⟩ := (HA.out.on HBB.out).at_ (k := k) (by rw [List.length_append, ptMarks_len, HN.out]; exact hlt)
      by_cases hkn : k < n
      · have r2 : decide ((k : Int) < (n : Int)) = true := decide_eq_true (by omega)
        have r3 : decide ((n : Int) ≤ (k : Int)) = false := decide_eq_false (by omega)
        have r4 : decide (n ≤ k) = false := decide_eq_false (by omega)
        have i0 : (0 : Int) ≤ (k : Int) := by omega
        have i1 : (k : Int) < (n : Int) + 12 := by omega
        have i2 : (k : Int) < (n : Int) := by omega
        obtain ⟨b', o', rfl, hb2, hu3, hu4⟩ := (HB.out.on HBB.out).at_ (k := k) (by rw [HN.out]; exact hkn)
        have hg : (p ++ ptMarks 1 12)[k]'(by rw [List.length_append, ptMarks_len, HN.out]; exact hlt) = p[k]'(by rw [HN.out]; exact hkn) := List.getElem_append_left _
        rw [hg] at hu1 hu2
        have e1 := U_cell hu1
        have e2 := U_cell hu2
        have e3 := U_cell hu3
        have e4 := U_cell hu4
        obtain ⟨x, hx⟩ : ∃ x, (p[k]'(by rw [HN.out]; exact hkn)).1 = x := ⟨_, rfl⟩
        obtain ⟨y, hy⟩ : ∃ x, (p[k]'(by rw [HN.out]; exact hkn)).2 = x := ⟨_, rfl⟩
        rw [hx] at e1 e3
        rw [hy] at e2 e4
        clear hu1 hu2 hu3 hu4 hg hx hy
        go_wp2_with fail
        go_quiet (fail)
        go_wp2_with fail
        go_roundw
        case rel => exact ⟨k + 1, by omega, by go_num, below_step HBB.out (below_drewN wr _)⟩
        case measure => simp [intOf]; omega
      · have r2 : decide ((k : Int) < (n : Int)) = false := decide_eq_false (by omega)
        have r4 : decide (n ≤ k) = true := decide_eq_true (by omega)
        have i0 : (0 : Int) ≤ (k : Int) := by omega
        have i1 : (k : Int) < (n : Int) + 12 := by omega
        have hg : (p ++ ptMarks 1 12)[k]'(by rw [List.length_append, ptMarks_len, HN.out]; exact hlt) = ptMark 1 (k - n) := by
          rw [List.getElem_append_right (by rw [HN.out]; omega)]
          simp only [HN.out]
          exact ptMarks_at 1 12 (k - n) (by omega)
        rw [hg] at hu1 hu2
        obtain ⟨j, hj⟩ : ∃ j, k - n = j := ⟨_, rfl⟩
        rw [hj] at hu1 hu2
        have i2 : (k : Int) - (n : Int) = (j : Int) := by omega
        have HM : Hid (∀ W, Calls Tryz.prog 210 #[.int .i64 1, .int .i64 j] W fun e w' => e = .returned (.agg #[.int .i64 0, .int .i64 (mark 1 j)]) ∧ Below W.heap.size W w') := fun W => markPart_any 1 j W (by decide) (by omega)
        obtain ⟨m, hm⟩ : ∃ m, mark 1 j = m := ⟨_, rfl⟩
        rw [hm] at HM
        have e1 : ∀ n : Grown wr, n.it.cell? ⟨b, o + k * 2, none⟩ = some (.int .i64 0) := Grown.cell hu1
        have e2 : ∀ n : Grown wr, n.it.cell? ⟨b, o + k * 2 + 1, none⟩ = some (.int .i64 m) := by rw [← hm]; exact Grown.cell hu2
        clear hu1 hu2 hg hm hj
        go_wp2_with fail
        refine wp_region_calm (by kernel_rfl) (by kernel_rfl) ?_
        repeat (go_big_quiet_step (exact calm_of (HM.out _)))
        refine wpQuiet_nil ?_
        intro _ hw'
        obtain ⟨nq, hw''⟩ := hw'
        subst hw''
        have HNQ := Lib.hid nq.below
        clear e1 e2
        obtain ⟨wq, hwq⟩ : ∃ wq, nq.it = wq := ⟨_, rfl⟩
        rw [hwq] at HNQ ⊢
        clear hwq nq
        go_wp2_with fail
        go_roundw
        case rel => exact ⟨k + 1, by omega, by go_num, below_step HBB.out HNQ.out⟩
        case measure => simp [intOf]; omega
    · have r1 : decide ((k : Int) < (n : Int) + 12) = false := decide_eq_false (by omega)
      go_wp2_with fail
      go_ret
      exact ⟨rfl, HBB.out⟩
end Go.Proofs.YtkcmapimcgppmaaGreatDoor
end
section
namespace Go.Proofs.YtkcmapimcgppmaaGreatDoor
open Go.RowKit

set_option maxHeartbeats 2000000 in
theorem keptLevel_any (p : Lv) (q q' : Option Addr) (n n' c c' : Nat) (w : World) (ha : Rd (U w) w.heap.size (.slice q n c) 2 (ptDs p) (ptDs (ptMarks 1 12))) (hb : RP w (.slice q' n' c') p) (hn : p.length ≤ 2000000) :
    Calls Tryz.prog 104 #[.agg #[.slice q n c], .agg #[.slice q' n' c']] w fun e w' => e = .returned (.bool true) ∧ Below w.heap.size w w' := by
  obtain ⟨W0, hW0⟩ : ∃ W0, (w.alloc (.cells #[.slice q n c] 43)).alloc (.cells #[.slice q' n' c'] 43) = W0 := ⟨_, rfl⟩
  have hB0 : Below w.heap.size w W0 := by rw [← hW0]; exact below_step (below_alloc _ _) (below_alloc _ _)
  have c1 : U W0 w.heap.size 0 = some (.slice q n c) := by rw [← hW0]; exact U_below (below_alloc _ _) _ _ _ (by simp) (laid_cell rfl)
  have c2 : U W0 (w.heap.size + 1) 0 = some (.slice q' n' c') := by
    have := laid_cell (w := w.alloc (.cells #[.slice q n c] 43)) (cs := #[.slice q' n' c']) (ty := 43) (o := 0) rfl
    rw [World.size_alloc, hW0] at this
    exact this
  have HS : Hid (∀ W, Below w.heap.size w W → Calls Tryz.prog 127 #[.agg #[.slice q n c], .agg #[.slice q' n' c']] W fun e w' => e = .returned (.bool true) ∧ Below W.heap.size W w') := fun W hW => sameLevel_any p _ _ _ _ _ _ W (Rd.plain (ha.on hW)) (hb.on hW)
  have HK : Hid (∀ W, Below w.heap.size w W → Calls Tryz.prog 183 #[.slice q n c, .slice q' n' c'] W fun e w' => e = .returned (.bool true) ∧ Below W.heap.size W w') := fun W hW => keptParts_any p _ _ W (ha.on hW) (hb.on hW) hn
  have d1 := U_cell c1
  have d2 := U_cell c2
  have HB0 := Lib.hid hB0
  have C1 := Lib.hid c1
  have C2 := Lib.hid c2
  clear ha hb hn hB0 c1 c2
  go_enter Tryz.func104, Tryz.ntmps104
  go_wp2_with fail
  refine (HS.out _ HB0.out).mono ?_
  rintro e w1 ⟨rfl, hb1⟩
  have g1 := U_cell (U_below hb1 _ _ _ (U_lt C1.out) C1.out)
  have g2 := U_cell (U_below hb1 _ _ _ (U_lt C2.out) C2.out)
  have HB1 := Lib.hid (below_step HB0.out hb1)
  clear hb1 hW0 d1 d2
  go_wp2_with fail
  refine (HK.out _ HB1.out).mono ?_
  rintro e w2 ⟨rfl, hb2⟩
  have HB2 := Lib.hid (below_step HB1.out hb2)
  clear hb2
  go_wp2_with fail
  go_ret
  exact ⟨rfl, HB2.out⟩
theorem lvMarks_at (k n i : Nat) (h : i < n) : (lvMarks k n)[i]'(by rw [lvMarks_len]; exact h) = lvMark k i := by
  induction n with
  | zero => omega
  | succ n ih =>
    by_cases hi : i < n
    · have := ih hi
      simp only [lvMarks]
      rw [List.getElem_append_left (by rw [lvMarks_len]; exact hi)]
      exact this
    · obtain rfl : i = n := by omega
      simp only [lvMarks]
      rw [List.getElem_append_right (by rw [lvMarks_len]; exact Nat.le_refl _)]
      simp [lvMarks_len]
/-- With their marks they read as such with marks, without, as levels. -/
theorem Rd.lentLv_plain {w : World} {v : Value} {l : List Lv} {s : Ds} (h : Rd (U w) w.heap.size v 1 (lentLv ty l) s) : RL ty w v l := by
  have := h.strip
  rw [lentLv_strip] at this
  exact this

set_option maxHeartbeats 4000000 in
theorem keptLevels_any (l : List Lv) (va vb : Value) (w : World) (ha : Rd (U w) w.heap.size va 1 (lentLv ty l) (lvDs ty (lvMarks 1 12))) (hb : RL ty w vb l) (hs : lvSize l ≤ 2000000) : Calls Tryz.prog 67 #[va, vb] w fun e w' => e = .returned (.bool true) ∧ Below w.heap.size w w' := by
  obtain ⟨q, c, rfl, hc1, hc2, -⟩ := RL.slice (y := ty) (w := w) (l := l) ha.lentLv_plain
  obtain ⟨q', c', rfl, hc3, hc4, -⟩ := hb.slice
  unfold maxLen at hc2 hc4
  obtain ⟨hc5, hall⟩ := ha.whole (m := 12) (by rw [lvDs_len, lvMarks_len]) (by decide) (by decide)
  have HA := Lib.hid ha
  have HW := Lib.hid hall
  have HB := Lib.hid hb
  have HSZ := Lib.hid hs
  have hl : l.length ≤ 2000000 := by
    have : ∀ l : List Lv, l.length ≤ lvSize l := by
      intro l
      induction l with
      | nil => simp
      | cons a r ih => simp only [List.length_cons, lvSize]; omega
    have := this l
    omega
  obtain ⟨n, hpn⟩ : ∃ n, l.length = n := ⟨_, rfl⟩
  have HN := Lib.hid hpn
  rw [hpn] at HA HW HB hc1 hc3 hc5 hl ⊢
  have hne : ((n : Int) != (n : Int)) = false := by simp
  clear ha hb hall hpn hs
  go_enter Tryz.func67, Tryz.ntmps67
  go_wp2_with fail
  clear hne
  go_loopw [6] (fun i wr => ∃ k : Nat, k ≤ n + 12 ∧ i = .int .i64 k ∧ Below w.heap.size w wr) (fun i _ => n + 12 - (intOf i).toNat)
  case atStart => exact ⟨0, Nat.zero_le _, rfl, Below.refl _ _⟩
  case round =>
    obtain ⟨k, hk, rfl, hB⟩ := hrel
    have HBB := Lib.hid hB
    clear hB
    by_cases hlt : k < n + 12
    · have r1 : decide ((k : Int) < (n : Int) + 12) = true := decide_eq_true (by omega)
      have i0 : (0 : Int) ≤ (k : Int) := by omega
      have i1 : (k : Int) < (n : Int) + 12 := by omega
      by_cases hkn : k < n
      · have r2 : decide ((k : Int) < (n : Int)) = true := decide_eq_true (by omega)
        have r4 : decide (n ≤ k) = false := decide_eq_false (by omega)
        have i2 : (k : Int) < (n : Int) := by omega
        obtain ⟨b, o, rfl, hlb, hAt, -⟩ := Rd.lies (HA.out.on HBB.out) (by omega)
        obtain ⟨v, hv, hrv⟩ := lentLv_at hAt (k := k) (by rw [HN.out]; exact hkn)
        obtain ⟨r, m, d, rfl, -⟩ := Rd.slice hrv
        obtain ⟨b', o', rfl, hb2, r', d', hu2, -, -, hr2⟩ := (HB.out.on HBB.out).at_ (k := k) (by rw [HN.out]; exact hkn)
        have hsz := lvSize_at (l := l) (k := k) (by rw [HN.out]; exact hkn)
        obtain ⟨z, hz⟩ : ∃ z : Nat, (l[k]'(by rw [HN.out]; exact hkn)).length = z := ⟨_, rfl⟩
        rw [hz] at hu2 hr2 hsz
        have HK : Hid (∀ W : Grown wr, Calls Tryz.prog 104 #[.agg #[.slice r m d], .agg #[.slice r' z d']] W.it fun e w' => e = .returned (.bool true) ∧ Below W.it.heap.size W.it w') := fun W => keptLevel_any _ _ _ _ _ _ _ W.it (hrv.on W.below) (hr2.on W.below) (by rw [hz]; have := HSZ.out; omega)
        have e1 : ∀ n : Grown wr, n.it.cell? ⟨b, o + k, none⟩ = some (.slice r m d) := Grown.cell hv
        have e2 : ∀ n : Grown wr, n.it.cell? ⟨b', o' + k, none⟩ = some (.slice r' z d') := Grown.cell hu2
        clear hv hu2 hrv hr2 hAt hz hsz
        go_wp2_with fail
        refine wp_region_calm (by kernel_rfl) (by kernel_rfl) ?_
        repeat (go_big_quiet_step (exact calm_of (HK.out _)))
        refine wpQuiet_nil ?_
        intro _ hw'
        obtain ⟨nq, hw''⟩ := hw'
        subst hw''
        have HNQ := Lib.hid nq.below
        clear e1 e2
        obtain ⟨wq, hwq⟩ : ∃ wq, nq.it = wq := ⟨_, rfl⟩
        rw [hwq] at HNQ ⊢
        clear hwq nq
        go_wp2_with fail
        go_roundw
        case rel => exact ⟨k + 1, by omega, by go_num, below_step HBB.out HNQ.out⟩
        case measure => simp [intOf]; omega
      · have r2 : decide ((k : Int) < (n : Int)) = false := decide_eq_false (by omega)
        have r4 : decide (n ≤ k) = true := decide_eq_true (by omega)
        have r5 : decide (k < n) = false := decide_eq_false (by omega)
        have r6 : decide ((n : Int) ≤ (k : Int)) = true := decide_eq_true (by omega)
        obtain ⟨b, o, rfl, hlb, hAt, -⟩ := Rd.lies (HW.out.on HBB.out) (by omega)
        have hAt2 := (At.app.1 hAt).2
        obtain ⟨v, hv, hrv⟩ := lv_at hAt2 (k := k - n) (by rw [lvMarks_len]; omega)
        rw [lentLv_len, HN.out, lvMarks_at 1 12 (k - n) (by omega), show o + n + (k - n) = o + k by omega] at *
        obtain ⟨r, m, d, rfl, -⟩ := Rd.slice hrv
        obtain ⟨j, hj⟩ : ∃ j, k - n = j := ⟨_, rfl⟩
        rw [hj] at hrv
        have i2 : (k : Int) - (n : Int) = (j : Int) := by omega
        have HM : Hid (∀ W, Calls Tryz.prog 121 #[.int .i64 1, .int .i64 j] W fun e w' => ∃ r n d S, e = .returned (.agg #[.slice r n d]) ∧ Below W.heap.size W w' ∧ Own w' W.heap.size (lvDs ty [lvMark 1 j]) [.slice r n d] S ∧ S.Nodup) := fun W => (markLevel_any 1 j W (by decide) (by omega)).mono fun _ _ h => Makes.one h
        have e1 : ∀ n : Grown wr, n.it.cell? ⟨b, o + k, none⟩ = some (.slice r m d) := Grown.cell hv
        have HS : Hid (∀ W r' n' d' S, Below wr.heap.size wr W → Own W wr.heap.size (lvDs ty [lvMark 1 j]) [.slice r' n' d'] S → Calls Tryz.prog 127 #[.agg #[.slice r m d], .agg #[.slice r' n' d']] W fun e w' => e = .returned (.bool true) ∧ Below W.heap.size W w') := fun W r' n' d' S hW ho => by
          obtain ⟨v', ys, e2, h2, -⟩ := ho.vs
          cases e2
          exact sameLevel_any _ _ _ _ _ _ _ W (hrv.on hW) h2
        clear hv hrv hAt hAt2 hj
        go_wp2_with fail
        refine wp_region_take_lit 30 (by decide) (by kernel_rfl) (by kernel_rfl) (by kernel_rfl) (fun _ _ d _ _ h => by cases d <;> exact h) ?_
        simp only [List.take_succ_cons, List.take_zero, List.map_cons, List.map_nil, bar, readKind, List.size_toArray, List.length_cons, List.length_nil, Nat.zero_add, Nat.reduceAdd, if_true, if_false, Bool.false_eq_true]
        repeat (go_big_quiet_step (fail))
        refine wpQuiet_nil ?_
        clear e1
        refine tail_step (i := 30) (fuel := 4) (by kernel_rfl) rfl (by rfl) (fun K' hK => ?_)
        go_simp
        refine (HM.out _).mono ?_
        rintro e wx ⟨r', n', d', S, rfl, hbx, hox, -⟩
        have hBx : Below wr.heap.size wr wx := below_step (below_drew wr) hbx
        refine hK.out _ _ ⟨⟨wx, hBx⟩, rfl⟩ (fun _ => ?_)
        clear hK K'
        refine tail_step (i := 31) (fuel := 3) (by kernel_rfl) rfl (by rfl) (fun K' hK => ?_)
        go_simp
        refine (HS.out _ _ _ _ _ hBx (hox.lower (by simp))).mono ?_
        rintro e wy ⟨rfl, hby⟩
        have hBy : Below wr.heap.size wr wy := below_step hBx hby
        refine hK.out _ _ ⟨⟨wy, hBy⟩, rfl⟩ (fun _ => ?_)
        clear hK K'
        refine tail_step (i := 32) (fuel := 2) (by kernel_rfl) rfl (by rfl) (fun K' hK => ?_)
        go_simp
        refine hK.out _ _ ⟨⟨wy, hBy⟩, rfl⟩ (fun _ => ?_)
        clear hK K'
        refine tail_step (i := 33) (fuel := 1) (by kernel_rfl) rfl (by rfl) (fun K' hK => ?_)
        go_simp
        refine hK.out _ _ ⟨⟨wy, hBy⟩, rfl⟩ (fun _ => ?_)
        clear hK K'
        refine tail_step (i := 34) (fuel := 0) (by kernel_rfl) rfl (by rfl) (fun K' hK => ?_)
        go_simp
        refine hK.out _ _ ⟨⟨wy, hBy⟩, rfl⟩ (fun _ => ?_)
        clear hK K'
        refine wpAnyH_done (by kernel_rfl) ?_ _
        have HNQ := Lib.hid hBy
        clear hBy hBx hby hbx hox
        go_wp2_with fail
        go_roundw
        case rel => exact ⟨k + 1, by omega, by go_num, below_step HBB.out HNQ.out⟩
        case measure => simp [intOf]; omega
    · have r1 : decide ((k : Int) < (n : Int) + 12) = false := decide_eq_false (by omega)
      go_wp2_with fail
      go_ret
      exact ⟨rfl, HBB.out⟩
end Go.Proofs.YtkcmapimcgppmaaGreatDoor
end
section
namespace Go.Proofs.YtkcmapimcgppmaaGreatDoor
open Go.RowKit

theorem Rd.lentT_plain {w : World} {v : Value} {t : Ts} {s : Ds} (h : Rd (U w) w.heap.size v 5 (lentT ty t) s) : RT ty w v t := by
  have := h.strip
  rw [lentT_strip] at this
  exact this
theorem Rd.lentL_plain {w : World} {v : Value} {l : List Lv} {s : Ds} (h : Rd (U w) w.heap.size v 1 (lentLv ty l) s) : RL ty w v l := by
  have := h.strip
  rw [lentLv_strip] at this
  exact this
/-- What KeptLevels tells, asked of it. -/
def KeptL (l : List Lv) : Prop := ∀ (va vb : Value) (w : World), Rd (U w) w.heap.size va 1 (lentLv ty l) (lvDs ty (lvMarks 1 12)) → RL ty w vb l → Calls Tryz.prog 67 #[va, vb] w fun e w' => e = .returned (.bool true) ∧ Below w.heap.size w w'
/-- One term with marks, as a value. -/
def RLent (w : World) (v : Value) (h : Hd) (x : Ts) : Prop :=
  ∃ q n c r m d, v = .agg #[.int .i64 h.k, .int .i64 h.n, .int .i64 h.a, .slice q n c, .slice r m d] ∧ Rd (U w) w.heap.size (.slice q n c) 1 (lentLv ty h.l) (lvDs ty (lvMarks 1 12)) ∧ Rd (U w) w.heap.size (.slice r m d) 5 (lentT ty x) (tDs ty (tMarks 1 12))
theorem RLent.on {w w' : World} {v : Value} {h : Hd} {x : Ts} (hm : RLent w v h x) (hb : Below w.heap.size w w') : RLent w' v h x := by
  obtain ⟨q, n, c, r, m, d, e1, h1, h2⟩ := hm
  exact ⟨q, n, c, r, m, d, e1, h1.on hb, h2.on hb⟩

set_option maxHeartbeats 2000000 in
theorem keptTerm_of (h : Hd) (x : Ts) (va vb : Value) (w : World) (ha : RLent w va h x) (hb : RM ty w vb h x) (hkl : KeptL h.l)
    (hk : ∀ W v v', Rd (U W) W.heap.size v 5 (lentT ty x) (tDs ty (tMarks 1 12)) → RT ty W v' x → Calls Tryz.prog 22 #[v, v'] W fun e w' => e = .returned (.bool true) ∧ Below W.heap.size W w') :
    Calls Tryz.prog 23 #[va, vb] w fun e w' => e = .returned (.bool true) ∧ Below w.heap.size w w' := by
  obtain ⟨q, n, c, r, m, d, rfl, hl, hx⟩ := ha
  obtain ⟨q', n', c', r', m', d', rfl, hl', hx'⟩ := hb
  obtain ⟨k0, hk0⟩ : ∃ k, h.k = k := ⟨_, rfl⟩
  obtain ⟨n0, hn0⟩ : ∃ k, h.n = k := ⟨_, rfl⟩
  obtain ⟨a0, ha0⟩ : ∃ k, h.a = k := ⟨_, rfl⟩
  have H16 : Hid (∀ W, Below w.heap.size w W → Calls Tryz.prog 16 #[.agg #[.int .i64 h.k, .int .i64 h.n, .int .i64 h.a, .slice q n c, .slice r m d], .agg #[.int .i64 h.k, .int .i64 h.n, .int .i64 h.a, .slice q' n' c', .slice r' m' d']] W fun e w' => e = .returned (.bool true) ∧ Below W.heap.size W w') := fun W hW =>
    sameTerm_any h x _ _ W ⟨_, _, _, _, _, _, rfl, (hl.lentL_plain).on hW, (hx.lentT_plain).on hW⟩ ⟨_, _, _, _, _, _, rfl, hl'.on hW, hx'.on hW⟩
  have H67 : Hid (∀ W, Below w.heap.size w W → Calls Tryz.prog 67 #[.slice q n c, .slice q' n' c'] W fun e w' => e = .returned (.bool true) ∧ Below W.heap.size W w') := fun W hW => hkl _ _ W (hl.on hW) (hl'.on hW)
  have H22 : Hid (∀ W, Below w.heap.size w W → Calls Tryz.prog 22 #[.slice r m d, .slice r' m' d'] W fun e w' => e = .returned (.bool true) ∧ Below W.heap.size W w') := fun W hW => hk W _ _ (hx.on hW) (hx'.on hW)
  rw [hk0, hn0, ha0] at H16 ⊢
  obtain ⟨W0, hW0⟩ : ∃ W0, (w.alloc (.cells #[.int .i64 k0, .int .i64 n0, .int .i64 a0, .slice q n c, .slice r m d] 26)).alloc (.cells #[.int .i64 k0, .int .i64 n0, .int .i64 a0, .slice q' n' c', .slice r' m' d'] 26) = W0 := ⟨_, rfl⟩
  have hB0 : Below w.heap.size w W0 := by rw [← hW0]; exact below_step (below_alloc _ _) (below_alloc _ _)
  have p1 : ∀ o v, (#[.int .i64 k0, .int .i64 n0, .int .i64 a0, .slice q n c, .slice r m d] : Array Value)[o]? = some v → U W0 w.heap.size o = some v := fun o v hv => by
    rw [← hW0]; exact U_below (below_alloc _ _) _ _ _ (by simp) (laid_cell hv)
  have p2 : ∀ o v, (#[.int .i64 k0, .int .i64 n0, .int .i64 a0, .slice q' n' c', .slice r' m' d'] : Array Value)[o]? = some v → U W0 (w.heap.size + 1) o = some v := fun o v hv => by
    have := laid_cell (w := w.alloc (.cells #[.int .i64 k0, .int .i64 n0, .int .i64 a0, .slice q n c, .slice r m d] 26)) (ty := 26) hv
    rw [World.size_alloc, hW0] at this
    exact this
  have c0 := U_cell (p1 0 _ rfl)
  have c1 := U_cell (p1 1 _ rfl)
  have c2 := U_cell (p1 2 _ rfl)
  have c3 := U_cell (p1 3 _ rfl)
  have c4 := U_cell (p1 4 _ rfl)
  have d0 := U_cell (p2 0 _ rfl)
  have d1 := U_cell (p2 1 _ rfl)
  have d2 := U_cell (p2 2 _ rfl)
  have d3 := U_cell (p2 3 _ rfl)
  have d4 := U_cell (p2 4 _ rfl)
  have HB0 := Lib.hid hB0
  have P1 := Lib.hid p1
  have P2 := Lib.hid p2
  clear hl hl' hx hx' hk hkl hk0 hn0 ha0 hB0 p1 p2
  go_enter Tryz.func23, Tryz.ntmps23
  go_wp2_with fail
  refine (H16.out _ HB0.out).mono ?_
  rintro e w1 ⟨rfl, hb1⟩
  have f3 := U_cell (U_below hb1 _ _ _ (U_lt (P1.out 3 _ rfl)) (P1.out 3 _ rfl))
  have f4 := U_cell (U_below hb1 _ _ _ (U_lt (P2.out 3 _ rfl)) (P2.out 3 _ rfl))
  have Q1 : Hid (U w1 w.heap.size 4 = some (.slice r m d)) := Lib.hid (U_below hb1 _ _ _ (U_lt (P1.out 4 _ rfl)) (P1.out 4 _ rfl))
  have Q2 : Hid (U w1 (w.heap.size + 1) 4 = some (.slice r' m' d')) := Lib.hid (U_below hb1 _ _ _ (U_lt (P2.out 4 _ rfl)) (P2.out 4 _ rfl))
  have HB1 := Lib.hid (below_step HB0.out hb1)
  clear hb1 hW0 c0 c1 c2 c3 c4 d0 d1 d2 d3 d4
  go_wp2_with fail
  refine (H67.out _ HB1.out).mono ?_
  rintro e w2 ⟨rfl, hb2⟩
  have g3 := U_cell (U_below hb2 _ _ _ (U_lt Q1.out) Q1.out)
  have g4 := U_cell (U_below hb2 _ _ _ (U_lt Q2.out) Q2.out)
  have HB2 := Lib.hid (below_step HB1.out hb2)
  clear hb2 f3 f4
  go_wp2_with fail
  refine (H22.out _ HB2.out).mono ?_
  rintro e w3 ⟨rfl, hb3⟩
  have HB3 := Lib.hid (below_step HB2.out hb3)
  clear hb3
  go_wp2_with fail
  go_ret
  exact ⟨rfl, HB3.out⟩

theorem tMarks_at (k n i : Nat) (h : i < n) : (tMarks k n).hd i = tMark k i ∧ (tMarks k n).kd i = .nil := by
  induction n with
  | zero => omega
  | succ n ih =>
    have key : ∀ (x : Ts) (h : Hd) (i : Nat), (i < x.len → (x.snoc h .nil).hd i = x.hd i ∧ (x.snoc h .nil).kd i = x.kd i) ∧ (i = x.len → (x.snoc h .nil).hd i = h ∧ (x.snoc h .nil).kd i = .nil) := by
      intro x h
      induction x with
      | nil => intro i; exact ⟨fun hi => by simp [Ts.len] at hi, fun hi => by subst hi; exact ⟨rfl, rfl⟩⟩
      | cons w y r _ ihr =>
        intro i
        cases i with
        | zero => exact ⟨fun _ => ⟨rfl, rfl⟩, fun hi => by simp [Ts.len] at hi⟩
        | succ i => exact ⟨fun hi => (ihr i).1 (by simp [Ts.len] at hi; omega), fun hi => (ihr i).2 (by simp [Ts.len] at hi; omega)⟩
    by_cases hi : i < n
    · have := (key (tMarks k n) (tMark k n) i).1 (by rw [tMarks_len]; exact hi)
      exact ⟨this.1.trans (ih hi).1, this.2.trans (ih hi).2⟩
    · obtain rfl : i = n := by omega
      exact (key (tMarks k i) (tMark k i) i).2 (tMarks_len k i).symm

set_option maxHeartbeats 4000000 in
theorem keptTerms_of (hkl : ∀ l, lvSize l ≤ 2000000 → KeptL l) (M : Nat) : ∀ (t : Ts) (va vb : Value) (w : World), t.count < M → Rd (U w) w.heap.size va 5 (lentT ty t) (tDs ty (tMarks 1 12)) → RT ty w vb t → t.size ≤ 2000000 →
    Calls Tryz.prog 22 #[va, vb] w fun e w' => e = .returned (.bool true) ∧ Below w.heap.size w w' := by
  induction M with
  | zero => intro t va vb w hm; omega
  | succ M ih =>
    intro t va vb w hm ha hb hs
    obtain ⟨q, c, rfl, hc1, hc2, -⟩ := RT.slice (y := ty) (w := w) (t := t) ha.lentT_plain
    obtain ⟨q', c', rfl, hc3, hc4, -⟩ := hb.slice
    unfold maxLen at hc2 hc4
    obtain ⟨hc5, hall⟩ := ha.whole (m := 12) (by rw [tDs_len, tMarks_len]) (by decide) (by decide)
    have HA := Lib.hid ha
    have HW := Lib.hid hall
    have HB := Lib.hid hb
    have HSZ := Lib.hid hs
    have IH := Lib.hid ih
    have HM := Lib.hid hm
    have HKL := Lib.hid hkl
    have hl : t.len ≤ 2000000 := by have := Ts.len_le_size t; omega
    obtain ⟨n, hpn⟩ : ∃ n, t.len = n := ⟨_, rfl⟩
    have HN := Lib.hid hpn
    rw [hpn] at HA HW HB hc1 hc3 hc5 hl ⊢
    have hne : ((n : Int) != (n : Int)) = false := by simp
    clear ha hb hall hpn hs ih hm hkl
    go_enter Tryz.func22, Tryz.ntmps22
    go_wp2_with fail
    clear hne
    go_loopw [6] (fun i wr => ∃ k : Nat, k ≤ n + 12 ∧ i = .int .i64 k ∧ Below w.heap.size w wr) (fun i _ => n + 12 - (intOf i).toNat)
    case atStart => exact ⟨0, Nat.zero_le _, rfl, Below.refl _ _⟩
    case round =>
      obtain ⟨k, hk, rfl, hB⟩ := hrel
      have HBB := Lib.hid hB
      clear hB
      by_cases hlt : k < n + 12
      · have r1 : decide ((k : Int) < (n : Int) + 12) = true := decide_eq_true (by omega)
        have i0 : (0 : Int) ≤ (k : Int) := by omega
        have i1 : (k : Int) < (n : Int) + 12 := by omega
        by_cases hkn : k < n
        · have r2 : decide ((k : Int) < (n : Int)) = true := decide_eq_true (by omega)
          have r4 : decide (n ≤ k) = false := decide_eq_false (by omega)
          have i2 : (k : Int) < (n : Int) := by omega
          have hkt : k < t.len := by rw [HN.out]; exact hkn
          obtain ⟨b, o, rfl, hlb, hAt, -⟩ := Rd.lies (HA.out.on HBB.out) (by omega)
          obtain ⟨h1, h2, h3, ⟨v, h4, hrv⟩, ⟨v', h5, hrv'⟩⟩ := lentT_at hAt (k := k) hkt
          obtain ⟨r, m, d, rfl, -⟩ := Rd.slice hrv
          obtain ⟨s, p, f, rfl, -⟩ := Rd.slice hrv'
          obtain ⟨b', o', rfl, hb2, u1, u2, u3, ⟨r', d', u4, -, -, hr2⟩, ⟨s', f', u5, -, -, hs2⟩⟩ := (HB.out.on HBB.out).at_ hkt
          have hsz := Ts.size_kd hkt
          have hcnt := Ts.count_kd hkt
          have HK : Hid (∀ W : Grown wr, Calls Tryz.prog 23 #[.agg #[.int .i64 (t.hd k).k, .int .i64 (t.hd k).n, .int .i64 (t.hd k).a, .slice r m d, .slice s p f], .agg #[.int .i64 (t.hd k).k, .int .i64 (t.hd k).n, .int .i64 (t.hd k).a, .slice r' (t.hd k).l.length d', .slice s' (t.kd k).len f']] W.it fun e w' => e = .returned (.bool true) ∧ Below W.it.heap.size W.it w') := fun W =>
            keptTerm_of (t.hd k) (t.kd k) _ _ W.it ⟨_, _, _, _, _, _, rfl, hrv.on W.below, hrv'.on W.below⟩ ⟨_, _, _, _, _, _, rfl, hr2.on W.below, hs2.on W.below⟩ (HKL.out _ (by have := HSZ.out; omega)) (fun W' v v' g1 g2 => IH.out (t.kd k) v v' W' (by have := HM.out; omega) g1 g2 (by have := HSZ.out; omega))
          obtain ⟨z1, hz1⟩ : ∃ z, (t.hd k).l.length = z := ⟨_, rfl⟩
          obtain ⟨z2, hz2⟩ : ∃ z, (t.kd k).len = z := ⟨_, rfl⟩
          obtain ⟨x1, hx1⟩ : ∃ z, (t.hd k).k = z := ⟨_, rfl⟩
          obtain ⟨x2, hx2⟩ : ∃ z, (t.hd k).n = z := ⟨_, rfl⟩
          obtain ⟨x3, hx3⟩ : ∃ z, (t.hd k).a = z := ⟨_, rfl⟩
          rw [hz1] at u4 HK
          rw [hz2] at u5 HK
          rw [hx1] at h1 u1 HK
          rw [hx2] at h2 u2 HK
          rw [hx3] at h3 u3 HK
          have e1 := Grown.cell h1
          have e2 := Grown.cell h2
          have e3 := Grown.cell h3
          have e4 := Grown.cell h4
          have e5 := Grown.cell h5
          have f1 := Grown.cell u1
          have f2 := Grown.cell u2
          have f3 := Grown.cell u3
          have f4 := Grown.cell u4
          have f5 := Grown.cell u5
          clear h1 h2 h3 h4 h5 u1 u2 u3 u4 u5 hrv hrv' hr2 hs2 hAt hz1 hz2 hx1 hx2 hx3 hsz hcnt hkt
          go_wp2_with fail
          refine wp_region_calm (by kernel_rfl) (by kernel_rfl) ?_
          repeat (go_big_quiet_step (exact calm_of (HK.out _)))
          refine wpQuiet_nil ?_
          intro _ hw'
          obtain ⟨nq, hw''⟩ := hw'
          subst hw''
          have HNQ := Lib.hid nq.below
          clear e1 e2 e3 e4 e5 f1 f2 f3 f4 f5
          obtain ⟨wq, hwq⟩ : ∃ wq, nq.it = wq := ⟨_, rfl⟩
          rw [hwq] at HNQ ⊢
          clear hwq nq
          go_wp2_with fail
          go_roundw
          case rel => exact ⟨k + 1, by omega, by go_num, below_step HBB.out HNQ.out⟩
          case measure => simp [intOf]; omega
        · have r2 : decide ((k : Int) < (n : Int)) = false := decide_eq_false (by omega)
          have r4 : decide (n ≤ k) = true := decide_eq_true (by omega)
          obtain ⟨b, o, rfl, hlb, hAt, -⟩ := Rd.lies (HW.out.on HBB.out) (by omega)
          have hAt2 := (At.app.1 hAt).2
          have hoff : o + (lentT ty t).len + (k - n) * 5 = o + k * 5 := by rw [lentT_len, HN.out]; omega
          obtain ⟨h1, h2, h3, ⟨v, h4, hrv⟩, ⟨v', h5, hrv'⟩⟩ := t_at hAt2 (k := k - n) (by rw [tMarks_len]; omega)
          rw [hoff] at h1 h2 h3 h4 h5
          obtain ⟨g1, g2⟩ := tMarks_at 1 12 (k - n) (by omega)
          rw [g1] at h1 h2 h3 hrv
          rw [g2] at hrv'
          obtain ⟨r, m, d, rfl, -⟩ := Rd.slice hrv
          obtain ⟨s, p, f, rfl, -⟩ := Rd.slice hrv'
          obtain ⟨j, hj⟩ : ∃ j, k - n = j := ⟨_, rfl⟩
          rw [hj] at h2
          have i2 : (k : Int) - (n : Int) = (j : Int) := by omega
          obtain ⟨x, hx⟩ : ∃ x, mark 1 j = x := ⟨_, rfl⟩
          have HM1 : Hid (∀ W : Grown wr, Calls Tryz.prog 54 #[.int .i64 1, .int .i64 j] W.it fun e w' => e = .returned (.agg #[.int .i64 0, .int .i64 x, .int .i64 0, .slice none 0 0, .slice none 0 0]) ∧ Below W.it.heap.size W.it w') := fun W => by rw [← hx]; exact markTerm_any 1 j W.it (by decide) (by omega)
          have h2' : U wr b (o + k * 5 + 1) = some (.int .i64 x) := by rw [← hx]; exact h2
          have h1' : U wr b (o + k * 5) = some (.int .i64 0) := h1
          have h3' : U wr b (o + k * 5 + 2) = some (.int .i64 0) := h3
          have HS : Hid (∀ W : Grown wr, Calls Tryz.prog 16 #[.agg #[.int .i64 0, .int .i64 x, .int .i64 0, .slice r m d, .slice s p f], .agg #[.int .i64 0, .int .i64 x, .int .i64 0, .slice none 0 0, .slice none 0 0]] W.it fun e w' => e = .returned (.bool true) ∧ Below W.it.heap.size W.it w') := fun W =>
            sameTerm_any ⟨0, x, 0, []⟩ .nil _ _ W.it ⟨_, _, _, _, _, _, rfl, Rd.on hrv W.below, Rd.on hrv' W.below⟩ ⟨_, _, _, _, _, _, rfl, Rd.none_ _ _ _, Rd.none_ _ _ _⟩
          have e1 := Grown.cell h1'
          have e2 := Grown.cell h2'
          have e3 := Grown.cell h3'
          have e4 := Grown.cell h4
          have e5 := Grown.cell h5
          clear h1 h2 h3 h4 h5 h1' h2' h3' hrv hrv' hAt hAt2 hoff g1 g2 hj hx
          go_wp2_with fail
          refine wp_region_calm (by kernel_rfl) (by kernel_rfl) ?_
          repeat (go_big_quiet_step (first | (exact calm_of (HM1.out _)) | (exact calm_of (HS.out _))))
          refine wpQuiet_nil ?_
          intro _ hw'
          obtain ⟨nq, hw''⟩ := hw'
          subst hw''
          have HNQ := Lib.hid nq.below
          clear e1 e2 e3 e4 e5
          obtain ⟨wq, hwq⟩ : ∃ wq, nq.it = wq := ⟨_, rfl⟩
          rw [hwq] at HNQ ⊢
          clear hwq nq
          go_wp2_with fail
          go_roundw
          case rel => exact ⟨k + 1, by omega, by go_num, below_step HBB.out HNQ.out⟩
          case measure => simp [intOf]; omega
      · have r1 : decide ((k : Int) < (n : Int) + 12) = false := decide_eq_false (by omega)
        go_wp2_with fail
        go_ret
        exact ⟨rfl, HBB.out⟩
end Go.Proofs.YtkcmapimcgppmaaGreatDoor
end
section
namespace Go.Proofs.YtkcmapimcgppmaaGreatDoor
open Go.RowKit

theorem keptL_all (l : List Lv) (hs : lvSize l ≤ 2000000) : KeptL l := fun va vb w ha hb => keptLevels_any l va vb w ha hb hs
theorem keptTerms_any (t : Ts) (va vb : Value) (w : World) (ha : Rd (U w) w.heap.size va 5 (lentT ty t) (tDs ty (tMarks 1 12))) (hb : RT ty w vb t) (hs : t.size ≤ 2000000) :
    Calls Tryz.prog 22 #[va, vb] w fun e w' => e = .returned (.bool true) ∧ Below w.heap.size w w' := keptTerms_of keptL_all _ t va vb w (Nat.lt_succ_self _) ha hb hs
theorem keptTerm_any (h : Hd) (x : Ts) (va vb : Value) (w : World) (ha : RLent w va h x) (hb : RM ty w vb h x) (hs : lvSize h.l + x.size ≤ 2000000) :
    Calls Tryz.prog 23 #[va, vb] w fun e w' => e = .returned (.bool true) ∧ Below w.heap.size w w' := keptTerm_of h x va vb w ha hb (keptL_all _ (by omega)) fun W v v' h1 h2 => keptTerms_any x v v' W h1 h2 (by omega)
end Go.Proofs.YtkcmapimcgppmaaGreatDoor
end
section
namespace Go.Proofs.YtkcmapimcgppmaaGreatDoor
open Go.RowKit

/-- What the cells hold but of some blocks. -/
def Fl (S : List Nat) (w : World) (b o : Nat) : Option Value := if b ∈ S then none else U w b o
theorem Fl_U {S : List Nat} {w : World} {b o : Nat} {v : Value} (h : Fl S w b o = some v) : U w b o = some v := by
  unfold Fl at h; split at h
  · cases h
  · exact h
theorem Fl_ne {S : List Nat} {w : World} {b o : Nat} {v : Value} (h : Fl S w b o = some v) : b ∉ S := by
  unfold Fl at h; split at h
  · cases h
  · assumption
theorem Fl_mk {S : List Nat} {w : World} {b o : Nat} {v : Value} (h : U w b o = some v) (hb : b ∉ S) : Fl S w b o = some v := by
  unfold Fl; rw [if_neg hb]; exact h
/-- Between two rounds: the variable x. -/
def XAt (S : List Nat) (g : Nat) (t : Tm) (W : World) : Prop := g < W.heap.size ∧ ∃ q n c r m d, RMx (Fl S W) W.heap.size (.agg #[.int .i64 t.h.k, .int .i64 t.h.n, .int .i64 t.h.a, .slice q n c, .slice r m d]) t.h t.x ∧ ∀ o u, (#[.int .i64 t.h.k, .int .i64 t.h.n, .int .i64 t.h.a, .slice q n c, .slice r m d] : Array Value)[o]? = some u → U W g o = some u
theorem XAt.keep {S : List Nat} {g : Nat} {t : Tm} {W W' : World} (h : XAt S g t W) (hk : ∀ b, b < W.heap.size → b ∉ S ∨ b = g → W'.heap[b]? = W.heap[b]?) (hs : W.heap.size ≤ W'.heap.size) : XAt S g t W' := by
  obtain ⟨h1, q, n, c, r, m, d, h2, h3⟩ := h
  exact ⟨Nat.lt_of_lt_of_le h1 hs, q, n, c, r, m, d, h2.mono (fun b o v hb hv => Fl_mk ((U_block (hk b hb (.inl (Fl_ne hv))) o).trans (Fl_U hv)) (Fl_ne hv)) hs, fun o u hu => (U_block (hk g h1 (.inr rfl)) o).trans (h3 o u hu)⟩
theorem XAt.on {S : List Nat} {g : Nat} {t : Tm} {W W' : World} (h : XAt S g t W) (hb : Below W.heap.size W W') : XAt S g t W' := h.keep (fun b hb' _ => hb.block b hb') hb.size
/-- A block laid of its five cells is a row of it alone. -/
theorem XAt.row {F : Nat → Nat → Option Value} {T : Tm} {W wa : World} {q1 q2 : Option Addr} {n1 c1 n2 c2 : Nat} (hRM : RMx F W.heap.size (.agg #[.int .i64 T.h.k, .int .i64 T.h.n, .int .i64 T.h.a, .slice q1 n1 c1, .slice q2 n2 c2]) T.h T.x) (hF : ∀ b o v, F b o = some v → U W b o = some v)
    (hwa : W.alloc (.cells #[.int .i64 T.h.k, .int .i64 T.h.n, .int .i64 T.h.a, .slice q1 n1 c1, .slice q2 n2 c2] 26) = wa) : RT ty wa (.slice (some ⟨W.heap.size, 0, none⟩) 1 1) T.ts ∧ Below W.heap.size W wa ∧ wa.heap.size = W.heap.size + 1 := by
  have hba : Below W.heap.size W wa := by rw [← hwa]; exact below_alloc _ _
  have hsa : wa.heap.size = W.heap.size + 1 := by rw [← hwa]; simp
  obtain ⟨v3, v4, e, hv⟩ := (hRM.mono (F' := U wa) (hi' := wa.heap.size) (fun b o v hb hv => U_below hba _ _ _ hb (hF _ _ _ hv)) hba.size).cells
  injection e with e
  rw [← show [Value.int .i64 T.h.k, .int .i64 T.h.n, .int .i64 T.h.a, .slice q1 n1 c1, .slice q2 n2 c2] = [.int .i64 T.h.k, .int .i64 T.h.n, .int .i64 T.h.a, v3, v4] from congrArg Array.toList e] at hv
  exact ⟨RT.block (n := 1) (fun i u hu => by rw [← hwa]; exact laid_cell (by simpa using hu)) (by omega) hv rfl (by decide), hba, hsa⟩

set_option maxRecDepth 100000 in
set_option maxHeartbeats 4000000 in
theorem parts_any (t : Tm) (va : Value) (n : Int) (w : World) (ha : RM ty w va t.h t.x) (hf : t.h.fits) (hxf : t.x.fits) (hs : lvSize t.h.l + t.x.size ≤ 1000000) (hn : n ≤ 12) (hKA : KA w) : Calls Tryz.prog 15 #[va, .int .i64 n] w (MakesV (.row 5 26 (tDs ty (partsT n.toNat t)) .nil .nil) w) := by
  obtain ⟨q, c, r, m, rfl, -, -, -, -, hl, hx⟩ := ha.agg
  by_cases h0 : n ≤ 0
  · have r1 : decide (1 < n) = false := decide_eq_false (by omega)
    have r2 : (n == 1) = false := by simp; omega
    rw [show n.toNat = 0 by omega]
    clear ha hl hx hf hxf hs hKA
    go_enter Tryz.func15, Tryz.ntmps15
    go_wp2_with fail
    go_loopw [1, 4] (fun i v wr => i = .int .i64 n ∧ v = .slice none 0 0 ∧ Below w.heap.size w wr) (fun _ _ _ => 0)
    case atStart => exact ⟨rfl, rfl, below_alloc _ _⟩
    case round =>
      obtain ⟨rfl, rfl, hb⟩ := hrel
      have HB := Lib.hid hb
      clear hb
      go_wp2_with fail
      go_ret
      exact ⟨_, _, rfl, HB.out, (RowG.nil wr w.heap.size 5 26).own, by simp [Value.ownBlock]⟩
  · obtain ⟨N, rfl⟩ : ∃ N : Nat, n = (N : Int) + 1 := ⟨(n - 1).toNat, by omega⟩
    rw [show ((N : Int) + 1).toNat = N + 1 by omega]
    obtain ⟨w2, hw2⟩ : ∃ w2, w.alloc (.cells #[.int .i64 t.h.k, .int .i64 t.h.n, .int .i64 t.h.a, .slice q t.h.l.length c, .slice r t.x.len m] 26) = w2 := ⟨_, rfl⟩
    have hb2 : Below w.heap.size w w2 := by rw [← hw2]; exact below_alloc _ _
    have hs2 : w2.heap.size = w.heap.size + 1 := by rw [← hw2]; simp
    have hX : XAt [w.heap.size] w.heap.size t w2 := ⟨by omega, q, _, c, r, _, m, ⟨_, _, _, _, _, _, rfl, Rd.mono hl (fun b o v hb hv => Fl_mk (U_below hb2 _ _ _ hb hv) (by simp; omega)) hb2.size, Rd.mono hx (fun b o v hb hv => Fl_mk (U_below hb2 _ _ _ hb hv) (by simp; omega)) hb2.size⟩, fun o u hu => by rw [← hw2]; exact laid_cell hu⟩
    have HX := Lib.hid hX
    have HB2 := Lib.hid hb2
    have HS2 := Lib.hid hs2
    have HF := Lib.hid (fun j => sndN_fits hf hxf j)
    have HSZ := Lib.hid (fun j => sndN_size t j)
    have HKA := Lib.hid hKA
    have HS := Lib.hid hs
    clear ha hl hx hf hxf hs hKA hb2 hs2 hX
    go_enter Tryz.func15, Tryz.ntmps15
    go_wp2_with fail
    go_loopw [1, 4] (fun i v wr => ∃ (j : Nat) (S : List Nat), j ≤ N ∧ i = .int .i64 ((N : Int) + 1 - j) ∧ Below w.heap.size w wr ∧ XAt (w.heap.size :: v.ownBlock.toList) w.heap.size (sndN j t) wr ∧ RowG wr (w.heap.size + 1) 5 26 v j (tDs ty (fsts j t)) S) (fun i _ _ => (intOf i).toNat)
    case atStart => exact ⟨0, [], Nat.zero_le _, by simp, HB2.out, HX.out, RowG.nil _ _ _ _⟩
    case round =>
      obtain ⟨j, S, hj, rfl, hB1, hX1, hR1⟩ := hrel
      have HX1 := Lib.hid hX1
      obtain ⟨hgw, q1, n1, c1, q2, n2, c2, hRM, hcs⟩ := hX1
      have HB1 := Lib.hid hB1
      have HR1 := Lib.hid hR1
      have HRM := Lib.hid hRM
      have HCS := Lib.hid hcs
      obtain ⟨p, cc, rfl, hcc1, hcc2⟩ := hR1.cap
      unfold maxLen at hcc2
      have hf1 := (HF.out j)
      have hz1 := HSZ.out j
      have hz2 := HS.out
      have HGW := Lib.hid hgw
      obtain ⟨T, hT⟩ : ∃ T, sndN j t = T := ⟨_, rfl⟩
      have HT := Lib.hid hT
      rw [hT] at hf1 hz1 HRM HCS HX1
      clear hB1 hR1 hRM hcs HX hT hw2
      have e0 := U_cell (HCS.out 0 _ rfl)
      have e1 := U_cell (HCS.out 1 _ rfl)
      have e2 := U_cell (HCS.out 2 _ rfl)
      have e3 := U_cell (HCS.out 3 _ rfl)
      have e4 := U_cell (HCS.out 4 _ rfl)
      by_cases hlt : j < N
      · have r1 : decide ((1 : Int) < (N : Int) + 1 - j) = true := decide_eq_true (by omega)
        obtain ⟨wa, hwa⟩ : ∃ wa, wr.alloc (.cells #[.int .i64 T.h.k, .int .i64 T.h.n, .int .i64 T.h.a, .slice q1 n1 c1, .slice q2 n2 c2] 26) = wa := ⟨_, rfl⟩
        obtain ⟨hRTa, hba, hsa⟩ := XAt.row HRM.out (fun b o v hv => Fl_U hv) hwa
        have HC14 := Lib.hid (of_any 14 _ _ _ T.ts wa hRTa ⟨hf1.1, hf1.2, trivial⟩ (by show 1 + lvSize T.h.l + T.x.size + 0 ≤ _; omega) (by decide) (HKA.out.on (HB1.out.trans (hba.mono HB1.out.size)) HKA.out.1))
        have HBA := Lib.hid hba
        have HSA := Lib.hid hsa
        have HXA := Lib.hid (HX1.out.on hba)
        clear hba hsa hRTa
        go_wp2_with fail
        refine HC14.out.mono ?_
        rintro e wb ⟨s1, m1, d1, s2, m2, d2, S2, rfl, hbb, ho, hnd⟩
        have hbr := HBA.out.trans ((hbb.mono HBA.out.size))
        have hszb : wr.heap.size + 1 ≤ wb.heap.size := by have := hbb.size; have := HSA.out; omega
        obtain ⟨v', w4, hrun, hR4, hB4, wz, hwz, hgz⟩ := RowG.appendT (w0 := wb) (HR1.out.below hbr) HR1.out.lt_of (ho.lower (base' := wr.heap.size) (by have := HSA.out; omega)) hnd (by omega) (by omega) (by omega) rfl
        have HXB := Lib.hid (((HXA.out.on hbb).on (by rw [← hwz]; exact below_alloc _ _ : Below wb.heap.size wb wz)).keep (W' := w4) (fun b hb hx => hgz.block b hb (fun e => by
          rcases hx with hx | hx
          · exact hx (by rw [← e]; simp)
          · have := HR1.out.mem b (by rw [← e]; simp); omega)) hgz.size)
        clear hwz hgz
        have HR4 := Lib.hid hR4
        have HB4 := Lib.hid hB4
        have HBB := Lib.hid hbb
        have HSZB := Lib.hid hszb
        obtain ⟨p', cc', rfl, hc1', hc2'⟩ := hR4.cap
        rw [show (kH 14).k = 14 from rfl, show (kH 14).n = 0 from rfl, show (kH 14).a = 0 from rfl] at hrun ⊢
        clear hbb ho hnd hbr hszb hR4 hB4 e0 e1 e2 e3 e4 HC14
        have hXb := HXB.out
        obtain ⟨hgb, q1b, n1b, c1b, q2b, n2b, c2b, hRMb, hcsb⟩ := hXb
        have e0 := U_cell (hcsb 0 _ rfl)
        have e1 := U_cell (hcsb 1 _ rfl)
        have e2 := U_cell (hcsb 2 _ rfl)
        have e3 := U_cell (hcsb 3 _ rfl)
        have e4 := U_cell (hcsb 4 _ rfl)
        obtain ⟨wc, hwc⟩ : ∃ wc, w4.alloc (.cells #[.int .i64 T.h.k, .int .i64 T.h.n, .int .i64 T.h.a, .slice q1b n1b c1b, .slice q2b n2b c2b] 26) = wc := ⟨_, rfl⟩
        obtain ⟨hRTc, hbc, hsc⟩ := XAt.row hRMb (fun b o v hv => Fl_U hv) hwc
        have hbr4 := HB1.out.trans ((HBA.out.mono HB1.out.size).trans ((HBB.out.mono (by have := HBA.out.size; have := HB1.out.size; omega)).trans (HB4.out.mono (Nat.le_succ _))))
        have HC15 := Lib.hid (of_any 15 _ _ _ T.ts wc hRTc ⟨hf1.1, hf1.2, trivial⟩ (by show 1 + lvSize T.h.l + T.x.size + 0 ≤ _; omega) (by decide) (HKA.out.on (hbr4.trans (hbc.mono (by have := hbr4.size; omega))) HKA.out.1))
        have HBR4 := Lib.hid hbr4
        have HBC := Lib.hid hbc
        have HSC := Lib.hid hsc
        have HCSB := Lib.hid hcsb
        clear hRTc hbc hsc hbr4 hRMb hcsb
        go_wp2_with (at_builtin; refine wpList_append_run rfl _ _ 22 rfl _ _ _ rfl rfl hrun ?_)
        refine HC15.out.mono ?_
        rintro e wd ⟨s3, m3, d3, s4, m4, d4, S4, rfl, hbd, ho4, hn4⟩
        have hgw4 : w.heap.size < w4.heap.size := U_lt (HCSB.out 0 _ rfl)
        have hcd : ∀ o u, (#[.int .i64 T.h.k, .int .i64 T.h.n, .int .i64 T.h.a, .slice q1b n1b c1b, .slice q2b n2b c2b] : Array Value)[o]? = some u → U wd w.heap.size o = some u := fun o u hu => U_below hbd _ _ _ (by have := HSC.out; omega) (U_below HBC.out _ _ _ hgw4 (HCSB.out o u hu))
        have HCD := Lib.hid hcd
        have f0 := U_cell (hcd 0 _ rfl)
        have f1 := U_cell (hcd 1 _ rfl)
        have f2 := U_cell (hcd 2 _ rfl)
        have f3 := U_cell (hcd 3 _ rfl)
        have f4 := U_cell (hcd 4 _ rfl)
        have o0 := U_frozen (hcd 0 _ rfl)
        have o1 := U_frozen (hcd 1 _ rfl)
        have o2 := U_frozen (hcd 2 _ rfl)
        have o3 := U_frozen (hcd 3 _ rfl)
        have o4 := U_frozen (hcd 4 _ rfl)
        have HBD := Lib.hid hbd
        have HO4 := Lib.hid ho4
        rw [show (kH 15).k = 15 from rfl, show (kH 15).n = 0 from rfl, show (kH 15).a = 0 from rfl] at HO4 ⊢
        clear hbd ho4 hn4 hcd e0 e1 e2 e3 e4 hrun HC15 hwc hwa
        go_wp2_with fail
        obtain ⟨W6, hW6⟩ : ∃ W6, ((((wd.setCell ⟨w.heap.size, 0, none⟩ (.int .i64 15)).setCell ⟨w.heap.size, 1, none⟩ (.int .i64 0)).setCell ⟨w.heap.size, 2, none⟩ (.int .i64 0)).setCell ⟨w.heap.size, 3, none⟩ (.slice s3 m3 d3)).setCell ⟨w.heap.size, 4, none⟩ (.slice s4 m4 d4) = W6 := ⟨_, rfl⟩
        obtain ⟨x0, x1, x2, x3, x4, hk6⟩ := five_set (HCD.out 0 _ rfl) (HCD.out 1 _ rfl) (HCD.out 2 _ rfl) (HCD.out 3 _ rfl) (HCD.out 4 _ rfl) hW6
        have hs6 : W6.heap.size = wd.heap.size := by rw [← hW6]; simp
        have hcz := HSC.out
        have hdz := HBD.out.size
        have hX6 : XAt (w.heap.size :: (Value.slice p' (j + 1) cc').ownBlock.toList) w.heap.size (sndN (j + 1) t) W6 := by
          refine ⟨by omega, s3, m3, d3, s4, m4, d4, ?_, fun o u hu => ?_⟩
          · have hv := HO4.out.vsx (F := Fl (w.heap.size :: (Value.slice p' (j + 1) cc').ownBlock.toList) W6) (fun b o v hb hv => Fl_mk ((U_block (hk6 b (by omega)) o).trans hv) (fun hm => by
              rcases List.mem_cons.1 hm with hm | hm
              · omega
              · have := (HR4.out.mem b (by simp only [List.mem_append]; exact .inl hm)).2; omega))
            have := hv.rmx
            rw [show sndN (j + 1) t = ⟨kH 15, T.ts⟩ by rw [← HT.out]; rfl]
            exact this.mono (fun _ _ _ _ h => h) (by omega)
          · have ho : o < 5 := by have := (Array.getElem?_eq_some_iff.1 hu).1; simpa using this
            have hall : o = 0 ∨ o = 1 ∨ o = 2 ∨ o = 3 ∨ o = 4 := by omega
            rcases hall with rfl | rfl | rfl | rfl | rfl <;> (cases hu; assumption)
        have hR6 : RowG W6 (w.heap.size + 1) 5 26 (.slice p' (j + 1) cc') (j + 1) (tDs ty (fsts (j + 1) t)) (S ++ S2) := by
          have := (HR4.out.below (below_step HBC.out HBD.out)).keep (w' := W6) (fun b hb hb2 => hk6 b (by omega))
          rw [show fsts (j + 1) t = (fsts j t).snoc (kH 14) T.ts by rw [← HT.out]; rfl]
          exact this
        have hB6 : Below w.heap.size w W6 := by
          have := HBR4.out.trans (((below_step HBC.out HBD.out)).mono (by omega))
          rw [← hW6]
          exact ((((this.setCell (p := ⟨w.heap.size, 0, none⟩) (Nat.le_refl _) _).setCell (p := ⟨w.heap.size, 1, none⟩) (Nat.le_refl _) _).setCell (p := ⟨w.heap.size, 2, none⟩) (Nat.le_refl _) _).setCell (p := ⟨w.heap.size, 3, none⟩) (Nat.le_refl _) _).setCell (p := ⟨w.heap.size, 4, none⟩) (Nat.le_refl _) _
        rw [hW6]
        clear hk6 x0 x1 x2 x3 x4 hs6 hW6
        go_roundw
        case rel => exact ⟨j + 1, _, by omega, by go_num, hB6, hX6, hR6⟩
        case measure => simp [intOf]; omega
      · obtain rfl : j = N := by omega
        have r1 : decide ((1 : Int) < (j : Int) + 1 - j) = false := decide_eq_false (by omega)
        have r2 : ((j : Int) + 1 - j == 1) = true := by simp; omega
        have HC60 := Lib.hid (liftT_any T.h T.x (.agg #[.int .i64 T.h.k, .int .i64 T.h.n, .int .i64 T.h.a, .slice q1 n1 c1, .slice q2 n2 c2]) 0 0 wr (HRM.out.mono (fun b o v _ hv => Fl_U hv) (Nat.le_refl _)) hf1.1 hf1.2 (by omega) (HKA.out.on HB1.out HKA.out.1))
        rw [Hd.lift_zero hf1.1, Ts.lift_zero hf1.2] at HC60
        go_wp2_with fail
        refine HC60.out.mono ?_
        rintro e wb ⟨s1, m1, d1, s2, m2, d2, S2, rfl, hbb, ho, hnd⟩
        obtain ⟨v', w4, hrun, hR4, hB4, -⟩ := RowG.appendT (w0 := wb) (HR1.out.below hbb) HR1.out.lt_of ho hnd (by omega) (by omega) (by have := hbb.size; omega) rfl
        have HR4 := Lib.hid hR4
        have HBX := Lib.hid (HB1.out.trans ((hbb.mono HB1.out.size).trans (hB4.mono (Nat.le_succ _))))
        clear hbb ho hnd hR4 hB4 e0 e1 e2 e3 e4 HC60
        go_wp2_with (at_builtin; refine wpList_append_run rfl _ _ 22 rfl _ _ _ rfl rfl hrun ?_)
        go_ret
        have hR := HR4.out
        rw [show (fsts j t).snoc T.h T.x = partsT (j + 1) t by rw [← parts_last, HT.out]; rfl] at hR
        exact ⟨_, _, rfl, HBX.out, hR.own.lower (Nat.le_succ _), hR.nodup⟩
end Go.Proofs.YtkcmapimcgppmaaGreatDoor
end
section
namespace Go.Proofs.YtkcmapimcgppmaaGreatDoor
open Go.RowKit

/-- Lent: terms, a term, with marks behind all ends. -/
def lentA (t : Ts) : AV := .c (.seg none (.row 5 26 (lentT ty t) (tDs ty (tMarks 1 12)) .nil) .nil)
def lentC (t : Tm) : Dc := .lit (.int .i64 t.h.k) (.lit (.int .i64 t.h.n) (.lit (.int .i64 t.h.a) (.seg none (.row 1 43 (lentLv ty t.h.l) (lvDs ty (lvMarks 1 12)) (.row 5 26 (lentT ty t.x) (tDs ty (tMarks 1 12)) .nil)) .nil)))
def lentM (t : Tm) : AV := .agg (lentC t)
theorem lentLv_good (l : List Lv) : (lentLv ty l).good := by
  induction l with
  | nil => trivial
  | cons p r ih => exact ⟨ptDs_good p, ptDs_good _, ih⟩
theorem lentT_good (t : Ts) : (lentT ty t).good := by
  induction t with
  | nil => trivial
  | cons h x r ihx ih => exact ⟨rfl, rfl, rfl, lentLv_good _, lvDs_good _, ihx, tDs_good _, ih⟩
theorem k7 (t : Ts) (hs : t.size ≤ 2000000) : HH 7 [tsA none t, iA 500] (iA (t.cnt 500 0)) := by
  refine ⟨code_of Tryz.func7 (by decide) rfl, rfl, fun F w vs hF hG hv => ?_⟩
  obtain ⟨u, v, rfl, h1, h2⟩ := list2 hv
  rw [iA_eq h2]
  refine (termsOf_any _ t u 500 w (Nat.lt_succ_self _) (tsA_rt hF h1) hs (by decide) (by decide)).mono ?_
  rintro e w' ⟨rfl, h5⟩
  exact ⟨_, fun _ => [], rfl, h5, rfl, fun k b hb => (by cases hb), fun k k' b hb => (by cases hb)⟩
theorem k8 (t : Tm) (hs : t.size ≤ 2000000) : HH 8 [tmL t, iA 500] (iA (1 + lvCount t.h.l 500 0 + t.x.cnt 500 0)) := by
  refine ⟨code_of Tryz.func8 (by decide) rfl, rfl, fun F w vs hF hG hv => ?_⟩
  obtain ⟨u, v, rfl, h1, h2⟩ := list2 hv
  rw [iA_eq h2]
  refine (termOf_any t.h t.x u 500 w (tmA_rm hF h1) hs (by decide) (by decide)).mono ?_
  rintro e w' ⟨rfl, h5⟩
  exact ⟨_, fun _ => [], rfl, h5, rfl, fun k b hb => (by cases hb), fun k k' b hb => (by cases hb)⟩
theorem k10 (t : Ts) (hs : t.size ≤ 2000000) : HH 10 [tsA none t] (lentA t) := by
  refine ⟨code_of Tryz.func10 (by decide) rfl, rfl, fun F w vs hF hG hv => ?_⟩
  obtain ⟨u, rfl, h1⟩ := list1 hv
  refine (lentTerms_any _ t u w (Nat.lt_succ_self _) (tsA_rt hF h1) hs).mono ?_
  rintro e w' ⟨v, S, rfl, h5, h6, h7⟩
  exact ⟨v, fun _ => [], rfl, h5, ⟨⟨lentT_good t, tDs_good _, trivial⟩, [v], [], rfl, Vs.res (F := F) (fp := fun _ => []) (Nat.le_refl _) h6, Gh.Ow_none, rfl⟩, fun k b hb => (by cases hb), fun k k' b hb => (by cases hb)⟩
theorem k11 (t : Tm) (hs : t.size ≤ 2000000) : HH 11 [tmL t] (lentM t) := by
  refine ⟨code_of Tryz.func11 (by decide) rfl, rfl, fun F w vs hF hG hv => ?_⟩
  obtain ⟨u, rfl, h1⟩ := list1 hv
  refine (lentTerm_any t.h t.x u w (tmA_rm hF h1) hs).mono ?_
  rintro e w' ⟨xs, S, rfl, h5, h6, h7⟩
  obtain ⟨_, rfl, _, rfl, _, rfl, h8⟩ := Vs.res (F := F) (fp := fun _ => []) (Nat.le_refl _) h6
  exact ⟨_, fun _ => [], rfl, h5, ⟨_, rfl, rfl, _, rfl, rfl, _, rfl, rfl, _, rfl, ⟨lentLv_good _, lvDs_good _, lentT_good _, tDs_good _, trivial⟩, _, [], (List.append_nil _).symm, h8, Gh.Ow_none, rfl⟩, fun k b hb => (by cases hb), fun k k' b hb => (by cases hb)⟩
theorem k20 (t : Ts) : HH 20 [tsA none t, tsA none t] (.v (.bool true)) := by
  refine ⟨code_of Tryz.func20 (by decide) rfl, rfl, fun F w vs hF hG hv => ?_⟩
  obtain ⟨u, v, rfl, h1, h2⟩ := list2 hv
  refine (sameTerms_any _ t u v w (Nat.lt_succ_self _) (tsA_rt hF h1) (tsA_rt hF h2)).mono ?_
  rintro e w' ⟨rfl, h5⟩
  exact ⟨_, fun _ => [], rfl, h5, rfl, fun k b hb => (by cases hb), fun k k' b hb => (by cases hb)⟩
def fp1 (S : List Nat) : Tk → List Nat := fun k => if k = (0, 0) then S else []
theorem mem_fp1 {S : List Nat} {k : Tk} {b : Nat} : b ∈ fp1 S k ↔ k = (0, 0) ∧ b ∈ S := by
  unfold fp1
  by_cases h : k = (0, 0)
  · rw [if_pos h]; simp [h]
  · rw [if_neg h]; simp [h]
/-- A row of its own. -/
theorem k15 (t : Tm) (n : Int) (hf : t.fits) (hs : t.size ≤ 1000000) (hn : n ≤ 12) : HH 15 [tmL t, iA n] (tsA (some (0, 0)) (partsT n.toNat t)) := by
  refine ⟨code_of Tryz.func15 (by decide) rfl, rfl, fun F w vs hF hG hv => ?_⟩
  obtain ⟨u, v, rfl, h1, h2⟩ := list2 hv
  rw [iA_eq h2]
  refine (parts_any t u n w (tmA_rm hF h1) hf.1 hf.2 hs hn hG).mono ?_
  rintro e w' ⟨v, S, rfl, h5, h6, h7⟩
  obtain ⟨v', _, e2, h8, -⟩ := Vs.res (F := F) (fp := fp1 S) (Nat.le_refl _) h6
  cases e2
  refine ⟨v, fp1 S, rfl, h5, ⟨tDs_good _, v, [], rfl, h8, fun j e => ?_, rfl⟩, fun k b hb => ?_, fun k k' b h1 h2 => ?_⟩
  · cases e
    exact ⟨rfl, S, h6, h7, fun b hb => mem_fp1.2 ⟨rfl, hb⟩⟩
  · exact h6.mem b (mem_fp1.1 hb).2
  · rw [(mem_fp1.1 h1).1, (mem_fp1.1 h2).1]
end Go.Proofs.YtkcmapimcgppmaaGreatDoor
end
section
namespace Go.Proofs.YtkcmapimcgppmaaGreatDoor
open Go.RowKit

variable {P : Program} {G : World → Prop} {tb : TB} {N : Nat} {F0 : Mem} {w0 : World}

/-- A state told by its slots, its variables, its names, and what some slots hold. -/
def stX (l : List (Nat × AV)) (b : List (Nat × Nat × Dc)) (t : List (Nat × Nat)) (fx : Nat → Option Value) : St := { stOf l b t with fx := fx }
theorem le_ofX {s : St} {l : List (Nat × AV)} {b : List (Nat × Nat × Dc)} {t : List (Nat × Nat)} {fx : Nat → Option Value} (h : Le G N s (stOf l b t)) (hf : ∀ t x, fx t = some x → s.fx t = some x) : Le G N s (stX l b t fx) := by
  intro F0 w0 a w hs
  obtain ⟨h1, h2, h3, h4, h5, h6, -⟩ := h F0 w0 a w hs
  exact ⟨⟨h1.1, h1.2⟩, h2, h3, h4, h5, h6, fun t x e => hs.fix t x (hf t x e)⟩
/-- What a piece of code must leave, to go on from a state. -/
def toK (G : World → Prop) (N : Nat) (st' : St) : Exit → St → Prop := fun e s => e = .normal ∧ Le G N s st'
theorem seq_state (hT : TbOk P tb) (hS : Stays G) (hm : P.follows .mixedOrders = true) {x y : Code} {Q : Exit → Act → World → Prop} {st st' : St} {a : Act} {w : World} (hs : Sat G F0 w0 N st a w) (h : acode P G tb N x (toK G N st') st)
    (k : ∀ a' w', Sat G F0 w0 N st' a' w' → y.wp P Q a' w') : (x.seq y).wp P Q a w := by
  refine wp_seq (wp_mono (acode_sound hT hS hm h F0 w0 a w hs) ?_)
  rintro e a' w' ⟨s, ⟨rfl, hle⟩, hs'⟩
  exact k a' w' (hle F0 w0 a' w' hs')
/-- A state begun anew: what lies is what stays; nothing is the call's own. -/
theorem rebase (hG : G w0) {st : St} {a : Act} (hok : ∀ t, (st.env t).ok (fun _ => none) (fun _ => none)) (hb : st.bx = fun _ => none) (hτ : st.τ = fun _ => none) (hsz : a.tmps.size = N) (hd : a.defers = []) (hx : ∀ t x, st.fx t = some x → a.tmps.getD t undef = x)
    (hr : ∀ t, t < N → RepV (argGh (U w0) w0) (st.env t) [a.tmps.getD t undef]) : Sat G (U w0) w0 N st a w0 := by
  refine ⟨⟨fun t => by rw [hb, hτ]; exact hok t, fun k T d e => by rw [hb] at e; cases e⟩, ⟨argGh (U w0) w0, rfl, ⟨fun _ _ _ h => h, Nat.le_refl _, fun k T d e => (by cases e), fun k k' h1 => (absurd rfl h1), fun k j b h1 => (absurd rfl h1), fun k k' b h1 => (absurd rfl h1)⟩, hb.symm, hτ.symm, rfl, fun _ _ _ => rfl, hr⟩, Below.refl _ _, hG, hsz, hd, hx⟩
/-- Where a function begins. -/
theorem start_sat (hG : G w0) {l : List AV} {vs : List Value} (hv : RepV (argGh (U w0) w0) (.list l) vs) (hN : l.length ≤ N) (hl : ∀ a ∈ l, a.ok (fun _ => none) (fun _ => none)) :
    Sat G (U w0) w0 N (startSt l) { tmps := vs.toArray ++ Array.replicate (N - vs.toArray.size) undef, defers := [] } w0 := by
  have hlen : ∀ (l : List AV) (vs : List Value), RepV (argGh (U w0) w0) (.list l) vs → vs.length = l.length ∧ ∀ t, RepV (argGh (U w0) w0) (l.getD t .junk) [vs.getD t undef] := by
    intro l
    induction l with
    | nil => intro vs h; rw [show vs = [] from h]; exact ⟨rfl, fun t => trivial⟩
    | cons a l ih =>
      rintro vs ⟨y, ys, rfl, h1, h2⟩
      obtain ⟨h3, h4⟩ := ih ys h2
      refine ⟨by simp [h3], fun t => ?_⟩
      cases t with
      | zero => exact h1
      | succ t => exact h4 t
  obtain ⟨hvl, hvs⟩ := hlen l vs hv
  refine rebase hG (fun t => ?_) rfl rfl (by simp; omega) rfl (fun t x e => by cases e) fun t ht => ?_
  · show (l.getD t .junk).ok _ _
    rw [List.getD_eq_getElem?_getD]
    cases ht : l[t]? with
    | none => trivial
    | some x => exact hl x (List.mem_of_getElem? ht)
  · have := hvs t
    have e : (vs.toArray ++ Array.replicate (N - vs.toArray.size) undef).getD t undef = vs.getD t undef := by
      rw [Array.getD_eq_getD_getElem?, Array.getElem?_append, List.getD_eq_getElem?_getD]
      by_cases h1 : t < vs.length
      · simp [h1]
      · have h2 : vs[t]? = none := List.getElem?_eq_none (by omega)
        simp only [List.size_toArray, h1, if_false, h2, Option.getD_none]
        rw [Array.getElem?_replicate]
        split <;> rfl
    show RepV _ (l.getD t .junk) [(vs.toArray ++ Array.replicate (N - vs.toArray.size) undef).getD t undef]
    rw [e]
    exact this
/-- A frame's slots, written out. -/
theorem arr_lit {n : Nat} {arr : Array Value} (h : arr.size = n) : arr = ((List.range n).map fun i => arr.getD i undef).toArray := by
  apply Array.ext_getElem?
  intro i
  subst h
  by_cases hi : i < arr.size
  · simp [hi]
  · simp [hi]
end Go.Proofs.YtkcmapimcgppmaaGreatDoor
end
