/-
  Levels, terms that read as the same are told to be. Terms that read as the same are told to be. The worker for this program: each function that is known by hand. Conditions: those of what was shown before. The chapter's example is as it should be. Conditions: the table of kinds lies where it was laid. The document's small makers of terms. The document's case. Conditions: no more than 1000000 nodes, levels, parts; numbers that a word holds. The program's small makers of terms, its case. Conditions: no more than 1000000 nodes, levels, parts; numbers that a word holds; the table of kinds lies where it was laid. Contracts over data, told of calls: what is given, what comes back. Parts with marks behind their end are found kept. Conditions: no more than 2000000 parts. Levels with marks are found kept. Conditions: no more than 2000000 parts, levels. Conditions: as each lemma states them.
-/
import Derived.Test.YtkcmapimcgppmaaGreatDoorM02
import Derived.Laws.StructEq
import Derived.Test.YtkcmapimcgppmaaGreatDoorM16
import Derived.Test.YtkcmapimcgppmaaGreatDoorM08
import Derived.Test.YtkcmapimcgppmaaGreatDoorM14
import Derived.Test.YtkcmapimcgppmaaGreatDoorM01
import Derived.Test.YtkcmapimcgppmaaGreatDoorM09
set_option linter.all false
set_option linter.unusedVariables false
set_option linter.unusedSimpArgs false
set_option linter.unnecessarySimpa false
section
namespace Go.Proofs.YtkcmapimcgppmaaGreatDoor
open Go.RowKit

set_option maxHeartbeats 1000000 in
theorem sameParts_any (p : Lv) (va vb : Value) (w : World) (ha : RP w va p) (hb : RP w vb p) : Calls Tryz.prog 204 #[va, vb] w fun e w' => e = .returned (.bool true) ∧ Below w.heap.size w w' := by
  obtain ⟨q, c, rfl, hc1, hc2, -⟩ := ha.slice
  obtain ⟨q', c', rfl, hc3, hc4, -⟩ := hb.slice
  unfold maxLen at hc2 hc4
  have HA := Lib.hid ha
  have HB := Lib.hid hb
  have hne : ((p.length : Int) != (p.length : Int)) = false := by simp
  clear ha hb
  go_enter Tryz.func204, Tryz.ntmps204
  go_wp2_with fail
  clear hne
  go_loopw [5] (fun i wr => ∃ k : Nat, k ≤ p.length ∧ i = .int .i64 k ∧ Below w.heap.size w wr) (fun i _ => p.length - (intOf i).toNat)
  case atStart => exact ⟨0, Nat.zero_le _, rfl, Below.refl _ _⟩
  case round =>
    obtain ⟨k, hk, rfl, hB⟩ := hrel
    by_cases hlt : k < p.length
    · have r1 : decide ((k : Int) < (p.length : Int)) = true := decide_eq_true (by omega)
      obtain ⟨b, o, rfl, hb1, hu1, hu2⟩ := (HA.out.on hB).at_ hlt
      obtain ⟨b', o', rfl, hb2, hu3, hu4⟩ := (HB.out.on hB).at_ hlt
      have e1 := U_cell hu1
      have e2 := U_cell hu2
      have e3 := U_cell hu3
      have e4 := U_cell hu4
      have HBB := Lib.hid hB
      clear hu1 hu2 hu3 hu4 hB
      go_wp2_with fail
      go_region_with fail
      all_goals (go_wp2_with fail)
      all_goals go_roundw
      all_goals first
        | exact ⟨k + 1, by omega, by go_num, below_step HBB.out (below_drew wr)⟩
        | (simp [intOf]; omega)
    · have r1 : decide ((k : Int) < (p.length : Int)) = false := decide_eq_false (by omega)
      go_wp2_with fail
      go_ret
      exact ⟨rfl, hB⟩

set_option maxHeartbeats 1000000 in
theorem sameLevel_any (p : Lv) (q q' : Option Addr) (n n' c c' : Nat) (w : World) (ha : RP w (.slice q n c) p) (hb : RP w (.slice q' n' c') p) : Calls Tryz.prog 127 #[.agg #[.slice q n c], .agg #[.slice q' n' c']] w fun e w' => e = .returned (.bool true) ∧ Below w.heap.size w w' := by
  have HS : Hid (∀ W, Below w.heap.size w W → Calls Tryz.prog 204 #[.slice q n c, .slice q' n' c'] W fun e w' => e = .returned (.bool true) ∧ Below W.heap.size W w') := fun W hW => sameParts_any p _ _ W (ha.on hW) (hb.on hW)
  clear ha hb
  go_enter Tryz.func127, Tryz.ntmps127
  go_wp2_with fail
  have hB := below_step (below_alloc w (.cells #[.slice q n c] 43)) (below_alloc _ (.cells #[.slice q' n' c'] 43))
  refine (HS.out _ hB).mono ?_
  rintro e w1 ⟨rfl, hb1⟩
  have HB1 := Lib.hid (below_step hB hb1)
  clear hb1 hB
  go_wp2_with fail
  go_ret
  exact ⟨rfl, HB1.out⟩

set_option maxHeartbeats 1000000 in
theorem sameLevels_any (l : List Lv) (va vb : Value) (w : World) (ha : RL ty w va l) (hb : RL ty w vb l) : Calls Tryz.prog 61 #[va, vb] w fun e w' => e = .returned (.bool true) ∧ Below w.heap.size w w' := by
  obtain ⟨q, c, rfl, hc1, hc2, -⟩ := ha.slice
  obtain ⟨q', c', rfl, hc3, hc4, -⟩ := hb.slice
  unfold maxLen at hc2 hc4
  have HA := Lib.hid ha
  have HB := Lib.hid hb
  have hne : ((l.length : Int) != (l.length : Int)) = false := by simp
  clear ha hb
  go_enter Tryz.func61, Tryz.ntmps61
  go_wp2_with fail
  clear hne
  go_loopw [5] (fun i wr => ∃ k : Nat, k ≤ l.length ∧ i = .int .i64 k ∧ Below w.heap.size w wr) (fun i _ => l.length - (intOf i).toNat)
  case atStart => exact ⟨0, Nat.zero_le _, rfl, Below.refl _ _⟩
  case round =>
    obtain ⟨k, hk, rfl, hB⟩ := hrel
    by_cases hlt : k < l.length
    · have r1 : decide ((k : Int) < (l.length : Int)) = true := decide_eq_true (by omega)
      obtain ⟨b, o, rfl, hb1, r, d, hu1, -, -, hr1⟩ := (HA.out.on hB).at_ hlt
      obtain ⟨b', o', rfl, hb2, r', d', hu2, -, -, hr2⟩ := (HB.out.on hB).at_ hlt
      have e1 := U_cell hu1
      have e2 := U_cell hu2
      have HBB := Lib.hid hB
      have HS : Hid (∀ W, Below wr.heap.size wr W → Calls Tryz.prog 127 #[.agg #[.slice r l[k].length d], .agg #[.slice r' l[k].length d']] W fun e w' => e = .returned (.bool true) ∧ Below W.heap.size W w') := fun W hW => sameLevel_any l[k] _ _ _ _ _ _ W (hr1.on hW) (hr2.on hW)
      obtain ⟨z, hz⟩ : ∃ z : Nat, l[k].length = z := ⟨_, rfl⟩
      rw [hz] at e1 e2 HS
      clear hu1 hu2 hB hr1 hr2 hz
      go_wp2_with fail
      go_region_with (go_at_call 127; refine (HS.out _ (by first | exact below_drew _ | assumption)).mono ?_; rintro e wx ⟨rfl, hbx⟩
                      have hBx : Below wr.heap.size wr wx := below_step (by first | exact below_drew _ | assumption) hbx)
      all_goals (go_wp2_with fail)
      all_goals go_roundw
      all_goals first
        | exact ⟨k + 1, by omega, by go_num, below_step HBB.out hBx⟩
        | (simp [intOf]; omega)
    · have r1 : decide ((k : Int) < (l.length : Int)) = false := decide_eq_false (by omega)
      go_wp2_with fail
      go_ret
      exact ⟨rfl, hB⟩
end Go.Proofs.YtkcmapimcgppmaaGreatDoor
end
section
namespace Go.Proofs.YtkcmapimcgppmaaGreatDoor
open Go.RowKit

set_option maxHeartbeats 2000000 in
theorem sameTerm_of (h : Hd) (x : Ts) (va vb : Value) (w : World) (ha : RM ty w va h x) (hb : RM ty w vb h x)
    (hk : ∀ W v v', RT ty W v x → RT ty W v' x → Calls Tryz.prog 20 #[v, v'] W fun e w' => e = .returned (.bool true) ∧ Below W.heap.size W w') :
    Calls Tryz.prog 16 #[va, vb] w fun e w' => e = .returned (.bool true) ∧ Below w.heap.size w w' := by
  obtain ⟨q, c, r, d, rfl, -, -, -, -, hl, hx⟩ := ha.agg
  obtain ⟨q', c', r', d', rfl, -, -, -, -, hl', hx'⟩ := hb.agg
  obtain ⟨n, hn⟩ : ∃ n, h.l.length = n := ⟨_, rfl⟩
  obtain ⟨m, hm⟩ : ∃ m, x.len = m := ⟨_, rfl⟩
  rw [hn] at hl hl' ⊢
  rw [hm] at hx hx' ⊢
  obtain ⟨k0, hk0⟩ : ∃ k, h.k = k := ⟨_, rfl⟩
  obtain ⟨n0, hn0⟩ : ∃ k, h.n = k := ⟨_, rfl⟩
  obtain ⟨a0, ha0⟩ : ∃ k, h.a = k := ⟨_, rfl⟩
  rw [hk0, hn0, ha0]
  obtain ⟨W0, hW0⟩ : ∃ W0, (w.alloc (.cells #[.int .i64 k0, .int .i64 n0, .int .i64 a0, .slice q n c, .slice r m d] 26)).alloc (.cells #[.int .i64 k0, .int .i64 n0, .int .i64 a0, .slice q' n c', .slice r' m d'] 26) = W0 := ⟨_, rfl⟩
  have hB0 : Below w.heap.size w W0 := by rw [← hW0]; exact below_step (below_alloc _ _) (below_alloc _ _)
  have hs0 : W0.heap.size = w.heap.size + 2 := by rw [← hW0]; simp
  have p1 : ∀ o v, (#[.int .i64 k0, .int .i64 n0, .int .i64 a0, .slice q n c, .slice r m d] : Array Value)[o]? = some v → U W0 w.heap.size o = some v := fun o v hv => by
    rw [← hW0]; exact U_below (below_alloc _ _) _ _ _ (by simp) (laid_cell hv)
  have p2 : ∀ o v, (#[.int .i64 k0, .int .i64 n0, .int .i64 a0, .slice q' n c', .slice r' m d'] : Array Value)[o]? = some v → U W0 (w.heap.size + 1) o = some v := fun o v hv => by
    have := laid_cell (w := w.alloc (.cells #[.int .i64 k0, .int .i64 n0, .int .i64 a0, .slice q n c, .slice r m d] 26)) (ty := 26) hv
    rw [World.size_alloc, hW0] at this
    exact this
  have c0 := U_cell (p1 0 _ rfl)
  have c1 := U_cell (p1 1 _ rfl)
  have c2 := U_cell (p1 2 _ rfl)
  have c3 := U_cell (p1 3 _ rfl)
  have c4 := U_cell (p1 4 _ rfl)
  have d0 := U_cell (p2 0 _ rfl)
  have d1 := U_cell (p2 1 _ rfl)
  have d2 := U_cell (p2 2 _ rfl)
  have d3 := U_cell (p2 3 _ rfl)
  have d4 := U_cell (p2 4 _ rfl)
  have H61 : Hid (∀ W, Below w.heap.size w W → Calls Tryz.prog 61 #[.slice q n c, .slice q' n c'] W fun e w' => e = .returned (.bool true) ∧ Below W.heap.size W w') := fun W hW => sameLevels_any h.l _ _ W (hl.on hW) (hl'.on hW)
  have H20 : Hid (∀ W, Below w.heap.size w W → Calls Tryz.prog 20 #[.slice r m d, .slice r' m d'] W fun e w' => e = .returned (.bool true) ∧ Below W.heap.size W w') := fun W hW => hk W _ _ (hx.on hW) (hx'.on hW)
  have HB0 := Lib.hid hB0
  have P1 := Lib.hid p1
  have P2 := Lib.hid p2
  have HS0 := Lib.hid hs0
  clear hl hl' hx hx' hk ha hb hn hm hk0 hn0 ha0 hB0 p1 p2 hs0
  have b0 : (k0 == k0) = true := by simp
  have b1 : (n0 == n0) = true := by simp
  have b2 : (a0 == a0) = true := by simp
  go_enter Tryz.func16, Tryz.ntmps16
  go_wp2_with fail
  refine (H61.out _ HB0.out).mono ?_
  rintro e w1 ⟨rfl, hb1⟩
  have g4 := (hb1.cell (p := ⟨w.heap.size, 4, none⟩) (by have := HS0.out; simp; omega)).trans c4
  have k4 := (hb1.cell (p := ⟨w.heap.size + 1, 4, none⟩) (by have := HS0.out; simp; omega)).trans d4
  have HB1 := Lib.hid (below_step HB0.out hb1)
  clear hb1 hW0 c0 c1 c2 c3 c4 d0 d1 d2 d3 d4
  go_wp2_with fail
  refine (H20.out _ HB1.out).mono ?_
  rintro e w2 ⟨rfl, hb2⟩
  have HB2 := Lib.hid (below_step HB1.out hb2)
  clear hb2
  go_wp2_with fail
  go_ret
  exact ⟨rfl, HB2.out⟩

set_option maxHeartbeats 2000000 in
theorem sameTerms_any (M : Nat) : ∀ (t : Ts) (va vb : Value) (w : World), t.count < M → RT ty w va t → RT ty w vb t → Calls Tryz.prog 20 #[va, vb] w fun e w' => e = .returned (.bool true) ∧ Below w.heap.size w w' := by
  induction M with
  | zero => intro t va vb w hm; omega
  | succ M ih =>
    intro t va vb w hm ha hb
    obtain ⟨q, c, rfl, hc1, hc2, -⟩ := ha.slice
    obtain ⟨q', c', rfl, hc3, hc4, -⟩ := hb.slice
    unfold maxLen at hc2 hc4
    have HA := Lib.hid ha
    have HB := Lib.hid hb
    have IH := Lib.hid ih
    have HM := Lib.hid hm
    have hne : ((t.len : Int) != (t.len : Int)) = false := by simp
    clear ha hb ih hm
    go_enter Tryz.func20, Tryz.ntmps20
    go_wp2_with fail
    clear hne
    go_loopw [5] (fun i wr => ∃ k : Nat, k ≤ t.len ∧ i = .int .i64 k ∧ Below w.heap.size w wr) (fun i _ => t.len - (intOf i).toNat)
    case atStart => exact ⟨0, Nat.zero_le _, rfl, Below.refl _ _⟩
    case round =>
      obtain ⟨k, hk, rfl, hB⟩ := hrel
      by_cases hlt : k < t.len
      · have r1 : decide ((k : Int) < (t.len : Int)) = true := decide_eq_true (by omega)
        obtain ⟨b, o, rfl, hb1, hu1, hu2, hu3, ⟨r, d, hu4, -, -, hr1⟩, ⟨s, f, hu5, -, -, hs1⟩⟩ := (HA.out.on hB).at_ hlt
        obtain ⟨b', o', rfl, hb2, hv1, hv2, hv3, ⟨r', d', hv4, -, -, hr2⟩, ⟨s', f', hv5, -, -, hs2⟩⟩ := (HB.out.on hB).at_ hlt
        have e1 := U_cell hu1
        have e2 := U_cell hu2
        have e3 := U_cell hu3
        have e4 := U_cell hu4
        have e5 := U_cell hu5
        have f1 := U_cell hv1
        have f2 := U_cell hv2
        have f3 := U_cell hv3
        have f4 := U_cell hv4
        have f5 := U_cell hv5
        have hcnt := Ts.count_kd hlt
        have HBB := Lib.hid hB
        have HS : Hid (∀ W, Below wr.heap.size wr W → Calls Tryz.prog 16 #[.agg #[.int .i64 (t.hd k).k, .int .i64 (t.hd k).n, .int .i64 (t.hd k).a, .slice r (t.hd k).l.length d, .slice s (t.kd k).len f], .agg #[.int .i64 (t.hd k).k, .int .i64 (t.hd k).n, .int .i64 (t.hd k).a, .slice r' (t.hd k).l.length d', .slice s' (t.kd k).len f']] W fun e w' => e = .returned (.bool true) ∧ Below W.heap.size W w') := fun W hW =>
          sameTerm_of (t.hd k) (t.kd k) _ _ W ⟨_, _, _, _, _, _, rfl, hr1.on hW, hs1.on hW⟩ ⟨_, _, _, _, _, _, rfl, hr2.on hW, hs2.on hW⟩ (fun W' v v' h1 h2 => IH.out (t.kd k) v v' W' (by have := HM.out; omega) h1 h2)
        obtain ⟨z, hz⟩ : ∃ z : Nat, (t.hd k).l.length = z := ⟨_, rfl⟩
        obtain ⟨y, hy⟩ : ∃ y : Nat, (t.kd k).len = y := ⟨_, rfl⟩
        rw [hz] at e4 f4 HS
        rw [hy] at e5 f5 HS
        clear hu1 hu2 hu3 hu4 hu5 hv1 hv2 hv3 hv4 hv5 hB hr1 hr2 hs1 hs2 hz hy hcnt
        go_wp2_with fail
        go_region_with (go_at_call 16; refine (HS.out _ (by first | exact below_drew _ | assumption)).mono ?_; rintro e wx ⟨rfl, hbx⟩
                        have hBx : Below wr.heap.size wr wx := below_step (by first | exact below_drew _ | assumption) hbx)
        all_goals (go_wp2_with fail)
        all_goals go_roundw
        all_goals first
          | exact ⟨k + 1, by omega, by go_num, below_step HBB.out hBx⟩
          | (simp [intOf]; omega)
      · have r1 : decide ((k : Int) < (t.len : Int)) = false := decide_eq_false (by omega)
        go_wp2_with fail
        go_ret
        exact ⟨rfl, hB⟩
theorem sameTerm_any (h : Hd) (x : Ts) (va vb : Value) (w : World) (ha : RM ty w va h x) (hb : RM ty w vb h x) : Calls Tryz.prog 16 #[va, vb] w fun e w' => e = .returned (.bool true) ∧ Below w.heap.size w w' :=
  sameTerm_of h x va vb w ha hb fun W v v' h1 h2 => sameTerms_any _ x v v' W (Nat.lt_succ_self _) h1 h2
end Go.Proofs.YtkcmapimcgppmaaGreatDoor
end
section
namespace Go.Proofs.YtkcmapimcgppmaaGreatDoor
open Go.RowKit

theorem rep_tm {F : Mem} {w : World} {t : Tm} {v : Value} (h : RepV (argGh F w) (tmL t) [v]) : RMx F w.heap.size v t.h t.x := by
  obtain ⟨ys, e, h⟩ := h
  obtain ⟨-, _, rfl, -, _, rfl, -, _, rfl, -, v1, _, rfl, h1, -, -, v2, _, rfl, h2, -, rfl⟩ := h
  cases e
  obtain ⟨p, n, c, rfl, -⟩ := id h1
  obtain ⟨p', n', c', rfl, -⟩ := id h2
  exact ⟨p, n, c, p', n', c', rfl, h1, h2⟩
theorem tm_rep {g : Gh} {t : Tm} {v : Value} (h : RMx g.F g.w.heap.size v t.h t.x) : RepV g (tmL t) [v] := by
  obtain ⟨p, n, c, p', n', c', rfl, h1, h2⟩ := h
  exact ⟨_, rfl, rfl, _, rfl, rfl, _, rfl, rfl, _, rfl, lvDs_good _, _, _, rfl, h1, Gh.Ow_none, tDs_good _, _, _, rfl, h2, Gh.Ow_none, rfl⟩
theorem k218 (k : Int) (t : Ts) (b : Tm) : HH 218 [.agg (.row none 5 26 (tDs ty t) .nil), iA k, tmL b] (tmL (aboveT k t b)) := by
  refine ⟨code_of Tryz.func218 (by decide) rfl, rfl, fun F w vs hF hG hv => ?_⟩
  obtain ⟨u, v, z, rfl, h1, h2, h3⟩ := list3 hv
  rw [iA_eq h2]
  obtain ⟨ys, e1, -, v1, _, rfl, h4, -, rfl⟩ := h1
  cases e1
  have hb := rep_tm h3
  obtain ⟨p, n, c, p', n', c', rfl, -, -⟩ := id hb
  refine (above_any k v1 t _ _ _ _ _ b w F hF h4 hb).mono ?_
  rintro e w' ⟨v, rfl, h5, h6⟩
  exact ⟨v, fun _ => [], rfl, h5, tm_rep h6, fun k b hb => (by cases hb), fun k k' b hb => (by cases hb)⟩
theorem k166 (l : List Ts) (hl : l.length ≤ 4000000) (hn : (catT l).len ≤ 4000000) : HH 166 [.c (.row none 1 22 (rowsDs l) .nil)] (.c (.row none 5 26 (tDs ty (catT l)) .nil)) := by
  refine ⟨code_of Tryz.func166 (by decide) rfl, rfl, fun F w vs hF hG hv => ?_⟩
  obtain ⟨u, rfl, h1⟩ := list1 hv
  obtain ⟨-, v1, _, e1, h4, -, -⟩ := h1
  cases e1
  refine (concat_any l u w F hF h4 hl hn).mono ?_
  rintro e w' ⟨v, rfl, h5, h6⟩
  exact ⟨v, fun _ => [], rfl, h5, ⟨tDs_good _, v, [], rfl, h6, Gh.Ow_none, rfl⟩, fun k b hb => (by cases hb), fun k k' b hb => (by cases hb)⟩
theorem ptDs_good (p : Lv) : (ptDs p).good := by
  induction p with
  | nil => trivial
  | cons a r ih => exact ⟨rfl, rfl, ih⟩
theorem k202 (p : Lv) (hn : p.length ≤ 2000000) : HH 202 [.c (.row none 2 77 (ptDs p) .nil)] (.c (.row none 2 77 (ptDs p) .nil)) := by
  refine ⟨code_of Tryz.func202 (by decide) rfl, rfl, fun F w vs hF hG hv => ?_⟩
  obtain ⟨u, rfl, h1⟩ := list1 hv
  obtain ⟨-, v1, _, e1, h4, -, -⟩ := h1
  cases e1
  refine (cloneParts_any p u w (h4.mono (fun b o v _ hv => hF b o v hv) (Nat.le_refl _)) hn).mono ?_
  rintro e w' ⟨v, S, rfl, h5, h6, h7⟩
  obtain ⟨v', _, e2, h8, -⟩ := Vs.res (F := F) (fp := fun _ => []) (Nat.le_refl _) h6
  cases e2
  exact ⟨v, fun _ => [], rfl, h5, ⟨ptDs_good p, v, [], rfl, h8, Gh.Ow_none, rfl⟩, fun k b hb => (by cases hb), fun k k' b hb => (by cases hb)⟩
theorem k16 (t : Tm) : HH 16 [tmL t, tmL t] (.v (.bool true)) := by
  refine ⟨code_of Tryz.func16 (by decide) rfl, rfl, fun F w vs hF hG hv => ?_⟩
  obtain ⟨u, v, rfl, h1, h2⟩ := list2 hv
  refine (sameTerm_any t.h t.x u v w (tmA_rm hF h1) (tmA_rm hF h2)).mono ?_
  rintro e w' ⟨rfl, h5⟩
  exact ⟨_, fun _ => [], rfl, h5, rfl, fun k b hb => (by cases hb), fun k k' b hb => (by cases hb)⟩
theorem k12n : HH 12 [.v (.slice none 0 0)] (tmO (tup .nil)) := by
  obtain ⟨h1, h2, h3⟩ := h12 .nil trivial (by decide)
  refine ⟨h1, h2, fun F w vs hF hG hv => h3 F w vs hF hG ?_⟩
  obtain ⟨u, rfl, h4⟩ := list1 hv
  have e : u = .slice none 0 0 := by simpa [RepV] using h4
  subst e
  exact ⟨_, [], rfl, ⟨trivial, _, [], rfl, Rd.none_ _ _ _, Gh.Ow_none, rfl⟩, rfl⟩

/-- Numbers that a word holds. -/
def lvB (l : List Lv) : Bool := l.all fun p => p.all fun q => inB q.1 && inB q.2
def hdB (h : Hd) : Bool := inB h.k && (inB h.n && (inB h.a && lvB h.l))
theorem hdB_ok {h : Hd} (hb : hdB h = true) : h.fits := by
  simp only [hdB, Bool.and_eq_true] at hb
  refine ⟨inB_ok hb.1, inB_ok hb.2.1, inB_ok hb.2.2.1, fun p hp q hq => ?_⟩
  have := List.all_eq_true.1 (List.all_eq_true.1 hb.2.2.2 p hp) q hq
  simp only [Bool.and_eq_true] at this
  exact ⟨inB_ok this.1, inB_ok this.2⟩
def tsFit : Ts → Bool
  | .nil => true
  | .cons h x r => hdB h && (tsFit x && tsFit r)
theorem tsFit_ok : ∀ {t : Ts}, tsFit t = true → t.fits
  | .nil, _ => trivial
  | .cons h x r, hb => by
    simp only [tsFit, Bool.and_eq_true] at hb
    exact ⟨hdB_ok hb.1, tsFit_ok hb.2.1, tsFit_ok hb.2.2⟩
def tmFit (t : Tm) : Bool := (hdB t.h && tsFit t.x) && decide (t.size ≤ 1000000)
theorem tmFit_ok {t : Tm} (h : tmFit t = true) : t.fits ∧ t.size ≤ 1000000 := by
  simp only [tmFit, Bool.and_eq_true, decide_eq_true_eq] at h
  exact ⟨⟨hdB_ok h.1.1, tsFit_ok h.1.2⟩, h.2⟩

def liftB (a : AV) : Option AV := match a with
  | .cons (.agg d) (.cons (.v (.int .i64 n)) (.cons (.v (.int .i64 f)) .nil)) => match tmB d with
    | some t => if tmFit t then some (tmL (t.lift n f)) else none
    | none => none
  | _ => none
theorem liftB_ok {a r : AV} (h : liftB a = some r) : Holds Tryz.prog KA 60 a r ∧ Holds Tryz.prog KA 63 a r := by
  unfold liftB at h
  split at h
  · rename_i d n f
    split at h
    · rename_i t ht
      split at h
      · rename_i hf
        cases h
        obtain ⟨h1, h2⟩ := tmFit_ok hf
        rw [tmB_ok ht]
        exact ⟨(h60 t n f h1 h2).frz, (h63 t n f h1 (by omega)).frz⟩
      · cases h
    · cases h
  · cases h
def tupB (a : AV) : Option AV := match a with
  | .cons (.c d) .nil => match tsB d with
    | some t => if tsFit t && decide (t.size ≤ 1000000) then some (tmL (tup t)) else none
    | none => none
  | .cons (.v (.slice none 0 0)) .nil => some (tmL (tup .nil))
  | _ => none
theorem tupB_ok {a r : AV} (h : tupB a = some r) : Holds Tryz.prog KA 12 a r := by
  unfold tupB at h
  split at h
  · rename_i d
    split at h
    · rename_i t ht
      split at h
      · rename_i hf
        cases h
        simp only [Bool.and_eq_true, decide_eq_true_eq] at hf
        rw [tsB_ok ht]
        exact (h12 t (tsFit_ok hf.1) hf.2).frz
      · cases h
    · cases h
  · cases h; exact k12n.frz
  · cases h
def sliceB' (r : AV) : Bool := match r with
  | .c (.row none _ _ _ .nil) => true
  | .c (.nilr _ _ .nil) => true
  | .v (.slice none 0 0) => true
  | _ => false
theorem sliceB'_ok {r : AV} (h : sliceB' r = true) : r.frz = r ∧ ∀ g v, RepV g r [v] → ∃ p n c, v = .slice p n c := by
  unfold sliceB' at h
  split at h
  · refine ⟨rfl, ?_⟩
    rintro g v ⟨-, v1, _, e, ⟨p, n, c, rfl, -⟩, -⟩
    cases e
    exact ⟨p, n, c, rfl⟩
  · refine ⟨rfl, ?_⟩
    rintro g v ⟨_, e, -⟩
    cases e
    exact ⟨_, _, _, rfl⟩
  · refine ⟨rfl, fun g v h => ?_⟩
    cases h
    exact ⟨_, _, _, rfl⟩
  · cases h
def triedB (call : Nat → AV → Option AV) (a : AV) : Option AV := match a with
  | .cons (.fn (.func g) x y) .nil => if x.isLL && (x.unl && y.unl) then match call g (x.app y) with
      | some r => if sliceB' r then some r else none
      | none => none
    else none
  | _ => none
theorem triedB_ok {call : Nat → AV → Option AV} (hc : ∀ f a r, call f a = some r → Holds Tryz.prog KA f a r) {a r : AV} (h : triedB call a = some r) : Holds Tryz.prog KA 79 a r ∧ Holds Tryz.prog KA 112 a r := by
  unfold triedB at h
  split at h
  · split at h
    · rename_i hb
      simp only [Bool.and_eq_true] at hb
      split at h
      · rename_i r' hr
        split at h
        · rename_i hs
          cases h
          obtain ⟨h1, h2⟩ := sliceB'_ok hs
          have h3 := triedC_holds hb.1 hb.2.1 hb.2.2 (hc _ _ _ hr) h2
          have h4 := triedT_holds hb.1 hb.2.1 hb.2.2 (hc _ _ _ hr) h2
          rw [h1] at h3 h4
          exact ⟨h3, h4⟩
        · cases h
      · cases h
    · cases h
  · cases h
def aboveB (a : AV) : Option AV := match a with
  | .cons (.agg d) (.cons (.v (.int .i64 k)) (.cons (.agg b) .nil)) => match tsB d, tmB b with
    | some t, some b => some (tmL (aboveT k t b))
    | _, _ => none
  | _ => none
theorem tsB_d {d : Dc} {t : Ts} (h : tsB d = some t) : d = .row none 5 26 (tDs ty t) .nil := by
  have := tsB_ok h
  injection this
theorem aboveB_ok {a r : AV} (h : aboveB a = some r) : Holds Tryz.prog KA 218 a r := by
  unfold aboveB at h
  split at h
  · split at h
    · rename_i t b ht hb
      cases h
      rw [tmB_ok hb, tsB_d ht]
      exact k218 _ t b
    · cases h
  · cases h
def rowsOf : Ds → List Ts
  | .row _ _ x _ r => tsOf x :: rowsOf r
  | _ => []
def concatB (a : AV) : Option AV := match a with
  | .cons (.c (.row none 1 22 x .nil)) .nil => let l := rowsOf x; if x.eqB (rowsDs l) && (decide (l.length ≤ 4000000) && decide ((catT l).len ≤ 4000000)) then some (.c (.row none 5 26 (tDs ty (catT l)) .nil)) else none
  | _ => none
theorem concatB_ok {a r : AV} (h : concatB a = some r) : Holds Tryz.prog KA 166 a r := by
  unfold concatB at h
  split at h
  · rename_i x
    simp only at h
    obtain ⟨l, hl⟩ : ∃ l, rowsOf x = l := ⟨_, rfl⟩
    rw [hl] at h
    split at h
    · rename_i hb
      cases h
      simp only [Bool.and_eq_true, decide_eq_true_eq] at hb
      rw [Ds.eqB_ok hb.1]
      exact k166 l hb.2.1 hb.2.2
    · cases h
  · cases h
def cloneB (a : AV) : Option AV := match a with
  | .cons (.c (.row none 2 77 x .nil)) .nil => let p := ptOf x; if x.eqB (ptDs p) && decide (p.length ≤ 2000000) then some (.c (.row none 2 77 (ptDs p) .nil)) else none
  | _ => none
theorem cloneB_ok {a r : AV} (h : cloneB a = some r) : Holds Tryz.prog KA 202 a r := by
  unfold cloneB at h
  split at h
  · rename_i x
    simp only at h
    obtain ⟨p, hp⟩ : ∃ p, ptOf x = p := ⟨_, rfl⟩
    rw [hp] at h
    split at h
    · rename_i hb
      cases h
      simp only [Bool.and_eq_true, decide_eq_true_eq] at hb
      rw [Ds.eqB_ok hb.1]
      exact k202 p hb.2
    · cases h
  · cases h
def sameB (a : AV) : Option AV := match a with
  | .cons (.agg x) (.cons (.agg y) .nil) => match tmB x with
    | some _ => if x.eqB y then some (.v (.bool true)) else none
    | none => none
  | _ => none
theorem sameB_ok {a r : AV} (h : sameB a = some r) : Holds Tryz.prog KA 16 a r := by
  unfold sameB at h
  split at h
  · split at h
    · rename_i t ht
      split at h
      · rename_i hb
        cases h
        rw [← Dc.eqB_ok hb, tmB_ok ht]
        exact k16 t
      · cases h
    · cases h
  · cases h
/-- What is known by hand. -/
def hand : Hand
  | 60 => some fun _ => liftB
  | 63 => some fun _ => liftB
  | 12 => some fun _ => tupB
  | 79 => some triedB
  | 112 => some triedB
  | 218 => some fun _ => aboveB
  | 166 => some fun _ => concatB
  | 202 => some fun _ => cloneB
  | 16 => some fun _ => sameB
  | _ => none
theorem hand_ok : ∀ call, (∀ f a r, call f a = some r → Holds Tryz.prog KA f a r) → ∀ f g, hand f = some g → ∀ a r, g call a = some r → Holds Tryz.prog KA f a r := by
  intro call hc f g hg a r h
  unfold hand at hg
  split at hg
  all_goals cases hg
  · exact (liftB_ok h).1
  · exact (liftB_ok h).2
  · exact tupB_ok h
  · exact (triedB_ok hc h).1
  · exact (triedB_ok hc h).2
  · exact aboveB_ok h
  · exact concatB_ok h
  · exact cloneB_ok h
  · exact sameB_ok h
theorem names_ok (f : Nat) (fn : Func) (h : Tryz.prog.funcs[f]? = some fn) : fn.name ≠ "runtime.NumGoroutine" := by
  have : (Tryz.prog.funcs.toList.all fun fn => fn.name != "runtime.NumGoroutine") = true := by kernel_rfl
  have := List.all_eq_true.1 this fn (List.mem_of_getElem? (by simpa using h))
  simpa using this
/-- What the worker gives holds. -/
theorem work (n : Nat) {f : Nat} {a r : AV} (h : (mach Tryz.prog tb hand n).1 f a = some r) : Holds Tryz.prog KA f a r := (mach_ok tbOk stKA mixed names_ok hand_ok n).1 f a r h
end Go.Proofs.YtkcmapimcgppmaaGreatDoor
end
section
namespace Go.Proofs.YtkcmapimcgppmaaGreatDoor
open Go.RowKit
theorem g9 : HH 9 [] (.v (.bool true)) := work 100000 (by kernel_rfl)
end Go.Proofs.YtkcmapimcgppmaaGreatDoor
end
section
namespace Go.Proofs.YtkcmapimcgppmaaGreatDoor
open Go.RowKit
attribute [local simp] ty_p ty_l ty_t kH tDs lvDs Tm.ts finH elemH ac_skip ac_label ac_region ac_seq ac_cond ac_block ac_loop ac_exit ac_ret seqK_n seqK_r seqK_e vo_nil vo_cons blkK loopK callOf vout aout abuiltin aslice ev startSt nmOf St.out putE updo upd contOf freshC K0 asC fillD fieldOf rowD astore aapp srcOf elsOf tb Dc.tk Dc.dp Dc.over Dc.app Dc.ln Dc.ds Dc.sing Dc.cont AV.cont Ds.hd Value.oneCell' retK resOf one1 AV.imp Dc.imp φOf calleeOf AV.isLL AV.list AV.app AV.arg AV.isL AV.ren Dc.ren Dc.lent tmC tmA tsA iA lo? abin AV.nth Dc.own Dc.toks
theorem g65 (k n : Int) : HH 65 [iA k, iA n] (.agg (.lit (.int .i64 23) (.lit (.int .i64 k) (.lit (.int .i64 n) (.nilr 1 43 (.nilr 5 26 .nil)))))) := by
  refine ab Tryz.func65 Tryz.ntmps65 Tryz.results65 rfl (by decide) (by simp) rfl rfl ?_
  simp
  exact ⟨[], by simp⟩
end Go.Proofs.YtkcmapimcgppmaaGreatDoor
end
section
namespace Go.Proofs.YtkcmapimcgppmaaGreatDoor
open Go.RowKit
attribute [local simp] ty_p ty_l ty_t kH tDs lvDs Tm.ts finH elemH ac_skip ac_label ac_region ac_seq ac_cond ac_block ac_loop ac_exit ac_ret seqK_n seqK_r seqK_e vo_nil vo_cons blkK loopK callOf vout aout abuiltin aslice ev startSt nmOf St.out putE updo upd contOf freshC K0 asC fillD fieldOf rowD astore aapp srcOf elsOf tb Dc.tk Dc.dp Dc.over Dc.app Dc.ln Dc.ds Dc.sing Dc.cont AV.cont Ds.hd Value.oneCell' retK resOf one1 AV.imp Dc.imp φOf calleeOf AV.isLL AV.list AV.app AV.arg AV.isL AV.ren Dc.ren Dc.lent tmC tmA tsA iA lo? abin AV.nth Dc.own Dc.toks stOf envOf bxOf τOf
theorem Ds.dp_app (x y : Ds) : (x.app y).dp x.len = y := by
  induction x with
  | nil => rfl
  | lit v r ih => exact ih
  | row sz e x s r _ _ ih => exact ih
theorem dp_mid (a r : Ts) : (tDs ty (a.app r)).dp (a.len * 5) = tDs ty r := by
  rw [tDs_app, ← tDs_len ty, Ds.dp_app]
theorem app_fits {h : Hd} {y r : Ts} : ∀ {a : Ts}, (a.app (.cons h y r)).fits → h.fits ∧ y.fits
  | .nil, hf => ⟨hf.1, hf.2.1⟩
  | .cons _ _ _, hf => app_fits hf.2.2
theorem app_size {h : Hd} {y r : Ts} : ∀ {a : Ts}, lvSize h.l + y.size + 1 ≤ (a.app (.cons h y r)).size
  | .nil => by simp only [Ts.app, Ts.size]; omega
  | .cons _ _ a => by have := app_size (h := h) (y := y) (r := r) (a := a); simp only [Ts.app, Ts.size]; omega
end Go.Proofs.YtkcmapimcgppmaaGreatDoor
end
section
namespace Go.Proofs.YtkcmapimcgppmaaGreatDoor
open Go.RowKit
attribute [local simp] ty_p ty_l ty_t kH tDs lvDs Tm.ts finH elemH ac_skip ac_label ac_region ac_seq ac_cond ac_block ac_loop ac_exit ac_ret seqK_n seqK_r seqK_e vo_nil vo_cons blkK loopK callOf vout aout abuiltin aslice ev startSt nmOf St.out putE updo upd contOf freshC K0 asC fillD fieldOf rowD astore aapp srcOf elsOf tb Dc.tk Dc.dp Dc.over Dc.app Dc.ln Dc.ds Dc.sing Dc.cont AV.cont Ds.hd Value.oneCell' retK resOf one1 AV.imp Dc.imp φOf calleeOf AV.isLL AV.list AV.app AV.arg AV.isL AV.ren Dc.ren Dc.lent tmC tmA tsA iA lo? abin AV.nth Dc.own Dc.toks
theorem g58 (k n : Int) : HH 58 [iA k, iA n] (.agg (.lit (.int .i64 23) (.lit (.int .i64 k) (.lit (.int .i64 n) (.nilr 1 43 (.nilr 5 26 .nil)))))) := by
  refine ab Tryz.func58 Tryz.ntmps58 Tryz.results58 rfl (by decide) (by simp) rfl rfl ?_
  simp
  exact ⟨[], by simp⟩
theorem size_app : ∀ (a b : Ts), (a.app b).size = a.size + b.size
  | .nil, b => by simp [Ts.app, Ts.size]
  | .cons h x a, b => by simp only [Ts.app, Ts.size, size_app a b]; omega
end Go.Proofs.YtkcmapimcgppmaaGreatDoor
end
section
namespace Go.Proofs.YtkcmapimcgppmaaGreatDoor
open Go.RowKit

theorem tm_arg {w : World} {t : Tm} {v : Value} (h : RM ty w v t.h t.x) : RepV (argGh (U w) w) (tmL t) [v] := tm_rep (g := argGh (U w) w) h
theorem ts_arg {w : World} {t : Ts} {v : Value} (h : RT ty w v t) : RepV (argGh (U w) w) (tsA none t) [v] := ⟨tDs_good t, v, [], rfl, h, Gh.Ow_none, rfl⟩
theorem i_arg {w : World} (n : Int) : RepV (argGh (U w) w) (iA n) [.int .i64 n] := rfl
theorem arg1 {g : Gh} {a : AV} {u : Value} (h : RepV g a [u]) : RepV g (.list [a]) [u] := ⟨u, [], rfl, h, rfl⟩
theorem arg2 {g : Gh} {a b : AV} {u v : Value} (h : RepV g a [u]) (k : RepV g b [v]) : RepV g (.list [a, b]) [u, v] := ⟨u, [v], rfl, h, arg1 k⟩
theorem res_U {w w' : World} (hb : Below w.heap.size w w') {b o : Nat} {u : Value} (h : (if b < w.heap.size then U w b o else U w' b o) = some u) : U w' b o = some u := by
  split at h
  · rename_i hlt; exact U_below hb _ _ _ hlt h
  · exact h
theorem HH.val {f : Nat} {ps : List AV} {x : Value} (h : HH f ps (.v x)) {w : World} {vs : List Value} (hG : KA w) (hv : RepV (argGh (U w) w) (.list ps) vs) : Calls Tryz.prog f vs.toArray w fun e w' => e = .returned x ∧ Below w.heap.size w w' :=
  (h.2.2 (U w) w vs (fun _ _ _ h => h) hG hv).mono fun e w' ⟨v, fp, h1, h2, h3, _⟩ => by
    have e2 : v = x := by simpa [RepV] using h3
    subst e2
    exact ⟨h1, h2⟩
theorem HH.lent {f : Nat} {ps : List AV} {t : Tm} (h : HH f ps (tmL t)) {w : World} {vs : List Value} (hG : KA w) (hv : RepV (argGh (U w) w) (.list ps) vs) : Calls Tryz.prog f vs.toArray w fun e w' => ∃ v, e = .returned v ∧ Below w.heap.size w w' ∧ RM ty w' v t.h t.x :=
  (h.2.2 (U w) w vs (fun _ _ _ h => h) hG hv).mono fun e w' ⟨v, fp, h1, h2, h3, _⟩ => by
    refine ⟨v, h1, h2, ?_⟩
    obtain ⟨ys, e, h⟩ := h3
    obtain ⟨-, _, rfl, -, _, rfl, -, _, rfl, -, v1, _, rfl, h4, -, -, v2, _, rfl, h5, -, rfl⟩ := h
    cases e
    obtain ⟨p, n, c, rfl, -⟩ := id h4
    obtain ⟨p', n', c', rfl, -⟩ := id h5
    exact ⟨p, n, c, p', n', c', rfl, h4.mono (fun b o v _ hu => res_U h2 hu) (Nat.le_refl _), h5.mono (fun b o v _ hu => res_U h2 hu) (Nat.le_refl _)⟩
theorem HH.row {f : Nat} {ps : List AV} {t : Ts} (h : HH f ps (tsA none t)) {w : World} {vs : List Value} (hG : KA w) (hv : RepV (argGh (U w) w) (.list ps) vs) : Calls Tryz.prog f vs.toArray w fun e w' => ∃ v, e = .returned v ∧ Below w.heap.size w w' ∧ RT ty w' v t :=
  (h.2.2 (U w) w vs (fun _ _ _ h => h) hG hv).mono fun e w' ⟨v, fp, h1, h2, h3, _⟩ => by
    obtain ⟨-, v1, _, e, h4, -, -⟩ := h3
    cases e
    exact ⟨v, h1, h2, h4.mono (fun b o v _ hu => res_U h2 hu) (Nat.le_refl _)⟩
theorem HH.made {f : Nat} {ps : List AV} {t : Tm} (h : HH f ps (tmO t)) {w : World} {vs : List Value} (hG : KA w) (hv : RepV (argGh (U w) w) (.list ps) vs) : Calls Tryz.prog f vs.toArray w (MakesT t.h t.x w) :=
  (h.2.2 (U w) w vs (fun _ _ _ h => h) hG hv).mono fun e w' ⟨v, fp, h1, h2, h3, h6, h7⟩ => by
    obtain ⟨ys, e, h⟩ := h3
    obtain ⟨-, _, rfl, -, _, rfl, -, _, rfl, -, v1, _, rfl, h4, o1, -, v2, _, rfl, h5, o2, rfl⟩ := h
    cases e
    obtain ⟨p, n, c, rfl, -⟩ := id h4
    obtain ⟨p', n', c', rfl, -⟩ := id h5
    obtain ⟨-, S1, w1, n1, m1⟩ := o1 (0, 0) rfl
    obtain ⟨-, S2, w2, n2, m2⟩ := o2 (0, 1) rfl
    obtain ⟨_, _, z1, u1, B1, A1, A2, A3, e1, a1, a2, a3, ⟨e5, rfl⟩, rfl⟩ := w1
    cases e1
    have hS : ∀ x, x ∈ B1 ++ (A1 ++ (A2 ++ [])) → x ∉ S2 := fun x hx hy => by
      have := h7 _ _ x (m1 x hx) (m2 x hy)
      cases this
    refine ⟨p, n, c, p', n', c', B1 ++ (A1 ++ (A2 ++ S2)), h1, h2, ⟨_, rfl, _, rfl, _, rfl, _, _, z1, u1, B1, A1, A2, S2, rfl, a1, a2, a3, w2, rfl⟩, ?_⟩
    have e : B1 ++ (A1 ++ (A2 ++ S2)) = (B1 ++ (A1 ++ (A2 ++ []))) ++ S2 := by simp [List.append_assoc]
    rw [e]
    exact List.nodup_append.2 ⟨n1, n2, fun x hx y hy e => by subst e; exact hS x hx hy⟩
/-- What the law asks. -/
theorem awake_any {w : World} (hG : KA w) : Calls Tryz.prog 9 #[] w fun e w' => e = .returned (.bool true) ∧ Below w.heap.size w w' := g9.val hG rfl
end Go.Proofs.YtkcmapimcgppmaaGreatDoor
end
section
namespace Go.Proofs.YtkcmapimcgppmaaGreatDoor
open Go.RowKit

theorem Rd.whole {F : Nat → Nat → Option Value} {hi : Nat} {q : Option Addr} {n c sz m : Nat} {x s : Ds} (h : Rd F hi (.slice q n c) sz x s) (hs : s.len = m * sz) (hm : 0 < m) (hz : 0 < sz) : n + m ≤ c ∧ Rd F hi (.slice q (n + m) c) sz (x.app s) .nil := by
  obtain ⟨q', n', c', e1, h2, h3, h4, h5, h6⟩ := h
  cases e1
  have hle : n + m ≤ c := by
    rw [← h2, hs, ← Nat.add_mul] at h5
    exact Nat.le_of_mul_le_mul_right h5 hz
  refine ⟨hle, _, _, _, rfl, by rw [Ds.app_len, ← h2, hs, Nat.add_mul], hle, h4, by simp only [Ds.len]; rw [Ds.app_len]; omega, ?_⟩
  rcases h6 with ⟨rfl, rfl⟩ | ⟨-, h7, -⟩ | ⟨b, o, rfl, hl, ha, hs'⟩
  · omega
  · exfalso
    rw [h7] at hs
    have := Nat.mul_pos hm hz
    omega
  · exact .inr (.inr ⟨b, o, rfl, hl, At.app.2 ⟨ha, hs'⟩, trivial⟩)
theorem ptMarks_at (k n i : Nat) (h : i < n) : (ptMarks k n)[i]'(by rw [ptMarks_len]; exact h) = ptMark k i := by
  induction n with
  | zero => omega
  | succ n ih =>
    by_cases hi : i < n
    · have := ih hi
      simp only [ptMarks]
      rw [List.getElem_append_left (by rw [ptMarks_len]; exact hi)]
      exact this
    · obtain rfl : i = n := by omega
      simp only [ptMarks]
      rw [List.getElem_append_right (by rw [ptMarks_len]; exact Nat.le_refl _)]
      simp [ptMarks_len]

set_option maxHeartbeats 2000000 in
theorem keptParts_any (p : Lv) (va vb : Value) (w : World) (ha : Rd (U w) w.heap.size va 2 (ptDs p) (ptDs (ptMarks 1 12))) (hb : RP w vb p) (hn : p.length ≤ 2000000) : Calls Tryz.prog 183 #[va, vb] w fun e w' => e = .returned (.bool true) ∧ Below w.heap.size w w' := by
  obtain ⟨q, c, rfl, hc1, hc2, -⟩ := RP.slice (w := w) (p := p) ha.plain
  obtain ⟨q', c', rfl, hc3, hc4, -⟩ := hb.slice
  unfold maxLen at hc2 hc4
  obtain ⟨hc5, hall⟩ := ha.whole (m := 12) (by rw [ptDs_len, ptMarks_len]) (by decide) (by decide)
  rw [← ptDs_app] at hall
  have HA : Hid (RP w (.slice q (p.length + 12) c) (p ++ ptMarks 1 12)) := Lib.hid hall
  have HB := Lib.hid hb
  obtain ⟨n, hpn⟩ : ∃ n, p.length = n := ⟨_, rfl⟩
  have HN := Lib.hid hpn
  rw [hpn] at HA HB hc1 hc3 hc5 hn ⊢
  have hne : ((n : Int) != (n : Int)) = false := by simp
  clear ha hb hall hpn
  go_enter Tryz.func183, Tryz.ntmps183
  go_wp2_with fail
  clear hne
  go_loopw [6] (fun i wr => ∃ k : Nat, k ≤ n + 12 ∧ i = .int .i64 k ∧ Below w.heap.size w wr) (fun i _ => n + 12 - (intOf i).toNat)
  case atStart => exact ⟨0, Nat.zero_le _, rfl, Below.refl _ _⟩
  case round =>
    obtain ⟨k, hk, rfl, hB⟩ := hrel
    have HBB := Lib.hid hB
    clear hB
    by_cases hlt : k < n + 12
    · have r1 : decide ((k : Int) < (n : Int) + 12) = true := decide_eq_true (by omega)
      obtain ⟨b, o, rfl, hb1, hu1, hu2⟩ := (HA.out.on HBB.out).at_ (k := k) (by rw [List.length_append, ptMarks_len, HN.out]; exact hlt)
      by_cases hkn : k < n
      · have r2 : decide ((k : Int) < (n : Int)) = true := decide_eq_true (by omega)
        have r3 : decide ((n : Int) ≤ (k : Int)) = false := decide_eq_false (by omega)
        have r4 : decide (n ≤ k) = false := decide_eq_false (by omega)
        have i0 : (0 : Int) ≤ (k : Int) := by omega
        have i1 : (k : Int) < (n : Int) + 12 := by omega
        have i2 : (k : Int) < (n : Int) := by omega
        obtain ⟨b', o', rfl, hb2, hu3, hu4⟩ := (HB.out.on HBB.out).at_ (k := k) (by rw [HN.out]; exact hkn)
        have hg : (p ++ ptMarks 1 12)[k]'(by rw [List.length_append, ptMarks_len, HN.out]; exact hlt) = p[k]'(by rw [HN.out]; exact hkn) := List.getElem_append_left _
        rw [hg] at hu1 hu2
        have e1 := U_cell hu1
        have e2 := U_cell hu2
        have e3 := U_cell hu3
        have e4 := U_cell hu4
        obtain ⟨x, hx⟩ : ∃ x, (p[k]'(by rw [HN.out]; exact hkn)).1 = x := ⟨_, rfl⟩
        obtain ⟨y, hy⟩ : ∃ x, (p[k]'(by rw [HN.out]; exact hkn)).2 = x := ⟨_, rfl⟩
        rw [hx] at e1 e3
        rw [hy] at e2 e4
        clear hu1 hu2 hu3 hu4 hg hx hy
        go_wp2_with fail
        go_quiet (fail)
        go_wp2_with fail
        go_roundw
        case rel => exact ⟨k + 1, by omega, by go_num, below_step HBB.out (below_drewN wr _)⟩
        case measure => simp [intOf]; omega
      · have r2 : decide ((k : Int) < (n : Int)) = false := decide_eq_false (by omega)
        have r4 : decide (n ≤ k) = true := decide_eq_true (by omega)
        have i0 : (0 : Int) ≤ (k : Int) := by omega
        have i1 : (k : Int) < (n : Int) + 12 := by omega
        have hg : (p ++ ptMarks 1 12)[k]'(by rw [List.length_append, ptMarks_len, HN.out]; exact hlt) = ptMark 1 (k - n) := by
          rw [List.getElem_append_right (by rw [HN.out]; omega)]
          simp only [HN.out]
          exact ptMarks_at 1 12 (k - n) (by omega)
        rw [hg] at hu1 hu2
        obtain ⟨j, hj⟩ : ∃ j, k - n = j := ⟨_, rfl⟩
        rw [hj] at hu1 hu2
        have i2 : (k : Int) - (n : Int) = (j : Int) := by omega
        have HM : Hid (∀ W, Calls Tryz.prog 210 #[.int .i64 1, .int .i64 j] W fun e w' => e = .returned (.agg #[.int .i64 0, .int .i64 (mark 1 j)]) ∧ Below W.heap.size W w') := fun W => markPart_any 1 j W (by decide) (by omega)
        obtain ⟨m, hm⟩ : ∃ m, mark 1 j = m := ⟨_, rfl⟩
        rw [hm] at HM
        have e1 : ∀ n : Grown wr, n.it.cell? ⟨b, o + k * 2, none⟩ = some (.int .i64 0) := Grown.cell hu1
        have e2 : ∀ n : Grown wr, n.it.cell? ⟨b, o + k * 2 + 1, none⟩ = some (.int .i64 m) := by rw [← hm]; exact Grown.cell hu2
        clear hu1 hu2 hg hm hj
        go_wp2_with fail
        refine wp_region_calm (by kernel_rfl) (by kernel_rfl) ?_
        repeat (go_big_quiet_step (exact calm_of (HM.out _)))
        refine wpQuiet_nil ?_
        intro _ hw'
        obtain ⟨nq, hw''⟩ := hw'
        subst hw''
        have HNQ := Lib.hid nq.below
        clear e1 e2
        obtain ⟨wq, hwq⟩ : ∃ wq, nq.it = wq := ⟨_, rfl⟩
        rw [hwq] at HNQ ⊢
        clear hwq nq
        go_wp2_with fail
        go_roundw
        case rel => exact ⟨k + 1, by omega, by go_num, below_step HBB.out HNQ.out⟩
        case measure => simp [intOf]; omega
    · have r1 : decide ((k : Int) < (n : Int) + 12) = false := decide_eq_false (by omega)
      go_wp2_with fail
      go_ret
      exact ⟨rfl, HBB.out⟩
end Go.Proofs.YtkcmapimcgppmaaGreatDoor
end
section
namespace Go.Proofs.YtkcmapimcgppmaaGreatDoor
open Go.RowKit

set_option maxHeartbeats 2000000 in
theorem keptLevel_any (p : Lv) (q q' : Option Addr) (n n' c c' : Nat) (w : World) (ha : Rd (U w) w.heap.size (.slice q n c) 2 (ptDs p) (ptDs (ptMarks 1 12))) (hb : RP w (.slice q' n' c') p) (hn : p.length ≤ 2000000) :
    Calls Tryz.prog 104 #[.agg #[.slice q n c], .agg #[.slice q' n' c']] w fun e w' => e = .returned (.bool true) ∧ Below w.heap.size w w' := by
  obtain ⟨W0, hW0⟩ : ∃ W0, (w.alloc (.cells #[.slice q n c] 43)).alloc (.cells #[.slice q' n' c'] 43) = W0 := ⟨_, rfl⟩
  have hB0 : Below w.heap.size w W0 := by rw [← hW0]; exact below_step (below_alloc _ _) (below_alloc _ _)
  have c1 : U W0 w.heap.size 0 = some (.slice q n c) := by rw [← hW0]; exact U_below (below_alloc _ _) _ _ _ (by simp) (laid_cell rfl)
  have c2 : U W0 (w.heap.size + 1) 0 = some (.slice q' n' c') := by
    have := laid_cell (w := w.alloc (.cells #[.slice q n c] 43)) (cs := #[.slice q' n' c']) (ty := 43) (o := 0) rfl
    rw [World.size_alloc, hW0] at this
    exact this
  have HS : Hid (∀ W, Below w.heap.size w W → Calls Tryz.prog 127 #[.agg #[.slice q n c], .agg #[.slice q' n' c']] W fun e w' => e = .returned (.bool true) ∧ Below W.heap.size W w') := fun W hW => sameLevel_any p _ _ _ _ _ _ W (Rd.plain (ha.on hW)) (hb.on hW)
  have HK : Hid (∀ W, Below w.heap.size w W → Calls Tryz.prog 183 #[.slice q n c, .slice q' n' c'] W fun e w' => e = .returned (.bool true) ∧ Below W.heap.size W w') := fun W hW => keptParts_any p _ _ W (ha.on hW) (hb.on hW) hn
  have d1 := U_cell c1
  have d2 := U_cell c2
  have HB0 := Lib.hid hB0
  have C1 := Lib.hid c1
  have C2 := Lib.hid c2
  clear ha hb hn hB0 c1 c2
  go_enter Tryz.func104, Tryz.ntmps104
  go_wp2_with fail
  refine (HS.out _ HB0.out).mono ?_
  rintro e w1 ⟨rfl, hb1⟩
  have g1 := U_cell (U_below hb1 _ _ _ (U_lt C1.out) C1.out)
  have g2 := U_cell (U_below hb1 _ _ _ (U_lt C2.out) C2.out)
  have HB1 := Lib.hid (below_step HB0.out hb1)
  clear hb1 hW0 d1 d2
  go_wp2_with fail
  refine (HK.out _ HB1.out).mono ?_
  rintro e w2 ⟨rfl, hb2⟩
  have HB2 := Lib.hid (below_step HB1.out hb2)
  clear hb2
  go_wp2_with fail
  go_ret
  exact ⟨rfl, HB2.out⟩
theorem lvMarks_at (k n i : Nat) (h : i < n) : (lvMarks k n)[i]'(by rw [lvMarks_len]; exact h) = lvMark k i := by
  induction n with
  | zero => omega
  | succ n ih =>
    by_cases hi : i < n
    · have := ih hi
      simp only [lvMarks]
      rw [List.getElem_append_left (by rw [lvMarks_len]; exact hi)]
      exact this
    · obtain rfl : i = n := by omega
      simp only [lvMarks]
      rw [List.getElem_append_right (by rw [lvMarks_len]; exact Nat.le_refl _)]
      simp [lvMarks_len]
/-- With their marks they read as such with marks, without, as levels. -/
theorem Rd.lentLv_plain {w : World} {v : Value} {l : List Lv} {s : Ds} (h : Rd (U w) w.heap.size v 1 (lentLv ty l) s) : RL ty w v l := by
  have := h.strip
  rw [lentLv_strip] at this
  exact this

set_option maxHeartbeats 4000000 in
theorem keptLevels_any (l : List Lv) (va vb : Value) (w : World) (ha : Rd (U w) w.heap.size va 1 (lentLv ty l) (lvDs ty (lvMarks 1 12))) (hb : RL ty w vb l) (hs : lvSize l ≤ 2000000) : Calls Tryz.prog 67 #[va, vb] w fun e w' => e = .returned (.bool true) ∧ Below w.heap.size w w' := by
  obtain ⟨q, c, rfl, hc1, hc2, -⟩ := RL.slice (y := ty) (w := w) (l := l) ha.lentLv_plain
  obtain ⟨q', c', rfl, hc3, hc4, -⟩ := hb.slice
  unfold maxLen at hc2 hc4
  obtain ⟨hc5, hall⟩ := ha.whole (m := 12) (by rw [lvDs_len, lvMarks_len]) (by decide) (by decide)
  have HA := Lib.hid ha
  have HW := Lib.hid hall
  have HB := Lib.hid hb
  have HSZ := Lib.hid hs
  have hl : l.length ≤ 2000000 := by
    have : ∀ l : List Lv, l.length ≤ lvSize l := by
      intro l
      induction l with
      | nil => simp
      | cons a r ih => simp only [List.length_cons, lvSize]; omega
    have := this l
    omega
  obtain ⟨n, hpn⟩ : ∃ n, l.length = n := ⟨_, rfl⟩
  have HN := Lib.hid hpn
  rw [hpn] at HA HW HB hc1 hc3 hc5 hl ⊢
  have hne : ((n : Int) != (n : Int)) = false := by simp
  clear ha hb hall hpn hs
  go_enter Tryz.func67, Tryz.ntmps67
  go_wp2_with fail
  clear hne
  go_loopw [6] (fun i wr => ∃ k : Nat, k ≤ n + 12 ∧ i = .int .i64 k ∧ Below w.heap.size w wr) (fun i _ => n + 12 - (intOf i).toNat)
  case atStart => exact ⟨0, Nat.zero_le _, rfl, Below.refl _ _⟩
  case round =>
    obtain ⟨k, hk, rfl, hB⟩ := hrel
    have HBB := Lib.hid hB
    clear hB
    by_cases hlt : k < n + 12
    · have r1 : decide ((k : Int) < (n : Int) + 12) = true := decide_eq_true (by omega)
      have i0 : (0 : Int) ≤ (k : Int) := by omega
      have i1 : (k : Int) < (n : Int) + 12 := by omega
      by_cases hkn : k < n
      · have r2 : decide ((k : Int) < (n : Int)) = true := decide_eq_true (by omega)
        have r4 : decide (n ≤ k) = false := decide_eq_false (by omega)
        have i2 : (k : Int) < (n : Int) := by omega
        obtain ⟨b, o, rfl, hlb, hAt, -⟩ := Rd.lies (HA.out.on HBB.out) (by omega)
        obtain ⟨v, hv, hrv⟩ := lentLv_at hAt (k := k) (by rw [HN.out]; exact hkn)
        obtain ⟨r, m, d, rfl, -⟩ := Rd.slice hrv
        obtain ⟨b', o', rfl, hb2, r', d', hu2, -, -, hr2⟩ := (HB.out.on HBB.out).at_ (k := k) (by rw [HN.out]; exact hkn)
        have hsz := lvSize_at (l := l) (k := k) (by rw [HN.out]; exact hkn)
        obtain ⟨z, hz⟩ : ∃ z : Nat, (l[k]'(by rw [HN.out]; exact hkn)).length = z := ⟨_, rfl⟩
        rw [hz] at hu2 hr2 hsz
        have HK : Hid (∀ W : Grown wr, Calls Tryz.prog 104 #[.agg #[.slice r m d], .agg #[.slice r' z d']] W.it fun e w' => e = .returned (.bool true) ∧ Below W.it.heap.size W.it w') := fun W => keptLevel_any _ _ _ _ _ _ _ W.it (hrv.on W.below) (hr2.on W.below) (by rw [hz]; have := HSZ.out; omega)
        have e1 : ∀ n : Grown wr, n.it.cell? ⟨b, o + k, none⟩ = some (.slice r m d) := Grown.cell hv
        have e2 : ∀ n : Grown wr, n.it.cell? ⟨b', o' + k, none⟩ = some (.slice r' z d') := Grown.cell hu2
        clear hv hu2 hrv hr2 hAt hz hsz
        go_wp2_with fail
        refine wp_region_calm (by kernel_rfl) (by kernel_rfl) ?_
        repeat (go_big_quiet_step (exact calm_of (HK.out _)))
        refine wpQuiet_nil ?_
        intro _ hw'
        obtain ⟨nq, hw''⟩ := hw'
        subst hw''
        have HNQ := Lib.hid nq.below
        clear e1 e2
        obtain ⟨wq, hwq⟩ : ∃ wq, nq.it = wq := ⟨_, rfl⟩
        rw [hwq] at HNQ ⊢
        clear hwq nq
        go_wp2_with fail
        go_roundw
        case rel => exact ⟨k + 1, by omega, by go_num, below_step HBB.out HNQ.out⟩
        case measure => simp [intOf]; omega
      · have r2 : decide ((k : Int) < (n : Int)) = false := decide_eq_false (by omega)
        have r4 : decide (n ≤ k) = true := decide_eq_true (by omega)
        have r5 : decide (k < n) = false := decide_eq_false (by omega)
        have r6 : decide ((n : Int) ≤ (k : Int)) = true := decide_eq_true (by omega)
        obtain ⟨b, o, rfl, hlb, hAt, -⟩ := Rd.lies (HW.out.on HBB.out) (by omega)
        have hAt2 := (At.app.1 hAt).2
        obtain ⟨v, hv, hrv⟩ := lv_at hAt2 (k := k - n) (by rw [lvMarks_len]; omega)
        rw [lentLv_len, HN.out, lvMarks_at 1 12 (k - n) (by omega), show o + n + (k - n) = o + k by omega] at *
        obtain ⟨r, m, d, rfl, -⟩ := Rd.slice hrv
        obtain ⟨j, hj⟩ : ∃ j, k - n = j := ⟨_, rfl⟩
        rw [hj] at hrv
        have i2 : (k : Int) - (n : Int) = (j : Int) := by omega
        have HM : Hid (∀ W, Calls Tryz.prog 121 #[.int .i64 1, .int .i64 j] W fun e w' => ∃ r n d S, e = .returned (.agg #[.slice r n d]) ∧ Below W.heap.size W w' ∧ Own w' W.heap.size (lvDs ty [lvMark 1 j]) [.slice r n d] S ∧ S.Nodup) := fun W => (markLevel_any 1 j W (by decide) (by omega)).mono fun _ _ h => Makes.one h
        have e1 : ∀ n : Grown wr, n.it.cell? ⟨b, o + k, none⟩ = some (.slice r m d) := Grown.cell hv
        have HS : Hid (∀ W r' n' d' S, Below wr.heap.size wr W → Own W wr.heap.size (lvDs ty [lvMark 1 j]) [.slice r' n' d'] S → Calls Tryz.prog 127 #[.agg #[.slice r m d], .agg #[.slice r' n' d']] W fun e w' => e = .returned (.bool true) ∧ Below W.heap.size W w') := fun W r' n' d' S hW ho => by
          obtain ⟨v', ys, e2, h2, -⟩ := ho.vs
          cases e2
          exact sameLevel_any _ _ _ _ _ _ _ W (hrv.on hW) h2
        clear hv hrv hAt hAt2 hj
        go_wp2_with fail
        refine wp_region_take_lit 30 (by decide) (by kernel_rfl) (by kernel_rfl) (by kernel_rfl) (fun _ _ d _ _ h => by cases d <;> exact h) ?_
        simp only [List.take_succ_cons, List.take_zero, List.map_cons, List.map_nil, bar, readKind, List.size_toArray, List.length_cons, List.length_nil, Nat.zero_add, Nat.reduceAdd, if_true, if_false, Bool.false_eq_true]
        repeat (go_big_quiet_step (fail))
        refine wpQuiet_nil ?_
        clear e1
        refine tail_step (i := 30) (fuel := 4) (by kernel_rfl) rfl (by rfl) (fun K' hK => ?_)
        go_simp
        refine (HM.out _).mono ?_
        rintro e wx ⟨r', n', d', S, rfl, hbx, hox, -⟩
        have hBx : Below wr.heap.size wr wx := below_step (below_drew wr) hbx
        refine hK.out _ _ ⟨⟨wx, hBx⟩, rfl⟩ (fun _ => ?_)
        clear hK K'
        refine tail_step (i := 31) (fuel := 3) (by kernel_rfl) rfl (by rfl) (fun K' hK => ?_)
        go_simp
        refine (HS.out _ _ _ _ _ hBx (hox.lower (by simp))).mono ?_
        rintro e wy ⟨rfl, hby⟩
        have hBy : Below wr.heap.size wr wy := below_step hBx hby
        refine hK.out _ _ ⟨⟨wy, hBy⟩, rfl⟩ (fun _ => ?_)
        clear hK K'
        refine tail_step (i := 32) (fuel := 2) (by kernel_rfl) rfl (by rfl) (fun K' hK => ?_)
        go_simp
        refine hK.out _ _ ⟨⟨wy, hBy⟩, rfl⟩ (fun _ => ?_)
        clear hK K'
        refine tail_step (i := 33) (fuel := 1) (by kernel_rfl) rfl (by rfl) (fun K' hK => ?_)
        go_simp
        refine hK.out _ _ ⟨⟨wy, hBy⟩, rfl⟩ (fun _ => ?_)
        clear hK K'
        refine tail_step (i := 34) (fuel := 0) (by kernel_rfl) rfl (by rfl) (fun K' hK => ?_)
        go_simp
        refine hK.out _ _ ⟨⟨wy, hBy⟩, rfl⟩ (fun _ => ?_)
        clear hK K'
        refine wpAnyH_done (by kernel_rfl) ?_ _
        have HNQ := Lib.hid hBy
        clear hBy hBx hby hbx hox
        go_wp2_with fail
        go_roundw
        case rel => exact ⟨k + 1, by omega, by go_num, below_step HBB.out HNQ.out⟩
        case measure => simp [intOf]; omega
    · have r1 : decide ((k : Int) < (n : Int) + 12) = false := decide_eq_false (by omega)
      go_wp2_with fail
      go_ret
      exact ⟨rfl, HBB.out⟩
end Go.Proofs.YtkcmapimcgppmaaGreatDoor
end
