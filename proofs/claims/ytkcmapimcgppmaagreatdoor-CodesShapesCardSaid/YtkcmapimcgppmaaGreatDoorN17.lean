/-
  Levels, terms that read as the same are told to be. Terms that read as the same are told to be. The worker for this program: each function that is known by hand. Conditions: those of what was shown before. The chapter's example is as it should be. Conditions: the table of kinds lies where it was laid. The document's small makers of terms. The document's case. Conditions: no more than 1000000 nodes, levels, parts; numbers that a word holds. The program's small makers of terms, its case. Conditions: no more than 1000000 nodes, levels, parts; numbers that a word holds; the table of kinds lies where it was laid. Contracts over data, told of calls: what is given, what comes back. Parts with marks behind their end are found kept. Conditions: no more than 2000000 parts. Levels with marks are found kept. Conditions: no more than 2000000 parts, levels. Terms with marks are found kept, where their levels are. Conditions: no more than 2000000 nodes, levels, parts. Terms with marks are found kept. Conditions: no more than 2000000 nodes, levels, parts. The program's parts of a tuple, walked. Conditions: no more than 1000000 nodes, levels, parts; twelve parts at most; numbers that a word holds; the table of kinds lies where it was laid. Conditions: as each lemma states them.
-/
import Derived.Test.YtkcmapimcgppmaaGreatDoorN02
import Derived.Laws.StructEq
import Derived.Test.YtkcmapimcgppmaaGreatDoorN16
import Derived.Test.YtkcmapimcgppmaaGreatDoorN08
import Derived.Test.YtkcmapimcgppmaaGreatDoorN14
import Derived.Test.YtkcmapimcgppmaaGreatDoorN01
import Derived.Test.YtkcmapimcgppmaaGreatDoorN09
set_option linter.all false
set_option linter.unusedVariables false
set_option linter.unusedSimpArgs false
set_option linter.unnecessarySimpa false
section
namespace Go.Proofs.YtkcmapimcgppmaaGreatDoor
open Go.RowKit

set_option maxHeartbeats 1000000 in
theorem sameParts_any (p : Lv) (va vb : Value) (w : World) (ha : RP w va p) (hb : RP w vb p) : Calls Tryz.prog 204 #[va, vb] w fun e w' => e = .returned (.bool true) ∧ Below w.heap.size w w' := by
  obtain ⟨q, c, rfl, hc1, hc2, -⟩ := ha.slice
  obtain ⟨q', c', rfl, hc3, hc4, -⟩ := hb.slice
  unfold maxLen at hc2 hc4
  have HA := Lib.hid ha
  have HB := Lib.hid hb
  have hne : ((p.length : Int) != (p.length : Int)) = false := by simp
  clear ha hb
  go_enter Tryz.func204, Tryz.ntmps204
  go_wp2_with fail
  clear hne
  go_loopw [5] (fun i wr => ∃ k : Nat, k ≤ p.length ∧ i = .int .i64 k ∧ Below w.heap.size w wr) (fun i _ => p.length - (intOf i).toNat)
  case atStart => exact ⟨0, Nat.zero_le _, rfl, Below.refl _ _⟩
  case round =>
    obtain ⟨k, hk, rfl, hB⟩ := hrel
    by_cases hlt : k < p.length
    · have r1 : decide ((k : Int) < (p.length : Int)) = true := decide_eq_true (by omega)
      obtain ⟨b, o, rfl, hb1, hu1, hu2⟩ := (HA.out.on hB).at_ hlt
      obtain ⟨b', o', rfl, hb2, hu3, hu4⟩ := (HB.out.on hB).at_ hlt
      have e1 := U_cell hu1
      have e2 := U_cell hu2
      have e3 := U_cell hu3
      have e4 := U_cell hu4
      have HBB := Lib.hid hB
      clear hu1 hu2 hu3 hu4 hB
      go_wp2_with fail
      go_region_with fail
      all_goals (go_wp2_with fail)
      all_goals go_roundw
      all_goals first
        | exact ⟨k + 1, by omega, by go_num, below_step HBB.out (below_drew wr)⟩
        | (simp [intOf]; omega)
    · have r1 : decide ((k : Int) < (p.length : Int)) = false := decide_eq_false (by omega)
      go_wp2_with fail
      go_ret
      exact ⟨rfl, hB⟩

set_option maxHeartbeats 1000000 in
theorem sameLevel_any (p : Lv) (q q' : Option Addr) (n n' c c' : Nat) (w : World) (ha : RP w (.slice q n c) p) (hb : RP w (.slice q' n' c') p) : Calls Tryz.prog 127 #[.agg #[.slice q n c], .agg #[.slice q' n' c']] w fun e w' => e = .returned (.bool true) ∧ Below w.heap.size w w' := by
  have HS : Hid (∀ W, Below w.heap.size w W → Calls Tryz.prog 204 #[.slice q n c, .slice q' n' c'] W fun e w' => e = .returned (.bool true) ∧ Below W.heap.size W w') := fun W hW => sameParts_any p _ _ W (ha.on hW) (hb.on hW)
  clear ha hb
  go_enter Tryz.func127, Tryz.ntmps127
  go_wp2_with fail
  have hB := below_step (below_alloc w (.cells #[.slice q n c] 43)) (below_alloc _ (.cells #[.slice q' n' c'] 43))
  refine (HS.out _ hB).mono ?_
  rintro e w1 ⟨rfl, hb1⟩
  have HB1 := Lib.hid (below_step hB hb1)
  clear hb1 hB
  go_wp2_with fail
  go_ret
  exact ⟨rfl, HB1.out⟩

set_option maxHeartbeats 1000000 in
theorem sameLevels_any (l : List Lv) (va vb : Value) (w : World) (ha : RL ty w va l) (hb : RL ty w vb l) : Calls Tryz.prog 61 #[va, vb] w fun e w' => e = .returned (.bool true) ∧ Below w.heap.size w w' := by
  obtain ⟨q, c, rfl, hc1, hc2, -⟩ := ha.slice
  obtain ⟨q', c', rfl, hc3, hc4, -⟩ := hb.slice
  unfold maxLen at hc2 hc4
  have HA := Lib.hid ha
  have HB := Lib.hid hb
  have hne : ((l.length : Int) != (l.length : Int)) = false := by simp
  clear ha hb
  go_enter Tryz.func61, Tryz.ntmps61
  go_wp2_with fail
  clear hne
  go_loopw [5] (fun i wr => ∃ k : Nat, k ≤ l.length ∧ i = .int .i64 k ∧ Below w.heap.size w wr) (fun i _ => l.length - (intOf i).toNat)
  case atStart => exact ⟨0, Nat.zero_le _, rfl, Below.refl _ _⟩
  case round =>
    obtain ⟨k, hk, rfl, hB⟩ := hrel
    by_cases hlt : k < l.length
    · have r1 : decide ((k : Int) < (l.length : Int)) = true := decide_eq_true (by omega)
      obtain ⟨b, o, rfl, hb1, r, d, hu1, -, -, hr1⟩ := (HA.out.on hB).at_ hlt
      obtain ⟨b', o', rfl, hb2, r', d', hu2, -, -, hr2⟩ := (HB.out.on hB).at_ hlt
      have e1 := U_cell hu1
      have e2 := U_cell hu2
      have HBB := Lib.hid hB
      have HS : Hid (∀ W, Below wr.heap.size wr W → Calls Tryz.prog 127 #[.agg #[.slice r l[k].length d], .agg #[.slice r' l[k].length d']] W fun e w' => e = .returned (.bool true) ∧ Below W.heap.size W w') := fun W hW => sameLevel_any l[k] _ _ _ _ _ _ W (hr1.on hW) (hr2.on hW)
      obtain ⟨z, hz⟩ : ∃ z : Nat, l[k].length = z := ⟨_, rfl⟩
      rw [hz] at e1 e2 HS
      clear hu1 hu2 hB hr1 hr2 hz
      go_wp2_with fail
      go_region_with (go_at_call 127; refine (HS.out _ (by first | exact below_drew _ | assumption)).mono ?_; rintro e wx ⟨rfl, hbx⟩
                      have hBx : Below wr.heap.size wr wx := below_step (by first | exact below_drew _ | assumption) hbx)
      all_goals (go_wp2_with fail)
      all_goals go_roundw
      all_goals first
        | exact ⟨k + 1, by omega, by go_num, below_step HBB.out hBx⟩
        | (simp [intOf]; omega)
    · have r1 : decide ((k : Int) < (l.length : Int)) = false := decide_eq_false (by omega)
      go_wp2_with fail
      go_ret
      exact ⟨rfl, hB⟩
end Go.Proofs.YtkcmapimcgppmaaGreatDoor
end
section
namespace Go.Proofs.YtkcmapimcgppmaaGreatDoor
open Go.RowKit

set_option maxHeartbeats 2000000 in
theorem sameTerm_of (h : Hd) (x : Ts) (va vb : Value) (w : World) (ha : RM ty w va h x) (hb : RM ty w vb h x)
    (hk : ∀ W v v', RT ty W v x → RT ty W v' x → Calls Tryz.prog 20 #[v, v'] W fun e w' => e = .returned (.bool true) ∧ Below W.heap.size W w') :
    Calls Tryz.prog 16 #[va, vb] w fun e w' => e = .returned (.bool true) ∧ Below w.heap.size w w' := by
  obtain ⟨q, c, r, d, rfl, -, -, -, -, hl, hx⟩ := ha.agg
  obtain ⟨q', c', r', d', rfl, -, -, -, -, hl', hx'⟩ := hb.agg
  obtain ⟨n, hn⟩ : ∃ n, h.l.length = n := ⟨_, rfl⟩
  obtain ⟨m, hm⟩ : ∃ m, x.len = m := ⟨_, rfl⟩
  rw [hn] at hl hl' ⊢
  rw [hm] at hx hx' ⊢
  obtain ⟨k0, hk0⟩ : ∃ k, h.k = k := ⟨_, rfl⟩
  obtain ⟨n0, hn0⟩ : ∃ k, h.n = k := ⟨_, rfl⟩
  obtain ⟨a0, ha0⟩ : ∃ k, h.a = k := ⟨_, rfl⟩
  rw [hk0, hn0, ha0]
  obtain ⟨W0, hW0⟩ : ∃ W0, (w.alloc (.cells #[.int .i64 k0, .int .i64 n0, .int .i64 a0, .slice q n c, .slice r m d] 26)).alloc (.cells #[.int .i64 k0, .int .i64 n0, .int .i64 a0, .slice q' n c', .slice r' m d'] 26) = W0 := ⟨_, rfl⟩
  have hB0 : Below w.heap.size w W0 := by rw [← hW0]; exact below_step (below_alloc _ _) (below_alloc _ _)
  have hs0 : W0.heap.size = w.heap.size + 2 := by rw [← hW0]; simp
  have p1 : ∀ o v, (#[.int .i64 k0, .int .i64 n0, .int .i64 a0, .slice q n c, .slice r m d] : Array Value)[o]? = some v → U W0 w.heap.size o = some v := fun o v hv => by
    rw [← hW0]; exact U_below (below_alloc _ _) _ _ _ (by simp) (laid_cell hv)
  have p2 : ∀ o v, (#[.int .i64 k0, .int .i64 n0, .int .i64 a0, .slice q' n c', .slice r' m d'] : Array Value)[o]? = some v → U W0 (w.heap.size + 1) o = some v := fun o v hv => by
    have := laid_cell (w := w.alloc (.cells #[.int .i64 k0, .int .i64 n0, .int .i64 a0, .slice q n c, .slice r m d] 26)) (ty := 26) hv
    rw [World.size_alloc, hW0] at this
    exact this
  have c0 := U_cell (p1 0 _ rfl)
  have c1 := U_cell (p1 1 _ rfl)
  have c2 := U_cell (p1 2 _ rfl)
  have c3 := U_cell (p1 3 _ rfl)
  have c4 := U_cell (p1 4 _ rfl)
  have d0 := U_cell (p2 0 _ rfl)
  have d1 := U_cell (p2 1 _ rfl)
  have d2 := U_cell (p2 2 _ rfl)
  have d3 := U_cell (p2 3 _ rfl)
  have d4 := U_cell (p2 4 _ rfl)
  have H61 : Hid (∀ W, Below w.heap.size w W → Calls Tryz.prog 61 #[.slice q n c, .slice q' n c'] W fun e w' => e = .returned (.bool true) ∧ Below W.heap.size W w') := fun W hW => sameLevels_any h.l _ _ W (hl.on hW) (hl'.on hW)
  have H20 : Hid (∀ W, Below w.heap.size w W → Calls Tryz.prog 20 #[.slice r m d, .slice r' m d'] W fun e w' => e = .returned (.bool true) ∧ Below W.heap.size W w') := fun W hW => hk W _ _ (hx.on hW) (hx'.on hW)
  have HB0 := Lib.hid hB0
  have P1 := Lib.hid p1
  have P2 := Lib.hid p2
  have HS0 := Lib.hid hs0
  clear hl hl' hx hx' hk ha hb hn hm hk0 hn0 ha0 hB0 p1 p2 hs0
  have b0 : (k0 == k0) = true := by simp
  have b1 : (n0 == n0) = true := by simp
  have b2 : (a0 == a0) = true := by simp
  go_enter Tryz.func16, Tryz.ntmps16
  go_wp2_with fail
  refine (H61.out _ HB0.out).mono ?_
  rintro e w1 ⟨rfl, hb1⟩
  have g4 := (hb1.cell (p := ⟨w.heap.size, 4, none⟩) (by have := HS0.out; simp; omega)).trans c4
  have k4 := (hb1.cell (p := ⟨w.heap.size + 1, 4, none⟩) (by have := HS0.out; simp; omega)).trans d4
  have HB1 := Lib.hid (below_step HB0.out hb1)
  clear hb1 hW0 c0 c1 c2 c3 c4 d0 d1 d2 d3 d4
  go_wp2_with fail
  refine (H20.out _ HB1.out).mono ?_
  rintro e w2 ⟨rfl, hb2⟩
  have HB2 := Lib.hid (below_step HB1.out hb2)
  clear hb2
  go_wp2_with fail
  go_ret
  exact ⟨rfl, HB2.out⟩

set_option maxHeartbeats 2000000 in
theorem sameTerms_any (M : Nat) : ∀ (t : Ts) (va vb : Value) (w : World), t.count < M → RT ty w va t → RT ty w vb t → Calls Tryz.prog 20 #[va, vb] w fun e w' => e = .returned (.bool true) ∧ Below w.heap.size w w' := by
  induction M with
  | zero => intro t va vb w hm; omega
  | succ M ih =>
    intro t va vb w hm ha hb
    obtain ⟨q, c, rfl, hc1, hc2, -⟩ := ha.slice
    obtain ⟨q', c', rfl, hc3, hc4, -⟩ := hb.slice
    unfold maxLen at hc2 hc4
    have HA := Lib.hid ha
    have HB := Lib.hid hb
    have IH := Lib.hid ih
    have HM := Lib.hid hm
    have hne : ((t.len : Int) != (t.len : Int)) = false := by simp
    clear ha hb ih hm
    go_enter Tryz.func20, Tryz.ntmps20
    go_wp2_with fail
    clear hne
    go_loopw [5] (fun i wr => ∃ k : Nat, k ≤ t.len ∧ i = .int .i64 k ∧ Below w.heap.size w wr) (fun i _ => t.len - (intOf i).toNat)
    case atStart => exact ⟨0, Nat.zero_le _, rfl, Below.refl _ _⟩
    case round =>
      obtain ⟨k, hk, rfl, hB⟩ := hrel
      by_cases hlt : k < t.len
      · have r1 : decide ((k : Int) < (t.len : Int)) = true := decide_eq_true (by omega)
        obtain ⟨b, o, rfl, hb1, hu1, hu2, hu3, ⟨r, d, hu4, -, -, hr1⟩, ⟨s, f, hu5, -, -, hs1⟩⟩ := (HA.out.on hB).at_ hlt
        obtain ⟨b', o', rfl, hb2, hv1, hv2, hv3, ⟨r', d', hv4, -, -, hr2⟩, ⟨s', f', hv5, -, -, hs2⟩⟩ := (HB.out.on hB).at_ hlt
        have e1 := U_cell hu1
        have e2 := U_cell hu2
        have e3 := U_cell hu3
        have e4 := U_cell hu4
        have e5 := U_cell hu5
        have f1 := U_cell hv1
        have f2 := U_cell hv2
        have f3 := U_cell hv3
        have f4 := U_cell hv4
        have f5 := U_cell hv5
        have hcnt := Ts.count_kd hlt
        have HBB := Lib.hid hB
        have HS : Hid (∀ W, Below wr.heap.size wr W → Calls Tryz.prog 16 #[.agg #[.int .i64 (t.hd k).k, .int .i64 (t.hd k).n, .int .i64 (t.hd k).a, .slice r (t.hd k).l.length d, .slice s (t.kd k).len f], .agg #[.int .i64 (t.hd k).k, .int .i64 (t.hd k).n, .int .i64 (t.hd k).a, .slice r' (t.hd k).l.length d', .slice s' (t.kd k).len f']] W fun e w' => e = .returned (.bool true) ∧ Below W.heap.size W w') := fun W hW =>
          sameTerm_of (t.hd k) (t.kd k) _ _ W ⟨_, _, _, _, _, _, rfl, hr1.on hW, hs1.on hW⟩ ⟨_, _, _, _, _, _, rfl, hr2.on hW, hs2.on hW⟩ (fun W' v v' h1 h2 => IH.out (t.kd k) v v' W' (by have := HM.out; omega) h1 h2)
        obtain ⟨z, hz⟩ : ∃ z : Nat, (t.hd k).l.length = z := ⟨_, rfl⟩
        obtain ⟨y, hy⟩ : ∃ y : Nat, (t.kd k).len = y := ⟨_, rfl⟩
        rw [hz] at e4 f4 HS
        rw [hy] at e5 f5 HS
        clear hu1 hu2 hu3 hu4 hu5 hv1 hv2 hv3 hv4 hv5 hB hr1 hr2 hs1 hs2 hz hy hcnt
        go_wp2_with fail
        go_region_with (go_at_call 16; refine (HS.out _ (by first | exact below_drew _ | assumption)).mono ?_; rintro e wx ⟨rfl, hbx⟩
                        have hBx : Below wr.heap.size wr wx := below_step (by first | exact below_drew _ | assumption) hbx)
        all_goals (go_wp2_with fail)
        all_goals go_roundw
        all_goals first
          | exact ⟨k + 1, by omega, by go_num, below_step HBB.out hBx⟩
          | (simp [intOf]; omega)
      · have r1 : decide ((k : Int) < (t.len : Int)) = false := decide_eq_false (by omega)
        go_wp2_with fail
        go_ret
        exact ⟨rfl, hB⟩
theorem sameTerm_any (h : Hd) (x : Ts) (va vb : Value) (w : World) (ha : RM ty w va h x) (hb : RM ty w vb h x) : Calls Tryz.prog 16 #[va, vb] w fun e w' => e = .returned (.bool true) ∧ Below w.heap.size w w' :=
  sameTerm_of h x va vb w ha hb fun W v v' h1 h2 => sameTerms_any _ x v v' W (Nat.lt_succ_self _) h1 h2
end Go.Proofs.YtkcmapimcgppmaaGreatDoor
end
section
namespace Go.Proofs.YtkcmapimcgppmaaGreatDoor
open Go.RowKit

theorem rep_tm {F : Mem} {w : World} {t : Tm} {v : Value} (h : RepV (argGh F w) (tmL t) [v]) : RMx F w.heap.size v t.h t.x := by
  obtain ⟨ys, e, h⟩ := h
  obtain ⟨-, _, rfl, -, _, rfl, -, _, rfl, -, v1, _, rfl, h1, -, -, v2, _, rfl, h2, -, rfl⟩ := h
  cases e
  obtain ⟨p, n, c, rfl, -⟩ := id h1
  obtain ⟨p', n', c', rfl, -⟩ := id h2
  exact ⟨p, n, c, p', n', c', rfl, h1, h2⟩
theorem tm_rep {g : Gh} {t : Tm} {v : Value} (h : RMx g.F g.w.heap.size v t.h t.x) : RepV g (tmL t) [v] := by
  obtain ⟨p, n, c, p', n', c', rfl, h1, h2⟩ := h
  exact ⟨_, rfl, rfl, _, rfl, rfl, _, rfl, rfl, _, rfl, lvDs_good _, _, _, rfl, h1, Gh.Ow_none, tDs_good _, _, _, rfl, h2, Gh.Ow_none, rfl⟩
theorem k218 (k : Int) (t : Ts) (b : Tm) : HH 218 [.agg (.row none 5 26 (tDs ty t) .nil), iA k, tmL b] (tmL (aboveT k t b)) := by
  refine ⟨code_of Tryz.func218 (by decide) rfl, rfl, fun F w vs hF hG hv => ?_⟩
  obtain ⟨u, v, z, rfl, h1, h2, h3⟩ := list3 hv
  rw [iA_eq h2]
  obtain ⟨ys, e1, -, v1, _, rfl, h4, -, rfl⟩ := h1
  cases e1
  have hb := rep_tm h3
  obtain ⟨p, n, c, p', n', c', rfl, -, -⟩ := id hb
  refine (above_any k v1 t _ _ _ _ _ b w F hF h4 hb).mono ?_
  rintro e w' ⟨v, rfl, h5, h6⟩
  exact ⟨v, fun _ => [], rfl, h5, tm_rep h6, fun k b hb => (by cases hb), fun k k' b hb => (by cases hb)⟩
theorem k166 (l : List Ts) (hl : l.length ≤ 4000000) (hn : (catT l).len ≤ 4000000) : HH 166 [.c (.row none 1 22 (rowsDs l) .nil)] (.c (.row none 5 26 (tDs ty (catT l)) .nil)) := by
  refine ⟨code_of Tryz.func166 (by decide) rfl, rfl, fun F w vs hF hG hv => ?_⟩
  obtain ⟨u, rfl, h1⟩ := list1 hv
  obtain ⟨-, v1, _, e1, h4, -, -⟩ := h1
  cases e1
  refine (concat_any l u w F hF h4 hl hn).mono ?_
  rintro e w' ⟨v, rfl, h5, h6⟩
  exact ⟨v, fun _ => [], rfl, h5, ⟨tDs_good _, v, [], rfl, h6, Gh.Ow_none, rfl⟩, fun k b hb => (by cases hb), fun k k' b hb => (by cases hb)⟩
theorem ptDs_good (p : Lv) : (ptDs p).good := by
  induction p with
  | nil => trivial
  | cons a r ih => exact ⟨rfl, rfl, ih⟩
theorem k202 (p : Lv) (hn : p.length ≤ 2000000) : HH 202 [.c (.row none 2 77 (ptDs p) .nil)] (.c (.row none 2 77 (ptDs p) .nil)) := by
  refine ⟨code_of Tryz.func202 (by decide) rfl, rfl, fun F w vs hF hG hv => ?_⟩
  obtain ⟨u, rfl, h1⟩ := list1 hv
  obtain ⟨-, v1, _, e1, h4, -, -⟩ := h1
  cases e1
  refine (cloneParts_any p u w (h4.mono (fun b o v _ hv => hF b o v hv) (Nat.le_refl _)) hn).mono ?_
  rintro e w' ⟨v, S, rfl, h5, h6, h7⟩
  obtain ⟨v', _, e2, h8, -⟩ := Vs.res (F := F) (fp := fun _ => []) (Nat.le_refl _) h6
  cases e2
  exact ⟨v, fun _ => [], rfl, h5, ⟨ptDs_good p, v, [], rfl, h8, Gh.Ow_none, rfl⟩, fun k b hb => (by cases hb), fun k k' b hb => (by cases hb)⟩
theorem k16 (t : Tm) : HH 16 [tmL t, tmL t] (.v (.bool true)) := by
  refine ⟨code_of Tryz.func16 (by decide) rfl, rfl, fun F w vs hF hG hv => ?_⟩
  obtain ⟨u, v, rfl, h1, h2⟩ := list2 hv
  refine (sameTerm_any t.h t.x u v w (tmA_rm hF h1) (tmA_rm hF h2)).mono ?_
  rintro e w' ⟨rfl, h5⟩
  exact ⟨_, fun _ => [], rfl, h5, rfl, fun k b hb => (by cases hb), fun k k' b hb => (by cases hb)⟩
theorem k12n : HH 12 [.v (.slice none 0 0)] (tmO (tup .nil)) := by
  obtain ⟨h1, h2, h3⟩ := h12 .nil trivial (by decide)
  refine ⟨h1, h2, fun F w vs hF hG hv => h3 F w vs hF hG ?_⟩
  obtain ⟨u, rfl, h4⟩ := list1 hv
  have e : u = .slice none 0 0 := by simpa [RepV] using h4
  subst e
  exact ⟨_, [], rfl, ⟨trivial, _, [], rfl, Rd.none_ _ _ _, Gh.Ow_none, rfl⟩, rfl⟩

/-- Numbers that a word holds. -/
def lvB (l : List Lv) : Bool := l.all fun p => p.all fun q => inB q.1 && inB q.2
def hdB (h : Hd) : Bool := inB h.k && (inB h.n && (inB h.a && lvB h.l))
theorem hdB_ok {h : Hd} (hb : hdB h = true) : h.fits := by
  simp only [hdB, Bool.and_eq_true] at hb
  refine ⟨inB_ok hb.1, inB_ok hb.2.1, inB_ok hb.2.2.1, fun p hp q hq => ?_⟩
  have := List.all_eq_true.1 (List.all_eq_true.1 hb.2.2.2 p hp) q hq
  simp only [Bool.and_eq_true] at this
  exact ⟨inB_ok this.1, inB_ok this.2⟩
def tsFit : Ts → Bool
  | .nil => true
  | .cons h x r => hdB h && (tsFit x && tsFit r)
theorem tsFit_ok : ∀ {t : Ts}, tsFit t = true → t.fits
  | .nil, _ => trivial
  | .cons h x r, hb => by
    simp only [tsFit, Bool.and_eq_true] at hb
    exact ⟨hdB_ok hb.1, tsFit_ok hb.2.1, tsFit_ok hb.2.2⟩
def tmFit (t : Tm) : Bool := (hdB t.h && tsFit t.x) && decide (t.size ≤ 1000000)
theorem tmFit_ok {t : Tm} (h : tmFit t = true) : t.fits ∧ t.size ≤ 1000000 := by
  simp only [tmFit, Bool.and_eq_true, decide_eq_true_eq] at h
  exact ⟨⟨hdB_ok h.1.1, tsFit_ok h.1.2⟩, h.2⟩

def liftB (a : AV) : Option AV := match a with
  | .cons (.agg d) (.cons (.v (.int .i64 n)) (.cons (.v (.int .i64 f)) .nil)) => match tmB d with
    | some t => if tmFit t then some (tmL (t.lift n f)) else none
    | none => none
  | _ => none
theorem liftB_ok {a r : AV} (h : liftB a = some r) : Holds Tryz.prog KA 60 a r ∧ Holds Tryz.prog KA 63 a r := by
  unfold liftB at h
  split at h
  · rename_i d n f
    split at h
    · rename_i t ht
      split at h
      · rename_i hf
        cases h
        obtain ⟨h1, h2⟩ := tmFit_ok hf
        rw [tmB_ok ht]
        exact ⟨(h60 t n f h1 h2).frz, (h63 t n f h1 (by omega)).frz⟩
      · cases h
    · cases h
  · cases h
def tupB (a : AV) : Option AV := match a with
  | .cons (.c d) .nil => match tsB d with
    | some t => if tsFit t && decide (t.size ≤ 1000000) then some (tmL (tup t)) else none
    | none => none
  | .cons (.v (.slice none 0 0)) .nil => some (tmL (tup .nil))
  | _ => none
theorem tupB_ok {a r : AV} (h : tupB a = some r) : Holds Tryz.prog KA 12 a r := by
  unfold tupB at h
  split at h
  · rename_i d
    split at h
    · rename_i t ht
      split at h
      · rename_i hf
        cases h
        simp only [Bool.and_eq_true, decide_eq_true_eq] at hf
        rw [tsB_ok ht]
        exact (h12 t (tsFit_ok hf.1) hf.2).frz
      · cases h
    · cases h
  · cases h; exact k12n.frz
  · cases h
def sliceB' (r : AV) : Bool := match r with
  | .c (.row none _ _ _ .nil) => true
  | .c (.nilr _ _ .nil) => true
  | .v (.slice none 0 0) => true
  | _ => false
theorem sliceB'_ok {r : AV} (h : sliceB' r = true) : r.frz = r ∧ ∀ g v, RepV g r [v] → ∃ p n c, v = .slice p n c := by
  unfold sliceB' at h
  split at h
  · refine ⟨rfl, ?_⟩
    rintro g v ⟨-, v1, _, e, ⟨p, n, c, rfl, -⟩, -⟩
    cases e
    exact ⟨p, n, c, rfl⟩
  · refine ⟨rfl, ?_⟩
    rintro g v ⟨_, e, -⟩
    cases e
    exact ⟨_, _, _, rfl⟩
  · refine ⟨rfl, fun g v h => ?_⟩
    cases h
    exact ⟨_, _, _, rfl⟩
  · cases h
def triedB (call : Nat → AV → Option AV) (a : AV) : Option AV := match a with
  | .cons (.fn (.func g) x y) .nil => if x.isLL && (x.unl && y.unl) then match call g (x.app y) with
      | some r => if sliceB' r then some r else none
      | none => none
    else none
  | _ => none
theorem triedB_ok {call : Nat → AV → Option AV} (hc : ∀ f a r, call f a = some r → Holds Tryz.prog KA f a r) {a r : AV} (h : triedB call a = some r) : Holds Tryz.prog KA 79 a r ∧ Holds Tryz.prog KA 112 a r := by
  unfold triedB at h
  split at h
  · split at h
    · rename_i hb
      simp only [Bool.and_eq_true] at hb
      split at h
      · rename_i r' hr
        split at h
        · rename_i hs
          cases h
          obtain ⟨h1, h2⟩ := sliceB'_ok hs
          have h3 := triedC_holds hb.1 hb.2.1 hb.2.2 (hc _ _ _ hr) h2
          have h4 := triedT_holds hb.1 hb.2.1 hb.2.2 (hc _ _ _ hr) h2
          rw [h1] at h3 h4
          exact ⟨h3, h4⟩
        · cases h
      · cases h
    · cases h
  · cases h
def aboveB (a : AV) : Option AV := match a with
  | .cons (.agg d) (.cons (.v (.int .i64 k)) (.cons (.agg b) .nil)) => match tsB d, tmB b with
    | some t, some b => some (tmL (aboveT k t b))
    | _, _ => none
  | _ => none
theorem tsB_d {d : Dc} {t : Ts} (h : tsB d = some t) : d = .row none 5 26 (tDs ty t) .nil := by
  have := tsB_ok h
  injection this
theorem aboveB_ok {a r : AV} (h : aboveB a = some r) : Holds Tryz.prog KA 218 a r := by
  unfold aboveB at h
  split at h
  · split at h
    · rename_i t b ht hb
      cases h
      rw [tmB_ok hb, tsB_d ht]
      exact k218 _ t b
    · cases h
  · cases h
def rowsOf : Ds → List Ts
  | .row _ _ x _ r => tsOf x :: rowsOf r
  | _ => []
def concatB (a : AV) : Option AV := match a with
  | .cons (.c (.row none 1 22 x .nil)) .nil => let l := rowsOf x; if x.eqB (rowsDs l) && (decide (l.length ≤ 4000000) && decide ((catT l).len ≤ 4000000)) then some (.c (.row none 5 26 (tDs ty (catT l)) .nil)) else none
  | _ => none
theorem concatB_ok {a r : AV} (h : concatB a = some r) : Holds Tryz.prog KA 166 a r := by
  unfold concatB at h
  split at h
  · rename_i x
    simp only at h
    obtain ⟨l, hl⟩ : ∃ l, rowsOf x = l := ⟨_, rfl⟩
    rw [hl] at h
    split at h
    · rename_i hb
      cases h
      simp only [Bool.and_eq_true, decide_eq_true_eq] at hb
      rw [Ds.eqB_ok hb.1]
      exact k166 l hb.2.1 hb.2.2
    · cases h
  · cases h
def cloneB (a : AV) : Option AV := match a with
  | .cons (.c (.row none 2 77 x .nil)) .nil => let p := ptOf x; if x.eqB (ptDs p) && decide (p.length ≤ 2000000) then some (.c (.row none 2 77 (ptDs p) .nil)) else none
  | _ => none
theorem cloneB_ok {a r : AV} (h : cloneB a = some r) : Holds Tryz.prog KA 202 a r := by
  unfold cloneB at h
  split at h
  · rename_i x
    simp only at h
    obtain ⟨p, hp⟩ : ∃ p, ptOf x = p := ⟨_, rfl⟩
    rw [hp] at h
    split at h
    · rename_i hb
      cases h
      simp only [Bool.and_eq_true, decide_eq_true_eq] at hb
      rw [Ds.eqB_ok hb.1]
      exact k202 p hb.2
    · cases h
  · cases h
def sameB (a : AV) : Option AV := match a with
  | .cons (.agg x) (.cons (.agg y) .nil) => match tmB x with
    | some _ => if x.eqB y then some (.v (.bool true)) else none
    | none => none
  | _ => none
theorem sameB_ok {a r : AV} (h : sameB a = some r) : Holds Tryz.prog KA 16 a r := by
  unfold sameB at h
  split at h
  · split at h
    · rename_i t ht
      split at h
      · rename_i hb
        cases h
        rw [← Dc.eqB_ok hb, tmB_ok ht]
        exact k16 t
      · cases h
    · cases h
  · cases h
/-- What is known by hand. -/
def hand : Hand
  | 60 => some fun _ => liftB
  | 63 => some fun _ => liftB
  | 12 => some fun _ => tupB
  | 79 => some triedB
  | 112 => some triedB
  | 218 => some fun _ => aboveB
  | 166 => some fun _ => concatB
  | 202 => some fun _ => cloneB
  | 16 => some fun _ => sameB
  | _ => none
theorem hand_ok : ∀ call, (∀ f a r, call f a = some r → Holds Tryz.prog KA f a r) → ∀ f g, hand f = some g → ∀ a r, g call a = some r → Holds Tryz.prog KA f a r := by
  intro call hc f g hg a r h
  unfold hand at hg
  split at hg
  all_goals cases hg
  · exact (liftB_ok h).1
  · exact (liftB_ok h).2
  · exact tupB_ok h
  · exact (triedB_ok hc h).1
  · exact (triedB_ok hc h).2
  · exact aboveB_ok h
  · exact concatB_ok h
  · exact cloneB_ok h
  · exact sameB_ok h
theorem names_ok (f : Nat) (fn : Func) (h : Tryz.prog.funcs[f]? = some fn) : fn.name ≠ "runtime.NumGoroutine" := by
  have : (Tryz.prog.funcs.toList.all fun fn => fn.name != "runtime.NumGoroutine") = true := by kernel_rfl
  have := List.all_eq_true.1 this fn (List.mem_of_getElem? (by simpa using h))
  simpa using this
/-- What the worker gives holds. -/
theorem work (n : Nat) {f : Nat} {a r : AV} (h : (mach Tryz.prog tb hand n).1 f a = some r) : Holds Tryz.prog KA f a r := (mach_ok tbOk stKA mixed names_ok hand_ok n).1 f a r h
end Go.Proofs.YtkcmapimcgppmaaGreatDoor
end
section
namespace Go.Proofs.YtkcmapimcgppmaaGreatDoor
open Go.RowKit
theorem g9 : HH 9 [] (.v (.bool true)) := work 100000 (by kernel_rfl)
end Go.Proofs.YtkcmapimcgppmaaGreatDoor
end
section
namespace Go.Proofs.YtkcmapimcgppmaaGreatDoor
open Go.RowKit
attribute [local simp] ty_p ty_l ty_t kH tDs lvDs Tm.ts finH elemH ac_skip ac_label ac_region ac_seq ac_cond ac_block ac_loop ac_exit ac_ret seqK_n seqK_r seqK_e vo_nil vo_cons blkK loopK callOf vout aout abuiltin aslice ev startSt nmOf St.out putE updo upd contOf freshC K0 asC fillD fieldOf rowD astore aapp srcOf elsOf tb Dc.tk Dc.dp Dc.over Dc.app Dc.ln Dc.ds Dc.sing Dc.cont AV.cont Ds.hd Value.oneCell' retK resOf one1 AV.imp Dc.imp φOf calleeOf AV.isLL AV.list AV.app AV.arg AV.isL AV.ren Dc.ren Dc.lent tmC tmA tsA iA lo? abin AV.nth Dc.own Dc.toks
theorem g129 (k : Int) (x : Ds) : HH 129 [iA k, .c (.row none 5 26 x .nil)] (.agg (.lit (.int .i64 k) (.lit (.int .i64 0) (.lit (.int .i64 0) (.nilr 1 43 (.row none 5 26 x .nil)))))) := by
  refine ab Tryz.func129 Tryz.ntmps129 Tryz.results129 rfl (by decide) (by simp) rfl rfl ?_
  simp
  exact ⟨[], by simp⟩
theorem g62 (n : Int) : HH 62 [iA n] (.agg (.lit (.int .i64 22) (.lit (.int .i64 n) (.lit (.int .i64 0) (.nilr 1 43 (.nilr 5 26 .nil)))))) := by
  refine ab Tryz.func62 Tryz.ntmps62 Tryz.results62 rfl (by decide) (by simp) rfl rfl ?_
  simp
  exact ⟨[], by simp⟩
theorem g65 (k n : Int) : HH 65 [iA k, iA n] (.agg (.lit (.int .i64 23) (.lit (.int .i64 k) (.lit (.int .i64 n) (.nilr 1 43 (.nilr 5 26 .nil)))))) := by
  refine ab Tryz.func65 Tryz.ntmps65 Tryz.results65 rfl (by decide) (by simp) rfl rfl ?_
  simp
  exact ⟨[], by simp⟩
theorem g66 (k : Int) (t : Tm) : HH 66 [iA k, tmL t] (tmL ⟨kH k, t.ts⟩) := by
  refine ab Tryz.func66 Tryz.ntmps66 Tryz.results66 rfl (by decide) (by simp) rfl rfl ?_
  simp
  refine asks (g129 k (tDs ty t.ts)) ?_ ?_ ?_ <;> simp
  exact ⟨[], by simp⟩
theorem g64 (k : Int) (t u : Tm) : HH 64 [iA k, tmL t, tmL u] (tmL ⟨kH k, .cons t.h t.x u.ts⟩) := by
  refine ab Tryz.func64 Tryz.ntmps64 Tryz.results64 rfl (by decide) (by simp) rfl rfl ?_
  simp
  refine asks (g129 k (tDs ty (.cons t.h t.x u.ts))) ?_ ?_ ?_ <;> simp
  exact ⟨[], by simp⟩
theorem parts_len : ∀ (n : Nat) (t : Tm), (partsT n t).len = n
  | 0, _ => rfl
  | 1, _ => rfl
  | n + 2, t => by simp [partsT, Ts.len, parts_len (n + 1)]
theorem kid_fits (k : Int) (t : Tm) (hk : 0 ≤ k ∧ k ≤ 100) (h : t.fits) : Tm.fits ⟨kH k, t.ts⟩ :=
  ⟨⟨⟨by show -9223372036854775808 ≤ k; omega, by show k ≤ 9223372036854775807; omega⟩, ⟨by show (-9223372036854775808 : Int) ≤ 0; decide, by show (0 : Int) ≤ 9223372036854775807; decide⟩, ⟨by show (-9223372036854775808 : Int) ≤ 0; decide, by show (0 : Int) ≤ 9223372036854775807; decide⟩, fun p hp => by cases hp⟩, h.1, h.2, trivial⟩
theorem kid_size (k : Int) (t : Tm) : Tm.size ⟨kH k, t.ts⟩ = t.size + 1 := by
  simp [Tm.size, Tm.ts, Ts.size, kH, lvSize]; omega
theorem g21 : ∀ (m : Nat) (n : Int) (t : Tm), n.toNat = m → t.fits → n ≤ 12 → t.size + n.toNat ≤ 1000000 → HH 21 [tmL t, iA n] (tsA none (partsT n.toNat t)) := by
  intro m
  induction m with
  | zero =>
    intro n t hm hf hn hs
    refine ab Tryz.func21 Tryz.ntmps21 Tryz.results21 rfl (by decide) (by simp) rfl rfl ?_
    rw [hm]
    simp [show n < 1 by omega, partsT]
    exact ⟨[], by simp⟩
  | succ m ih =>
    intro n t hm hf hn hs
    refine ab Tryz.func21 Tryz.ntmps21 Tryz.results21 rfl (by decide) (by simp) rfl rfl ?_
    by_cases h1 : n = 1
    · subst h1
      simp
      refine asks (h63' t hf (by omega)) ?_ ?_ ?_ <;> simp
      exact ⟨rfl, [], by simp⟩
    · have hw : IntKind.i64.wrap (n - 1) = n - 1 := by rw [IntKind.wrap_i64]; omega
      obtain ⟨k, rfl⟩ : ∃ k, m = k + 1 := ⟨m - 1, by omega⟩
      have hk : (n - 1).toNat = k + 1 := by omega
      have hr := ih (n - 1) ⟨kH 15, t.ts⟩ (by omega) (kid_fits 15 t (by decide) hf) (by omega) (by rw [kid_size]; omega)
      rw [hk] at hr
      have hl : (tDs ty (partsT (k + 1) ⟨kH 15, t.ts⟩)).len = (k + 1) * 5 := by rw [tDs_len, parts_len]
      rw [hm]
      simp [h1, show ¬ n < 1 by omega]
      refine ⟨by kernel_rfl, ?_⟩
      refine asks (h63' t hf (by omega)) ?_ ?_ ?_ <;> simp
      refine asks (g66 14 t) ?_ ?_ ?_ <;> simp
      refine asks (h63' t hf (by omega)) ?_ ?_ ?_ <;> simp
      refine asks (g66 15 t) ?_ ?_ ?_ <;> simp
      refine asks hr ?_ ?_ ?_ <;> simp [hw]
      refine ⟨?_, ?_, [], by simp⟩
      · exact (show 5 + (tDs ty (partsT (k + 1) ⟨kH 15, t.ts⟩)).len ≤ 1000000000 by omega)
      · rw [Ds.app_nil]; rfl
end Go.Proofs.YtkcmapimcgppmaaGreatDoor
end
section
namespace Go.Proofs.YtkcmapimcgppmaaGreatDoor
open Go.RowKit
attribute [local simp] ty_p ty_l ty_t kH tDs lvDs Tm.ts finH elemH ac_skip ac_label ac_region ac_seq ac_cond ac_block ac_loop ac_exit ac_ret seqK_n seqK_r seqK_e vo_nil vo_cons blkK loopK callOf vout aout abuiltin aslice ev startSt nmOf St.out putE updo upd contOf freshC K0 asC fillD fieldOf rowD astore aapp srcOf elsOf tb Dc.tk Dc.dp Dc.over Dc.app Dc.ln Dc.ds Dc.sing Dc.cont AV.cont Ds.hd Value.oneCell' retK resOf one1 AV.imp Dc.imp φOf calleeOf AV.isLL AV.list AV.app AV.arg AV.isL AV.ren Dc.ren Dc.lent tmC tmA tsA iA lo? abin AV.nth Dc.own Dc.toks stOf envOf bxOf τOf
theorem Ds.dp_app (x y : Ds) : (x.app y).dp x.len = y := by
  induction x with
  | nil => rfl
  | lit v r ih => exact ih
  | row sz e x s r _ _ ih => exact ih
theorem dp_mid (a r : Ts) : (tDs ty (a.app r)).dp (a.len * 5) = tDs ty r := by
  rw [tDs_app, ← tDs_len ty, Ds.dp_app]
theorem app_fits {h : Hd} {y r : Ts} : ∀ {a : Ts}, (a.app (.cons h y r)).fits → h.fits ∧ y.fits
  | .nil, hf => ⟨hf.1, hf.2.1⟩
  | .cons _ _ _, hf => app_fits hf.2.2
theorem app_size {h : Hd} {y r : Ts} : ∀ {a : Ts}, lvSize h.l + y.size + 1 ≤ (a.app (.cons h y r)).size
  | .nil => by simp only [Ts.app, Ts.size]; omega
  | .cons _ _ a => by have := app_size (h := h) (y := y) (r := r) (a := a); simp only [Ts.app, Ts.size]; omega
def st19 (b : Ts) (p x : Tm) (a : Ts) : St := stOf [(1, tsA none b), (5, .bx 6 0), (6, .bx 7 0), (7, .c (.blk 12 (a.len + 1) 5 26 (.seg none (tDs ty (.cons p.h p.x a)) .nil) .nil)), (8, iA a.len)] [(6, 26, tmC none none x.h x.x), (7, 26, .lit (.int .i64 0) (.lit (.int .i64 0) (.lit (.int .i64 0) (.nilr 1 43 (.nilr 5 26 .nil)))))] [(12, a.len + 1)]
theorem g19 (p : Tm) (b : Ts) (x : Tm) (hp : p.fits) (hb : b.fits) (hx : x.fits) (hs : p.size + b.size + x.size ≤ 1000000) (hl : b.len ≤ 1000000) : HH 19 [tmL p, tsA none b, tmL x] (tmL (caseT p b x)) := by
  refine ab Tryz.func19 Tryz.ntmps19 Tryz.results19 rfl (by decide) (by simp) rfl rfl ?_
  simp
  refine asks (h63' p hp (by omega)) ?_ ?_ ?_ <;> simp
  refine lp (α := { q : Ts × Ts // q.1.app q.2 = b }) (fun q => st19 b p x q.1.1) (fun q => q.1.2.len) ⟨(.nil, b), rfl⟩ ?_ ?_
  · refine le_of [((12, 0), [(12, 0)])] ?_ ?_ ?_ <;> simp [Ts.len, AV.ok, Dc.ok]
  · rintro ⟨⟨a, r⟩, hq⟩
    cases r with
    | nil =>
      have e : a = b := by rw [← hq]; exact (Ts.app_nil a).symm
      subst e
      simp [st19, tDs_len]
      refine asks (h63' x hx (by omega)) ?_ ?_ ?_ <;> simp
      refine ⟨?_, ⟨rfl, rfl, rfl, rfl, (tDs_app ty (.cons p.h p.x a) x.ts).symm⟩, [], by simp⟩
      exact (show (tDs ty (.cons p.h p.x a)).len ≤ 999999995 by rw [tDs_len]; show (a.len + 1) * 5 ≤ _; omega)
    | cons h y r =>
      have h1 : a.len < b.len := by rw [← hq]; simp [Ts.app_len, Ts.len]
      have h2 : (tDs ty b).dp (a.len * 5) = tDs ty (.cons h y r) := by rw [← hq]; exact dp_mid a _
      have h3 : h.fits ∧ y.fits := app_fits (a := a) (by rw [hq]; exact hb)
      have h4 : lvSize h.l + y.size + 1 ≤ b.size := by rw [← hq]; exact app_size
      simp [st19, tDs_len, h1, h2]
      refine ⟨by omega, ?_⟩
      refine asks (h63' ⟨h, y⟩ h3 (by show lvSize h.l + y.size ≤ 2000000; omega)) ?_ ?_ ?_ <;> simp
      refine ⟨?_, a.app (.cons h y .nil), r, by simp [Ts.len], by rw [Ts.app_assoc]; exact hq, ?_⟩
      · exact (show (tDs ty (.cons p.h p.x a)).len ≤ 999999995 by rw [tDs_len]; show (a.len + 1) * 5 ≤ _; omega)
      · have hw : IntKind.i64.wrap ((a.len : Int) + 1) = a.len + 1 := by rw [IntKind.wrap_i64]; omega
        refine le_of [((12, 0), [(12, 0)])] ?_ ?_ ?_ <;> simp [Ts.len, Ts.app_len, AV.ok, Dc.ok, hw]
        exact (tDs_app ty (.cons p.h p.x a) (.cons h y .nil)).symm
end Go.Proofs.YtkcmapimcgppmaaGreatDoor
end
section
namespace Go.Proofs.YtkcmapimcgppmaaGreatDoor
open Go.RowKit
attribute [local simp] ty_p ty_l ty_t kH tDs lvDs Tm.ts finH elemH ac_skip ac_label ac_region ac_seq ac_cond ac_block ac_loop ac_exit ac_ret seqK_n seqK_r seqK_e vo_nil vo_cons blkK loopK callOf vout aout abuiltin aslice ev startSt nmOf St.out putE updo upd contOf freshC K0 asC fillD fieldOf rowD astore aapp srcOf elsOf tb Dc.tk Dc.dp Dc.over Dc.app Dc.ln Dc.ds Dc.sing Dc.cont AV.cont Ds.hd Value.oneCell' retK resOf one1 AV.imp Dc.imp φOf calleeOf AV.isLL AV.list AV.app AV.arg AV.isL AV.ren Dc.ren Dc.lent tmC tmA tsA iA lo? abin AV.nth Dc.own Dc.toks
theorem g59 (k : Int) (x : Ts) (hk : 0 ≤ k ∧ k ≤ 100) (hf : x.fits) (hs : x.size ≤ 1000000) : HH 59 [iA k, tsA none x] (tmO ⟨kH k, x⟩) := by
  refine ab Tryz.func59 Tryz.ntmps59 Tryz.results59 rfl (by decide) (by simp) rfl rfl ?_
  simp
  refine asks (h60' ⟨kH k, x⟩ ⟨kH_fits hk, hf⟩ (by show lvSize [] + x.size ≤ 1000000; simp [lvSize]; exact hs)) ?_ ?_ ?_ <;> simp
  exact ⟨[((0, 0), [(9, 0)]), ((0, 1), [(9, 1)])], by simp⟩
theorem g92 (n : Int) : HH 92 [iA n] (.agg (.lit (.int .i64 1) (.lit (.int .i64 n) (.lit (.int .i64 0) (.nilr 1 43 (.nilr 5 26 .nil)))))) := by
  refine ab Tryz.func92 Tryz.ntmps92 Tryz.results92 rfl (by decide) (by simp) rfl rfl ?_
  simp
  exact ⟨[], by simp⟩
theorem g57 (n : Int) : HH 57 [iA n] (.agg (.lit (.int .i64 22) (.lit (.int .i64 n) (.lit (.int .i64 0) (.nilr 1 43 (.nilr 5 26 .nil)))))) := by
  refine ab Tryz.func57 Tryz.ntmps57 Tryz.results57 rfl (by decide) (by simp) rfl rfl ?_
  simp
  exact ⟨[], by simp⟩
theorem g58 (k n : Int) : HH 58 [iA k, iA n] (.agg (.lit (.int .i64 23) (.lit (.int .i64 k) (.lit (.int .i64 n) (.nilr 1 43 (.nilr 5 26 .nil)))))) := by
  refine ab Tryz.func58 Tryz.ntmps58 Tryz.results58 rfl (by decide) (by simp) rfl rfl ?_
  simp
  exact ⟨[], by simp⟩
theorem size_app : ∀ (a b : Ts), (a.app b).size = a.size + b.size
  | .nil, b => by simp [Ts.app, Ts.size]
  | .cons h x a, b => by simp only [Ts.app, Ts.size, size_app a b]; omega
theorem fits_app : ∀ {a b : Ts}, a.fits → b.fits → (a.app b).fits
  | .nil, _, _, h => h
  | .cons _ _ _, _, h, k => ⟨h.1, h.2.1, fits_app h.2.2 k⟩
theorem g14 (p : Tm) (b : Ts) (x : Tm) (hp : p.fits) (hb : b.fits) (hx : x.fits) (hs : p.size + b.size + x.size ≤ 900000) (hl : b.len ≤ 900000) : HH 14 [tmL p, tsA none b, tmL x] (tmO (caseT p b x)) := by
  refine ab Tryz.func14 Tryz.ntmps14 Tryz.results14 rfl (by decide) (by simp) rfl rfl ?_
  simp
  refine ⟨by kernel_rfl, by rw [tDs_len]; omega, by rw [tDs_len]; omega, ?_⟩
  have hx' : x.ts.size = x.size + 1 := by simp only [Tm.ts, Ts.size, Tm.size]; omega
  have hA := tDs_app ty b x.ts
  refine asks (g59 24 (.cons p.h p.x (b.app x.ts)) (by decide) ⟨hp.1, hp.2, fits_app hb ⟨hx.1, hx.2, trivial⟩⟩ (by simp only [Ts.size, size_app]; unfold Tm.size at hs hx'; omega)) ?_ ?_ ?_ <;> simp
  · exact .inl hA.symm
  · rw [tDs_len]
    simp
    exact ⟨[((0, 0), [(16, 0)]), ((0, 1), [(16, 1)])], ⟨rfl, rfl, rfl, ⟨rfl, by simp⟩, rfl, by simp⟩, by simp⟩
end Go.Proofs.YtkcmapimcgppmaaGreatDoor
end
section
namespace Go.Proofs.YtkcmapimcgppmaaGreatDoor
open Go.RowKit

theorem tm_arg {w : World} {t : Tm} {v : Value} (h : RM ty w v t.h t.x) : RepV (argGh (U w) w) (tmL t) [v] := tm_rep (g := argGh (U w) w) h
theorem res_U {w w' : World} (hb : Below w.heap.size w w') {b o : Nat} {u : Value} (h : (if b < w.heap.size then U w b o else U w' b o) = some u) : U w' b o = some u := by
  split at h
  · rename_i hlt; exact U_below hb _ _ _ hlt h
  · exact h
theorem HH.val {f : Nat} {ps : List AV} {x : Value} (h : HH f ps (.v x)) {w : World} {vs : List Value} (hG : KA w) (hv : RepV (argGh (U w) w) (.list ps) vs) : Calls Tryz.prog f vs.toArray w fun e w' => e = .returned x ∧ Below w.heap.size w w' :=
  (h.2.2 (U w) w vs (fun _ _ _ h => h) hG hv).mono fun e w' ⟨v, fp, h1, h2, h3, _⟩ => by
    have e2 : v = x := by simpa [RepV] using h3
    subst e2
    exact ⟨h1, h2⟩
theorem HH.lent {f : Nat} {ps : List AV} {t : Tm} (h : HH f ps (tmL t)) {w : World} {vs : List Value} (hG : KA w) (hv : RepV (argGh (U w) w) (.list ps) vs) : Calls Tryz.prog f vs.toArray w fun e w' => ∃ v, e = .returned v ∧ Below w.heap.size w w' ∧ RM ty w' v t.h t.x :=
  (h.2.2 (U w) w vs (fun _ _ _ h => h) hG hv).mono fun e w' ⟨v, fp, h1, h2, h3, _⟩ => by
    refine ⟨v, h1, h2, ?_⟩
    obtain ⟨ys, e, h⟩ := h3
    obtain ⟨-, _, rfl, -, _, rfl, -, _, rfl, -, v1, _, rfl, h4, -, -, v2, _, rfl, h5, -, rfl⟩ := h
    cases e
    obtain ⟨p, n, c, rfl, -⟩ := id h4
    obtain ⟨p', n', c', rfl, -⟩ := id h5
    exact ⟨p, n, c, p', n', c', rfl, h4.mono (fun b o v _ hu => res_U h2 hu) (Nat.le_refl _), h5.mono (fun b o v _ hu => res_U h2 hu) (Nat.le_refl _)⟩
theorem HH.row {f : Nat} {ps : List AV} {t : Ts} (h : HH f ps (tsA none t)) {w : World} {vs : List Value} (hG : KA w) (hv : RepV (argGh (U w) w) (.list ps) vs) : Calls Tryz.prog f vs.toArray w fun e w' => ∃ v, e = .returned v ∧ Below w.heap.size w w' ∧ RT ty w' v t :=
  (h.2.2 (U w) w vs (fun _ _ _ h => h) hG hv).mono fun e w' ⟨v, fp, h1, h2, h3, _⟩ => by
    obtain ⟨-, v1, _, e, h4, -, -⟩ := h3
    cases e
    exact ⟨v, h1, h2, h4.mono (fun b o v _ hu => res_U h2 hu) (Nat.le_refl _)⟩
theorem HH.made {f : Nat} {ps : List AV} {t : Tm} (h : HH f ps (tmO t)) {w : World} {vs : List Value} (hG : KA w) (hv : RepV (argGh (U w) w) (.list ps) vs) : Calls Tryz.prog f vs.toArray w (MakesT t.h t.x w) :=
  (h.2.2 (U w) w vs (fun _ _ _ h => h) hG hv).mono fun e w' ⟨v, fp, h1, h2, h3, h6, h7⟩ => by
    obtain ⟨ys, e, h⟩ := h3
    obtain ⟨-, _, rfl, -, _, rfl, -, _, rfl, -, v1, _, rfl, h4, o1, -, v2, _, rfl, h5, o2, rfl⟩ := h
    cases e
    obtain ⟨p, n, c, rfl, -⟩ := id h4
    obtain ⟨p', n', c', rfl, -⟩ := id h5
    obtain ⟨-, S1, w1, n1, m1⟩ := o1 (0, 0) rfl
    obtain ⟨-, S2, w2, n2, m2⟩ := o2 (0, 1) rfl
    obtain ⟨_, _, z1, u1, B1, A1, A2, A3, e1, a1, a2, a3, ⟨e5, rfl⟩, rfl⟩ := w1
    cases e1
    have hS : ∀ x, x ∈ B1 ++ (A1 ++ (A2 ++ [])) → x ∉ S2 := fun x hx hy => by
      have := h7 _ _ x (m1 x hx) (m2 x hy)
      cases this
    refine ⟨p, n, c, p', n', c', B1 ++ (A1 ++ (A2 ++ S2)), h1, h2, ⟨_, rfl, _, rfl, _, rfl, _, _, z1, u1, B1, A1, A2, S2, rfl, a1, a2, a3, w2, rfl⟩, ?_⟩
    have e : B1 ++ (A1 ++ (A2 ++ S2)) = (B1 ++ (A1 ++ (A2 ++ []))) ++ S2 := by simp [List.append_assoc]
    rw [e]
    exact List.nodup_append.2 ⟨n1, n2, fun x hx y hy e => by subst e; exact hS x hx hy⟩
end Go.Proofs.YtkcmapimcgppmaaGreatDoor
end
section
namespace Go.Proofs.YtkcmapimcgppmaaGreatDoor
open Go.RowKit

theorem Rd.whole {F : Nat → Nat → Option Value} {hi : Nat} {q : Option Addr} {n c sz m : Nat} {x s : Ds} (h : Rd F hi (.slice q n c) sz x s) (hs : s.len = m * sz) (hm : 0 < m) (hz : 0 < sz) : n + m ≤ c ∧ Rd F hi (.slice q (n + m) c) sz (x.app s) .nil := by
  obtain ⟨q', n', c', e1, h2, h3, h4, h5, h6⟩ := h
  cases e1
  have hle : n + m ≤ c := by
    rw [← h2, hs, ← Nat.add_mul] at h5
    exact Nat.le_of_mul_le_mul_right h5 hz
  refine ⟨hle, _, _, _, rfl, by rw [Ds.app_len, ← h2, hs, Nat.add_mul], hle, h4, by simp only [Ds.len]; rw [Ds.app_len]; omega, ?_⟩
  rcases h6 with ⟨rfl, rfl⟩ | ⟨-, h7, -⟩ | ⟨b, o, rfl, hl, ha, hs'⟩
  · omega
  · exfalso
    rw [h7] at hs
    have := Nat.mul_pos hm hz
    omega
  · exact .inr (.inr ⟨b, o, rfl, hl, At.app.2 ⟨ha, hs'⟩, trivial⟩)
end Go.Proofs.YtkcmapimcgppmaaGreatDoor
end
section
namespace Go.Proofs.YtkcmapimcgppmaaGreatDoor
open Go.RowKit

/-- With their marks they read as such with marks, without, as levels. -/
theorem Rd.lentLv_plain {w : World} {v : Value} {l : List Lv} {s : Ds} (h : Rd (U w) w.heap.size v 1 (lentLv ty l) s) : RL ty w v l := by
  have := h.strip
  rw [lentLv_strip] at this
  exact this

end Go.Proofs.YtkcmapimcgppmaaGreatDoor
end
section
namespace Go.Proofs.YtkcmapimcgppmaaGreatDoor
open Go.RowKit

/-- One term with marks, as a value. -/
def RLent (w : World) (v : Value) (h : Hd) (x : Ts) : Prop :=
  ∃ q n c r m d, v = .agg #[.int .i64 h.k, .int .i64 h.n, .int .i64 h.a, .slice q n c, .slice r m d] ∧ Rd (U w) w.heap.size (.slice q n c) 1 (lentLv ty h.l) (lvDs ty (lvMarks 1 12)) ∧ Rd (U w) w.heap.size (.slice r m d) 5 (lentT ty x) (tDs ty (tMarks 1 12))
theorem RLent.on {w w' : World} {v : Value} {h : Hd} {x : Ts} (hm : RLent w v h x) (hb : Below w.heap.size w w') : RLent w' v h x := by
  obtain ⟨q, n, c, r, m, d, e1, h1, h2⟩ := hm
  exact ⟨q, n, c, r, m, d, e1, h1.on hb, h2.on hb⟩

end Go.Proofs.YtkcmapimcgppmaaGreatDoor
end
section
namespace Go.Proofs.YtkcmapimcgppmaaGreatDoor
open Go.RowKit

end Go.Proofs.YtkcmapimcgppmaaGreatDoor
end
section
namespace Go.Proofs.YtkcmapimcgppmaaGreatDoor
open Go.RowKit

/-- What the cells hold but of some blocks. -/
def Fl (S : List Nat) (w : World) (b o : Nat) : Option Value := if b ∈ S then none else U w b o
theorem Fl_U {S : List Nat} {w : World} {b o : Nat} {v : Value} (h : Fl S w b o = some v) : U w b o = some v := by
  unfold Fl at h; split at h
  · cases h
  · exact h
theorem Fl_ne {S : List Nat} {w : World} {b o : Nat} {v : Value} (h : Fl S w b o = some v) : b ∉ S := by
  unfold Fl at h; split at h
  · cases h
  · assumption
theorem Fl_mk {S : List Nat} {w : World} {b o : Nat} {v : Value} (h : U w b o = some v) (hb : b ∉ S) : Fl S w b o = some v := by
  unfold Fl; rw [if_neg hb]; exact h
/-- Between two rounds: the variable x. -/
def XAt (S : List Nat) (g : Nat) (t : Tm) (W : World) : Prop := g < W.heap.size ∧ ∃ q n c r m d, RMx (Fl S W) W.heap.size (.agg #[.int .i64 t.h.k, .int .i64 t.h.n, .int .i64 t.h.a, .slice q n c, .slice r m d]) t.h t.x ∧ ∀ o u, (#[.int .i64 t.h.k, .int .i64 t.h.n, .int .i64 t.h.a, .slice q n c, .slice r m d] : Array Value)[o]? = some u → U W g o = some u
theorem XAt.keep {S : List Nat} {g : Nat} {t : Tm} {W W' : World} (h : XAt S g t W) (hk : ∀ b, b < W.heap.size → b ∉ S ∨ b = g → W'.heap[b]? = W.heap[b]?) (hs : W.heap.size ≤ W'.heap.size) : XAt S g t W' := by
  obtain ⟨h1, q, n, c, r, m, d, h2, h3⟩ := h
  exact ⟨Nat.lt_of_lt_of_le h1 hs, q, n, c, r, m, d, h2.mono (fun b o v hb hv => Fl_mk ((U_block (hk b hb (.inl (Fl_ne hv))) o).trans (Fl_U hv)) (Fl_ne hv)) hs, fun o u hu => (U_block (hk g h1 (.inr rfl)) o).trans (h3 o u hu)⟩
theorem XAt.on {S : List Nat} {g : Nat} {t : Tm} {W W' : World} (h : XAt S g t W) (hb : Below W.heap.size W W') : XAt S g t W' := h.keep (fun b hb' _ => hb.block b hb') hb.size
/-- A block laid of its five cells is a row of it alone. -/
theorem XAt.row {F : Nat → Nat → Option Value} {T : Tm} {W wa : World} {q1 q2 : Option Addr} {n1 c1 n2 c2 : Nat} (hRM : RMx F W.heap.size (.agg #[.int .i64 T.h.k, .int .i64 T.h.n, .int .i64 T.h.a, .slice q1 n1 c1, .slice q2 n2 c2]) T.h T.x) (hF : ∀ b o v, F b o = some v → U W b o = some v)
    (hwa : W.alloc (.cells #[.int .i64 T.h.k, .int .i64 T.h.n, .int .i64 T.h.a, .slice q1 n1 c1, .slice q2 n2 c2] 26) = wa) : RT ty wa (.slice (some ⟨W.heap.size, 0, none⟩) 1 1) T.ts ∧ Below W.heap.size W wa ∧ wa.heap.size = W.heap.size + 1 := by
  have hba : Below W.heap.size W wa := by rw [← hwa]; exact below_alloc _ _
  have hsa : wa.heap.size = W.heap.size + 1 := by rw [← hwa]; simp
  obtain ⟨v3, v4, e, hv⟩ := (hRM.mono (F' := U wa) (hi' := wa.heap.size) (fun b o v hb hv => U_below hba _ _ _ hb (hF _ _ _ hv)) hba.size).cells
  injection e with e
  rw [← show [Value.int .i64 T.h.k, .int .i64 T.h.n, .int .i64 T.h.a, .slice q1 n1 c1, .slice q2 n2 c2] = [.int .i64 T.h.k, .int .i64 T.h.n, .int .i64 T.h.a, v3, v4] from congrArg Array.toList e] at hv
  exact ⟨RT.block (n := 1) (fun i u hu => by rw [← hwa]; exact laid_cell (by simpa using hu)) (by omega) hv rfl (by decide), hba, hsa⟩

set_option maxRecDepth 100000 in
set_option maxHeartbeats 4000000 in
theorem parts_any (t : Tm) (va : Value) (n : Int) (w : World) (ha : RM ty w va t.h t.x) (hf : t.h.fits) (hxf : t.x.fits) (hs : lvSize t.h.l + t.x.size ≤ 1000000) (hn : n ≤ 12) (hKA : KA w) : Calls Tryz.prog 15 #[va, .int .i64 n] w (MakesV (.row 5 26 (tDs ty (partsT n.toNat t)) .nil .nil) w) := by
  obtain ⟨q, c, r, m, rfl, -, -, -, -, hl, hx⟩ := ha.agg
  by_cases h0 : n ≤ 0
  · have r1 : decide (1 < n) = false := decide_eq_false (by omega)
    have r2 : (n == 1) = false := by simp; omega
    rw [show n.toNat = 0 by omega]
    clear ha hl hx hf hxf hs hKA
    go_enter Tryz.func15, Tryz.ntmps15
    go_wp2_with fail
    go_loopw [1, 4] (fun i v wr => i = .int .i64 n ∧ v = .slice none 0 0 ∧ Below w.heap.size w wr) (fun _ _ _ => 0)
    case atStart => exact ⟨rfl, rfl, below_alloc _ _⟩
    case round =>
      obtain ⟨rfl, rfl, hb⟩ := hrel
      have HB := Lib.hid hb
      clear hb
      go_wp2_with fail
      go_ret
      exact ⟨_, _, rfl, HB.out, (RowG.nil wr w.heap.size 5 26).own, by simp [Value.ownBlock]⟩
  · obtain ⟨N, rfl⟩ : ∃ N : Nat, n = (N : Int) + 1 := ⟨(n - 1).toNat, by omega⟩
    rw [show ((N : Int) + 1).toNat = N + 1 by omega]
    obtain ⟨w2, hw2⟩ : ∃ w2, w.alloc (.cells #[.int .i64 t.h.k, .int .i64 t.h.n, .int .i64 t.h.a, .slice q t.h.l.length c, .slice r t.x.len m] 26) = w2 := ⟨_, rfl⟩
    have hb2 : Below w.heap.size w w2 := by rw [← hw2]; exact below_alloc _ _
    have hs2 : w2.heap.size = w.heap.size + 1 := by rw [← hw2]; simp
    have hX : XAt [w.heap.size] w.heap.size t w2 := ⟨by omega, q, _, c, r, _, m, ⟨_, _, _, _, _, _, rfl, Rd.mono hl (fun b o v hb hv => Fl_mk (U_below hb2 _ _ _ hb hv) (by simp; omega)) hb2.size, Rd.mono hx (fun b o v hb hv => Fl_mk (U_below hb2 _ _ _ hb hv) (by simp; omega)) hb2.size⟩, fun o u hu => by rw [← hw2]; exact laid_cell hu⟩
    have HX := Lib.hid hX
    have HB2 := Lib.hid hb2
    have HS2 := Lib.hid hs2
    have HF := Lib.hid (fun j => sndN_fits hf hxf j)
    have HSZ := Lib.hid (fun j => sndN_size t j)
    have HKA := Lib.hid hKA
    have HS := Lib.hid hs
    clear ha hl hx hf hxf hs hKA hb2 hs2 hX
    go_enter Tryz.func15, Tryz.ntmps15
    go_wp2_with fail
    go_loopw [1, 4] (fun i v wr => ∃ (j : Nat) (S : List Nat), j ≤ N ∧ i = .int .i64 ((N : Int) + 1 - j) ∧ Below w.heap.size w wr ∧ XAt (w.heap.size :: v.ownBlock.toList) w.heap.size (sndN j t) wr ∧ RowG wr (w.heap.size + 1) 5 26 v j (tDs ty (fsts j t)) S) (fun i _ _ => (intOf i).toNat)
    case atStart => exact ⟨0, [], Nat.zero_le _, by simp, HB2.out, HX.out, RowG.nil _ _ _ _⟩
    case round =>
      obtain ⟨j, S, hj, rfl, hB1, hX1, hR1⟩ := hrel
      have HX1 := Lib.hid hX1
      obtain ⟨hgw, q1, n1, c1, q2, n2, c2, hRM, hcs⟩ := hX1
      have HB1 := Lib.hid hB1
      have HR1 := Lib.hid hR1
      have HRM := Lib.hid hRM
      have HCS := Lib.hid hcs
      obtain ⟨p, cc, rfl, hcc1, hcc2⟩ := hR1.cap
      unfold maxLen at hcc2
      have hf1 := (HF.out j)
      have hz1 := HSZ.out j
      have hz2 := HS.out
      have HGW := Lib.hid hgw
      obtain ⟨T, hT⟩ : ∃ T, sndN j t = T := ⟨_, rfl⟩
      have HT := Lib.hid hT
      rw [hT] at hf1 hz1 HRM HCS HX1
      clear hB1 hR1 hRM hcs HX hT hw2
      have e0 := U_cell (HCS.out 0 _ rfl)
      have e1 := U_cell (HCS.out 1 _ rfl)
      have e2 := U_cell (HCS.out 2 _ rfl)
      have e3 := U_cell (HCS.out 3 _ rfl)
      have e4 := U_cell (HCS.out 4 _ rfl)
      by_cases hlt : j < N
      · have r1 : decide ((1 : Int) < (N : Int) + 1 - j) = true := decide_eq_true (by omega)
        obtain ⟨wa, hwa⟩ : ∃ wa, wr.alloc (.cells #[.int .i64 T.h.k, .int .i64 T.h.n, .int .i64 T.h.a, .slice q1 n1 c1, .slice q2 n2 c2] 26) = wa := ⟨_, rfl⟩
        obtain ⟨hRTa, hba, hsa⟩ := XAt.row HRM.out (fun b o v hv => Fl_U hv) hwa
        have HC14 := Lib.hid (of_any 14 _ _ _ T.ts wa hRTa ⟨hf1.1, hf1.2, trivial⟩ (by show 1 + lvSize T.h.l + T.x.size + 0 ≤ _; omega) (by decide) (HKA.out.on (HB1.out.trans (hba.mono HB1.out.size)) HKA.out.1))
        have HBA := Lib.hid hba
        have HSA := Lib.hid hsa
        have HXA := Lib.hid (HX1.out.on hba)
        clear hba hsa hRTa
        go_wp2_with fail
        refine HC14.out.mono ?_
        rintro e wb ⟨s1, m1, d1, s2, m2, d2, S2, rfl, hbb, ho, hnd⟩
        have hbr := HBA.out.trans ((hbb.mono HBA.out.size))
        have hszb : wr.heap.size + 1 ≤ wb.heap.size := by have := hbb.size; have := HSA.out; omega
        obtain ⟨v', w4, hrun, hR4, hB4, wz, hwz, hgz⟩ := RowG.appendT (w0 := wb) (HR1.out.below hbr) HR1.out.lt_of (ho.lower (base' := wr.heap.size) (by have := HSA.out; omega)) hnd (by omega) (by omega) (by omega) rfl
        have HXB := Lib.hid (((HXA.out.on hbb).on (by rw [← hwz]; exact below_alloc _ _ : Below wb.heap.size wb wz)).keep (W' := w4) (fun b hb hx => hgz.block b hb (fun e => by
          rcases hx with hx | hx
          · exact hx (by rw [← e]; simp)
          · have := HR1.out.mem b (by rw [← e]; simp); omega)) hgz.size)
        clear hwz hgz
        have HR4 := Lib.hid hR4
        have HB4 := Lib.hid hB4
        have HBB := Lib.hid hbb
        have HSZB := Lib.hid hszb
        obtain ⟨p', cc', rfl, hc1', hc2'⟩ := hR4.cap
        rw [show (kH 14).k = 14 from rfl, show (kH 14).n = 0 from rfl, show (kH 14).a = 0 from rfl] at hrun ⊢
        clear hbb ho hnd hbr hszb hR4 hB4 e0 e1 e2 e3 e4 HC14
        have hXb := HXB.out
        obtain ⟨hgb, q1b, n1b, c1b, q2b, n2b, c2b, hRMb, hcsb⟩ := hXb
        have e0 := U_cell (hcsb 0 _ rfl)
        have e1 := U_cell (hcsb 1 _ rfl)
        have e2 := U_cell (hcsb 2 _ rfl)
        have e3 := U_cell (hcsb 3 _ rfl)
        have e4 := U_cell (hcsb 4 _ rfl)
        obtain ⟨wc, hwc⟩ : ∃ wc, w4.alloc (.cells #[.int .i64 T.h.k, .int .i64 T.h.n, .int .i64 T.h.a, .slice q1b n1b c1b, .slice q2b n2b c2b] 26) = wc := ⟨_, rfl⟩
        obtain ⟨hRTc, hbc, hsc⟩ := XAt.row hRMb (fun b o v hv => Fl_U hv) hwc
        have hbr4 := HB1.out.trans ((HBA.out.mono HB1.out.size).trans ((HBB.out.mono (by have := HBA.out.size; have := HB1.out.size; omega)).trans (HB4.out.mono (Nat.le_succ _))))
        have HC15 := Lib.hid (of_any 15 _ _ _ T.ts wc hRTc ⟨hf1.1, hf1.2, trivial⟩ (by show 1 + lvSize T.h.l + T.x.size + 0 ≤ _; omega) (by decide) (HKA.out.on (hbr4.trans (hbc.mono (by have := hbr4.size; omega))) HKA.out.1))
        have HBR4 := Lib.hid hbr4
        have HBC := Lib.hid hbc
        have HSC := Lib.hid hsc
        have HCSB := Lib.hid hcsb
        clear hRTc hbc hsc hbr4 hRMb hcsb
        go_wp2_with (at_builtin; refine wpList_append_run rfl _ _ 22 rfl _ _ _ rfl rfl hrun ?_)
        refine HC15.out.mono ?_
        rintro e wd ⟨s3, m3, d3, s4, m4, d4, S4, rfl, hbd, ho4, hn4⟩
        have hgw4 : w.heap.size < w4.heap.size := U_lt (HCSB.out 0 _ rfl)
        have hcd : ∀ o u, (#[.int .i64 T.h.k, .int .i64 T.h.n, .int .i64 T.h.a, .slice q1b n1b c1b, .slice q2b n2b c2b] : Array Value)[o]? = some u → U wd w.heap.size o = some u := fun o u hu => U_below hbd _ _ _ (by have := HSC.out; omega) (U_below HBC.out _ _ _ hgw4 (HCSB.out o u hu))
        have HCD := Lib.hid hcd
        have f0 := U_cell (hcd 0 _ rfl)
        have f1 := U_cell (hcd 1 _ rfl)
        have f2 := U_cell (hcd 2 _ rfl)
        have f3 := U_cell (hcd 3 _ rfl)
        have f4 := U_cell (hcd 4 _ rfl)
        have o0 := U_frozen (hcd 0 _ rfl)
        have o1 := U_frozen (hcd 1 _ rfl)
        have o2 := U_frozen (hcd 2 _ rfl)
        have o3 := U_frozen (hcd 3 _ rfl)
        have o4 := U_frozen (hcd 4 _ rfl)
        have HBD := Lib.hid hbd
        have HO4 := Lib.hid ho4
        rw [show (kH 15).k = 15 from rfl, show (kH 15).n = 0 from rfl, show (kH 15).a = 0 from rfl] at HO4 ⊢
        clear hbd ho4 hn4 hcd e0 e1 e2 e3 e4 hrun HC15 hwc hwa
        go_wp2_with fail
        obtain ⟨W6, hW6⟩ : ∃ W6, ((((wd.setCell ⟨w.heap.size, 0, none⟩ (.int .i64 15)).setCell ⟨w.heap.size, 1, none⟩ (.int .i64 0)).setCell ⟨w.heap.size, 2, none⟩ (.int .i64 0)).setCell ⟨w.heap.size, 3, none⟩ (.slice s3 m3 d3)).setCell ⟨w.heap.size, 4, none⟩ (.slice s4 m4 d4) = W6 := ⟨_, rfl⟩
        obtain ⟨x0, x1, x2, x3, x4, hk6⟩ := five_set (HCD.out 0 _ rfl) (HCD.out 1 _ rfl) (HCD.out 2 _ rfl) (HCD.out 3 _ rfl) (HCD.out 4 _ rfl) hW6
        have hs6 : W6.heap.size = wd.heap.size := by rw [← hW6]; simp
        have hcz := HSC.out
        have hdz := HBD.out.size
        have hX6 : XAt (w.heap.size :: (Value.slice p' (j + 1) cc').ownBlock.toList) w.heap.size (sndN (j + 1) t) W6 := by
          refine ⟨by omega, s3, m3, d3, s4, m4, d4, ?_, fun o u hu => ?_⟩
          · have hv := HO4.out.vsx (F := Fl (w.heap.size :: (Value.slice p' (j + 1) cc').ownBlock.toList) W6) (fun b o v hb hv => Fl_mk ((U_block (hk6 b (by omega)) o).trans hv) (fun hm => by
              rcases List.mem_cons.1 hm with hm | hm
              · omega
              · have := (HR4.out.mem b (by simp only [List.mem_append]; exact .inl hm)).2; omega))
            have := hv.rmx
            rw [show sndN (j + 1) t = ⟨kH 15, T.ts⟩ by rw [← HT.out]; rfl]
            exact this.mono (fun _ _ _ _ h => h) (by omega)
          · have ho : o < 5 := by have := (Array.getElem?_eq_some_iff.1 hu).1; simpa using this
            have hall : o = 0 ∨ o = 1 ∨ o = 2 ∨ o = 3 ∨ o = 4 := by omega
            rcases hall with rfl | rfl | rfl | rfl | rfl <;> (cases hu; assumption)
        have hR6 : RowG W6 (w.heap.size + 1) 5 26 (.slice p' (j + 1) cc') (j + 1) (tDs ty (fsts (j + 1) t)) (S ++ S2) := by
          have := (HR4.out.below (below_step HBC.out HBD.out)).keep (w' := W6) (fun b hb hb2 => hk6 b (by omega))
          rw [show fsts (j + 1) t = (fsts j t).snoc (kH 14) T.ts by rw [← HT.out]; rfl]
          exact this
        have hB6 : Below w.heap.size w W6 := by
          have := HBR4.out.trans (((below_step HBC.out HBD.out)).mono (by omega))
          rw [← hW6]
          exact ((((this.setCell (p := ⟨w.heap.size, 0, none⟩) (Nat.le_refl _) _).setCell (p := ⟨w.heap.size, 1, none⟩) (Nat.le_refl _) _).setCell (p := ⟨w.heap.size, 2, none⟩) (Nat.le_refl _) _).setCell (p := ⟨w.heap.size, 3, none⟩) (Nat.le_refl _) _).setCell (p := ⟨w.heap.size, 4, none⟩) (Nat.le_refl _) _
        rw [hW6]
        clear hk6 x0 x1 x2 x3 x4 hs6 hW6
        go_roundw
        case rel => exact ⟨j + 1, _, by omega, by go_num, hB6, hX6, hR6⟩
        case measure => simp [intOf]; omega
      · obtain rfl : j = N := by omega
        have r1 : decide ((1 : Int) < (j : Int) + 1 - j) = false := decide_eq_false (by omega)
        have r2 : ((j : Int) + 1 - j == 1) = true := by simp; omega
        have HC60 := Lib.hid (liftT_any T.h T.x (.agg #[.int .i64 T.h.k, .int .i64 T.h.n, .int .i64 T.h.a, .slice q1 n1 c1, .slice q2 n2 c2]) 0 0 wr (HRM.out.mono (fun b o v _ hv => Fl_U hv) (Nat.le_refl _)) hf1.1 hf1.2 (by omega) (HKA.out.on HB1.out HKA.out.1))
        rw [Hd.lift_zero hf1.1, Ts.lift_zero hf1.2] at HC60
        go_wp2_with fail
        refine HC60.out.mono ?_
        rintro e wb ⟨s1, m1, d1, s2, m2, d2, S2, rfl, hbb, ho, hnd⟩
        obtain ⟨v', w4, hrun, hR4, hB4, -⟩ := RowG.appendT (w0 := wb) (HR1.out.below hbb) HR1.out.lt_of ho hnd (by omega) (by omega) (by have := hbb.size; omega) rfl
        have HR4 := Lib.hid hR4
        have HBX := Lib.hid (HB1.out.trans ((hbb.mono HB1.out.size).trans (hB4.mono (Nat.le_succ _))))
        clear hbb ho hnd hR4 hB4 e0 e1 e2 e3 e4 HC60
        go_wp2_with (at_builtin; refine wpList_append_run rfl _ _ 22 rfl _ _ _ rfl rfl hrun ?_)
        go_ret
        have hR := HR4.out
        rw [show (fsts j t).snoc T.h T.x = partsT (j + 1) t by rw [← parts_last, HT.out]; rfl] at hR
        exact ⟨_, _, rfl, HBX.out, hR.own.lower (Nat.le_succ _), hR.nodup⟩
end Go.Proofs.YtkcmapimcgppmaaGreatDoor
end
