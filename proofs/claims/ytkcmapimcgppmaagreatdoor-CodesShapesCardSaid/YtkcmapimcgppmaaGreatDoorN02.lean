/-
  The counters of levels and terms. Conditions: no more than 2000000 nodes, levels, parts. append, of cells that are known, to a row of the call's own. Conditions: no more than 1000000000 elements. Marks, and parts handed in with marks behind their end. Conditions: no more than 2000000 parts. Parts handed in with marks behind their end. Conditions: no more than 2000000 parts. The document's Binds, below; its levels in memory of their own. Conditions: no more than 2000000 levels, parts. The program's Binds, by its table. Conditions: the table lies where it was laid. Arguments that came in read as data: parts, levels, terms; the table of kinds that the row lists. Conditions: as each lemma states them.
-/
import Derived.Test.YtkcmapimcgppmaaGreatDoorN01
import Derived.Test.YtkcmapimcgppmaaGreatDoorProg
import Derived.IntWalk
import Derived.Deep.RegionWith
import Derived.BigGuardPart
import Derived.Laws.OwnMore
import Derived.BigFrame
import Derived.Test.YtkcmapimcgppmaaGreatDoorCards
import Derived.Test.YtkcmapimcgppmaaGreatDoorTie
import Derived.ChangeArms
import Derived.ChangeReads
import Derived.KernelRfl
import Derived.Lib.LaidTab
import Derived.LaidSub
import GoSem.ClaimJoined
set_option linter.all false
set_option linter.unusedVariables false
set_option linter.unusedSimpArgs false
set_option linter.unnecessarySimpa false
section
namespace Go.Proofs.YtkcmapimcgppmaaGreatDoor
open Go.RowKit

/-- The types' numbers here. -/
def ty : Tys := ⟨77, 43, 26⟩

theorem ret_int {k : IntKind} {a b : Int} (h : a = b) : Ending.returned (.int k a) = .returned (.int k b) := by rw [h]

set_option maxHeartbeats 1000000 in
theorem levelOf_any (q : Option Addr) (n c : Nat) (m : Int) (w : World) (hn : n ≤ 2000000) (h0 : 0 ≤ m) (h1 : m ≤ 1000) :
    Calls Tryz.prog 70 #[.agg #[.slice q n c], .int .i64 m] w fun e w' => e = .returned (.int .i64 (min (1 + (n : Int)) (m + 1))) ∧ Below w.heap.size w w' := by
  go_enter Tryz.func70, Tryz.ntmps70
  go_wp2_with fail
  all_goals
    go_ret
    exact ⟨ret_int (by omega), below_alloc _ _⟩
theorem lvSize_at {l : List Lv} {k : Nat} (h : k < l.length) : l[k].length < lvSize l := by
  induction l generalizing k with
  | nil => cases h
  | cons p r ih =>
    cases k with
    | zero => simp only [List.getElem_cons_zero, lvSize]; omega
    | succ k => have := ih (k := k) (by simpa using h); simp only [List.getElem_cons_succ, lvSize]; omega

set_option maxHeartbeats 1000000 in
theorem levelsOf_any (l : List Lv) (va : Value) (m : Int) (w : World) (ha : RL ty w va l) (hs : lvSize l ≤ 2000000) (h0 : 0 ≤ m) (h1 : m ≤ 1000) :
    Calls Tryz.prog 51 #[va, .int .i64 m] w fun e w' => e = .returned (.int .i64 (lvCount l m 0)) ∧ Below w.heap.size w w' := by
  obtain ⟨q, c, rfl, hc1, hc2, -⟩ := ha.slice
  unfold maxLen at hc2
  have HA := Lib.hid ha
  clear ha
  go_enter Tryz.func51, Tryz.ntmps51
  go_wp2_with fail
  go_loopw [5, 6] (fun v i wr => ∃ (k : Nat) (n : Int), k ≤ l.length ∧ i = .int .i64 k ∧ v = .int .i64 n ∧ 0 ≤ n ∧ n ≤ 2 * m + 1 ∧ Hid (lvCount (l.drop k) m n = lvCount l m 0) ∧ Below w.heap.size w wr) (fun _ i _ => l.length - (intOf i).toNat)
  case atStart => exact ⟨0, 0, Nat.zero_le _, rfl, rfl, Int.le_refl _, by omega, rfl, Below.refl _ _⟩
  case round =>
    obtain ⟨k, n, hk, rfl, rfl, hn0, hn1, HC, hB⟩ := hrel
    have HB := Lib.hid hB
    clear hB
    by_cases hlt : k < l.length
    · have r1 : decide ((k : Int) < (l.length : Int)) = true := decide_eq_true (by omega)
      by_cases hnm : n ≤ m
      · have r2 : decide (n ≤ m) = true := decide_eq_true hnm
        obtain ⟨b, o, rfl, hb, r, d, hu, hd1, hd2, -⟩ := (HA.out.on HB.out).at_ hlt
        have e1 := U_cell hu
        have hsz := lvSize_at hlt
        have HS := Lib.hid (lvCount_drop hlt m n hnm)
        obtain ⟨z, hz⟩ : ∃ z : Nat, l[k].length = z := ⟨_, rfl⟩
        rw [hz] at e1 HS hsz
        have HL : Hid (∀ W, Calls Tryz.prog 70 #[.agg #[.slice r z d], .int .i64 m] W fun e w' => e = .returned (.int .i64 (min (1 + (z : Int)) (m + 1))) ∧ Below W.heap.size W w') := fun W => levelOf_any r z d m W (by omega) h0 h1
        obtain ⟨x, hx⟩ : ∃ x : Int, min (1 + (z : Int)) (m + 1) = x := ⟨_, rfl⟩
        have hx0 : 0 ≤ x := by omega
        have hx1 : x ≤ m + 1 := by omega
        rw [hx] at HL HS
        clear hu hd1 hd2 hx hz
        go_wp2_with fail
        refine (HL.out _).mono ?_
        rintro e w1 ⟨rfl, hb1⟩
        have HB1 := Lib.hid (below_step HB.out hb1)
        clear hb1
        go_wp2_with fail
        go_roundw
        case rel => exact ⟨k + 1, n + x, by omega, by go_num, by go_num, by omega, by omega, HS.out.symm.trans HC.out, HB1.out⟩
        case measure => simp [intOf]; omega
      · have r2 : decide (n ≤ m) = false := decide_eq_false hnm
        go_wp2_with fail
        go_ret
        refine ⟨ret_int ?_, HB.out⟩
        rw [← HC.out, List.drop_eq_getElem_cons hlt, lvCount, if_neg (by omega)]
    · have r1 : decide ((k : Int) < (l.length : Int)) = false := decide_eq_false (by omega)
      go_wp2_with fail
      go_ret
      refine ⟨ret_int ?_, HB.out⟩
      rw [← HC.out, List.drop_eq_nil_of_le (by omega), lvCount]

set_option maxHeartbeats 1000000 in
theorem termOf_of (h : Hd) (x : Ts) (va : Value) (m : Int) (w : World) (ha : RM ty w va h x) (hs : lvSize h.l + x.size ≤ 2000000) (h0 : 0 ≤ m) (h1 : m ≤ 1000)
    (hk : ∀ W v, RT ty W v x → Calls Tryz.prog 7 #[v, .int .i64 m] W fun e w' => e = .returned (.int .i64 (x.cnt m 0)) ∧ Below W.heap.size W w') :
    Calls Tryz.prog 8 #[va, .int .i64 m] w fun e w' => e = .returned (.int .i64 (1 + lvCount h.l m 0 + x.cnt m 0)) ∧ Below w.heap.size w w' := by
  obtain ⟨q, c, r, d, rfl, -, -, -, -, hl, hx⟩ := ha.agg
  go_enter Tryz.func8, Tryz.ntmps8
  go_wp2_with fail
  obtain ⟨W0, hW0⟩ : ∃ W0, w.alloc (.cells #[.int .i64 h.k, .int .i64 h.n, .int .i64 h.a, .slice q h.l.length c, .slice r x.len d] 26) = W0 := ⟨_, rfl⟩
  have hB0 : Below w.heap.size w W0 := by rw [← hW0]; exact below_alloc _ _
  have c3 : W0.cell? ⟨w.heap.size, 3, none⟩ = some (.slice q h.l.length c) := by rw [← hW0]; exact U_cell (laid_cell rfl)
  have c4 : W0.cell? ⟨w.heap.size, 4, none⟩ = some (.slice r x.len d) := by rw [← hW0]; exact U_cell (laid_cell rfl)
  have hlt : w.heap.size < W0.heap.size := by rw [← hW0]; simp
  have HB0 := Lib.hid hB0
  obtain ⟨b0, hb0⟩ : ∃ b0, w.heap.size = b0 := ⟨_, rfl⟩
  rw [hW0]
  rw [hb0] at c3 c4 hlt ⊢
  have HBB := Lib.hid hb0
  clear hb0
  obtain ⟨z, hz⟩ : ∃ z : Int, lvCount h.l m 0 = z := ⟨_, rfl⟩
  obtain ⟨y, hy⟩ : ∃ y : Int, x.cnt m 0 = y := ⟨_, rfl⟩
  have hz0 : 0 ≤ z := by rw [← hz]; exact lvCount_ge _ _ _ h0
  have hz1 : z ≤ 2 * m + 1 := by rw [← hz]; exact lvCount_le _ _ _ h0 (by omega)
  have hy0 : 0 ≤ y := by rw [← hy]; exact Ts.cnt_ge _ _ _ h0
  have hy1 : y ≤ 2002 * 2000000 := by
    rw [← hy]
    have g1 := Ts.cnt_le x m 0 h0 h1 (Int.le_refl _)
    have g2 := Ts.count_le_size x
    omega
  have H51 : Hid (∀ W, Below W0.heap.size W0 W → Calls Tryz.prog 51 #[.slice q h.l.length c, .int .i64 m] W fun e w' => e = .returned (.int .i64 z) ∧ Below W.heap.size W w') := fun W hW => by
    rw [← hz]; exact levelsOf_any h.l _ m W ((hl.on hB0).on hW) (by omega) h0 h1
  have H7 : Hid (∀ W, Below W0.heap.size W0 W → Calls Tryz.prog 7 #[.slice r x.len d, .int .i64 m] W fun e w' => e = .returned (.int .i64 y) ∧ Below W.heap.size W w') := fun W hW => by
    rw [← hy]; exact hk W _ ((hx.on hB0).on hW)
  have HZ := Lib.hid hz
  have HY := Lib.hid hy
  clear hW0 hB0 hl hx hk hz hy ha hs
  go_region_with (first
    | (go_at_call 51; refine (H51.out _ (by first | exact below_drew _ | assumption)).mono ?_; rintro e wx ⟨rfl, hbx⟩
       have hBx : Below W0.heap.size W0 wx := below_step (by first | exact below_drew _ | assumption) hbx
       have g3 := (hBx.cell (p := ⟨b0, 3, none⟩) hlt).trans c3
       have g4 := (hBx.cell (p := ⟨b0, 4, none⟩) hlt).trans c4
       clear hbx)
    | (go_at_call 7; refine (H7.out _ (by first | exact below_drew _ | assumption)).mono ?_; rintro e wy ⟨rfl, hby⟩
       have hBy : Below W0.heap.size W0 wy := below_step (by first | exact below_drew _ | assumption) hby
       have k3 := (hBy.cell (p := ⟨b0, 3, none⟩) hlt).trans c3
       have k4 := (hBy.cell (p := ⟨b0, 4, none⟩) hlt).trans c4
       clear hby))
  all_goals
    go_wp2_with fail
    go_ret
    exact ⟨ret_int (by rw [HZ.out, HY.out, show IntKind.i64.wrap (1 + z) = 1 + z by rw [IntKind.wrap_i64]; omega, IntKind.wrap_i64]; omega), below_step HB0.out (by assumption)⟩

set_option maxHeartbeats 1000000 in
theorem termsOf_any (M : Nat) : ∀ (t : Ts) (va : Value) (m : Int) (w : World), t.count < M → RT ty w va t → t.size ≤ 2000000 → 0 ≤ m → m ≤ 1000 →
    Calls Tryz.prog 7 #[va, .int .i64 m] w fun e w' => e = .returned (.int .i64 (t.cnt m 0)) ∧ Below w.heap.size w w' := by
  induction M with
  | zero => intro t va m w hm; omega
  | succ M ih =>
    intro t va m w hm ha hs h0 h1
    obtain ⟨q, c, rfl, hc1, hc2, -⟩ := ha.slice
    unfold maxLen at hc2
    have HA := Lib.hid ha
    have IH := Lib.hid ih
    have HM := Lib.hid hm
    clear ha ih hm
    go_enter Tryz.func7, Tryz.ntmps7
    go_wp2_with fail
    go_loopw [5, 6] (fun v i wr => ∃ (k : Nat) (n : Int), k ≤ t.len ∧ i = .int .i64 k ∧ v = .int .i64 n ∧ 0 ≤ n ∧ n ≤ 5000000000 ∧ Hid ((t.drop k).cnt m n = t.cnt m 0) ∧ Below w.heap.size w wr) (fun _ i _ => t.len - (intOf i).toNat)
    case atStart => exact ⟨0, 0, Nat.zero_le _, rfl, rfl, Int.le_refl _, by omega, rfl, Below.refl _ _⟩
    case round =>
      obtain ⟨k, n, hk, rfl, rfl, hn0, hn1, HC, hB⟩ := hrel
      have HB := Lib.hid hB
      clear hB
      by_cases hlt : k < t.len
      · have r1 : decide ((k : Int) < (t.len : Int)) = true := decide_eq_true (by omega)
        by_cases hnm : n ≤ m
        · have r2 : decide (n ≤ m) = true := decide_eq_true hnm
          obtain ⟨b, o, rfl, hb, hu1, hu2, hu3, ⟨r, d, hu4, hd1, hd2, hRL⟩, ⟨r', d', hu5, hd3, hd4, hRT⟩⟩ := (HA.out.on HB.out).at_ hlt
          have e1 := U_cell hu1
          have e2 := U_cell hu2
          have e3 := U_cell hu3
          have e4 := U_cell hu4
          have e5 := U_cell hu5
          have hsz := Ts.size_kd hlt
          have hcnt := Ts.count_kd hlt
          have hRM : RM ty wr (.agg #[.int .i64 (t.hd k).k, .int .i64 (t.hd k).n, .int .i64 (t.hd k).a, .slice r (t.hd k).l.length d, .slice r' (t.kd k).len d']) (t.hd k) (t.kd k) := ⟨r, _, d, r', _, d', rfl, hRL, hRT⟩
          have HT := Lib.hid (termOf_of (t.hd k) (t.kd k) _ (m - n) wr hRM (by omega) (by omega) (by omega) (fun W v hv => IH.out (t.kd k) v (m - n) W (by have := HM.out; omega) hv (by omega) (by omega) (by omega)))
          have HS := Lib.hid (Ts.cnt_drop hlt m n hnm)
          obtain ⟨z, hz⟩ : ∃ z : Int, 1 + lvCount (t.hd k).l (m - n) 0 + (t.kd k).cnt (m - n) 0 = z := ⟨_, rfl⟩
          have hz0 : 0 ≤ z := by
            have g1 := lvCount_ge (t.hd k).l (m - n) 0 (by omega)
            have g2 := Ts.cnt_ge (t.kd k) (m - n) 0 (by omega)
            omega
          have hz1 : z ≤ 4100000000 := by
            have g1 := lvCount_le (t.hd k).l (m - n) 0 (by omega) (by omega)
            have g2 := Ts.cnt_le (t.kd k) (m - n) 0 (by omega) (by omega) (Int.le_refl _)
            have g3 := Ts.count_le_size (t.kd k)
            omega
          rw [hz] at HT HS
          clear hu1 hu2 hu3 hu4 hu5 hd1 hd2 hd3 hd4 hRL hRT hsz hcnt hRM hz
          go_wp2_with fail
          refine HT.out.mono ?_
          rintro e w1 ⟨rfl, hb1⟩
          have HB1 := Lib.hid (below_step HB.out hb1)
          clear hb1
          go_wp2_with fail
          go_roundw
          case rel => exact ⟨k + 1, n + z, by omega, by go_num, by go_num, by omega, by omega, HS.out.symm.trans HC.out, HB1.out⟩
          case measure => simp [intOf]; omega
        · have r2 : decide (n ≤ m) = false := decide_eq_false hnm
          go_wp2_with fail
          go_ret
          refine ⟨ret_int ?_, HB.out⟩
          rw [← HC.out, Ts.drop_step hlt, Ts.cnt, if_neg (by omega)]
      · have r1 : decide ((k : Int) < (t.len : Int)) = false := decide_eq_false (by omega)
        go_wp2_with fail
        go_ret
        refine ⟨ret_int ?_, HB.out⟩
        obtain rfl : k = t.len := by omega
        rw [← HC.out, Ts.drop_len, Ts.cnt]
end Go.Proofs.YtkcmapimcgppmaaGreatDoor
end
section
namespace Go.Proofs.YtkcmapimcgppmaaGreatDoor
open Go.RowKit

theorem wpList_append_run {P : Program} {ops : Array Oper} {Q : Exit → Act → World → Prop} {a : Act} {w w' : World} {rest : List Oper} {o : Oper} (hw : Region.wanted o (yielded ops a.tmps) = true) (s x : Operand) (t : TypeId)
    (ho : o.op = .call { callee := .builtin .append, args := #[s, x], argTypes := #[t, t] }) (v xv v' : Value) (hs : a.eval s = v) (hx : a.eval x = xv) (hr : (Builtin.append_ #[t, t] o.type #[v, xv]).run P w = .ok v' w')
    (h : wpList P ops Q rest (a.put o.dst v') w') : wpList P ops Q (o :: rest) a w := by
  refine wpList_step fun K hK => ?_
  rw [if_pos hw]
  unfold Oper.wp execOp
  simp only [ho, resolve, invoke, builtin, Sem.run_bind, Sem.run_pure, Result.andThen_ok, List.map_toArray, List.map_cons, List.map_nil, hs, hx, hr]
  exact hK _ _ h

/-- What is known of a slice's type: its element's. -/
structure ElT (P : Program) (t e size : Nat) : Prop where
  is : ∃ (i : TypeInfo) (z : Value) (bytes : Nat), P.underlying t = some (.slice e) ∧ P.info? e = some i ∧ i.zero = some z ∧ i.size = size ∧ i.bytes = bytes ∧ z.cells.size = size ∧ 0 < size ∧ bytes ≤ 1000
theorem ElT.mk' {P : Program} {t e size bytes : Nat} {z : Value} (ht : P.underlying t = some (.slice e)) (h : (P.info? e).map (fun i => (i.zero, i.size, i.bytes)) = some (some z, size, bytes)) (hz : z.cells.size = size) (h0 : 0 < size) (hb : bytes ≤ 1000) : ElT P t e size := by
  obtain ⟨i0, hi0, hz0, hz1, hz2⟩ := info_parts h
  exact ⟨i0, z, bytes, ht, hi0, hz0, hz1, hz2, hz, h0, hb⟩
/-- Every cell holds one value alone. -/
def Ds.ones : Ds → Prop
  | .nil => True
  | .lit v r => v.oneCell' = true ∧ r.ones
  | .row _ _ _ _ r => r.ones
theorem Own.one {w : World} {base : Nat} {x : Ds} : ∀ {xs : List Value} {S : List Nat}, x.ones → Own w base x xs S → ∀ u ∈ xs, u.oneCell' = true := by
  induction x with
  | nil => rintro xs S - ⟨rfl, -⟩ u hu; cases hu
  | lit v r ih =>
    rintro xs S ⟨h1, h2⟩ ⟨ys, rfl, h⟩ u hu
    rcases List.mem_cons.1 hu with rfl | hu
    · exact h1
    · exact ih h2 h u hu
  | row sz e x s r _ _ ih =>
    rintro xs S h1 ⟨v, ys, zs, us, B, S1, S2, S3, rfl, h2, h3, h4, h5, rfl⟩ u hu
    rcases List.mem_cons.1 hu with rfl | hu
    · rcases h2 with ⟨p, rfl, -⟩ | ⟨g, n, cap, cur, -, rfl, -⟩ <;> rfl
    · exact ih h1 h5 u hu
theorem RowG.lt_of {w : World} {base sz e n : Nat} {v : Value} {x : Ds} {S : List Nat} (h : RowG w base sz e v n x S) : ∀ b ∈ v.ownBlock.toList ++ S, b < w.heap.size := fun b hb => (h.mem b hb).2
/-- The append (w0: the world in which the row stood before the element was made; so its blocks lie apart from the element's). -/
theorem RowG.append {P : Program} {t e sz ty : Nat} (hT : ElT P t e sz) {w : World} {base n k m0 : Nat} {v : Value} {x y : Ds} {ys : List Value} {S S2 : List Nat} (h : RowG w base sz e v n x S) (hlt : ∀ b ∈ v.ownBlock.toList ++ S, b < m0)
    (hy : Own w base y ys S2) (hnd : S2.Nodup) (hge : ∀ b ∈ S2, m0 ≤ b) (h1 : y.ones) (ad : Addr) (c : Nat) (hl : ys.length = k * sz) (hnews : ∀ j u, ys[j]? = some u → w.cell? (ad.add j) = some u) (hn : n + k ≤ 1000000000) (hbase : base ≤ w.heap.size) :
    ∃ v' w', (Builtin.append_ #[t, t] ty #[v, .slice (some ad) k c]).run P w = .ok v' w' ∧ RowG w' base sz e v' (n + k) (x.app y) (S ++ S2) ∧ w.grownBy w' v.ownBlock ∧ (v'.ownBlock = v.ownBlock ∨ v'.ownBlock = some w.heap.size) := by
  obtain ⟨i, z, bytes, ht, hi, hz, hsize, hby, hzs, hsz, hb⟩ := hT.is
  obtain ⟨xs, hown, hx, hnd0⟩ := h
  have hbb : (n + k) * bytes ≤ 1000000000 * 1000 := Nat.mul_le_mul hn hb
  obtain ⟨v', w', hr, h2, h3, -, h5⟩ := run_append_own_at (P := P) w base t ty e i z sz bytes ht hi hz hsize hby hzs hsz v n xs hown ad k c ys hl hnews (hy.one h1) (by unfold maxLen; omega) (by omega) hbase
  exact ⟨v', w', hr, RowG.push hx hnd0 hlt hy hnd hge h2 h3 h5, h3, h5⟩
/-- Nothing appended. -/
theorem RowG.append_none {P : Program} {t e sz ty : Nat} (hT : ElT P t e sz) {w : World} {base n : Nat} {v : Value} {x : Ds} {S : List Nat} (h : RowG w base sz e v n x S) : (Builtin.append_ #[t, t] ty #[v, .slice none 0 0]).run P w = .ok v w := by
  obtain ⟨i, z, bytes, ht, hi, hz, hsize, hby, hzs, hsz, hb⟩ := hT.is
  obtain ⟨xs, hown, -, -⟩ := h
  exact run_append_owned_none w base t ty e i sz ht hi v n xs hown
/-- A row made with room, nothing in it yet. -/
theorem RowG.make {P : Program} {t e sz : Nat} (hT : ElT P t e sz) (w : World) (base c : Nat) (kl kc : IntKind) (hc : c ≤ 1000000000) (hb : base ≤ w.heap.size) :
    ∃ w', (Instr.makeSlice t (.int kl 0) (.int kc (c : Int))).run P w = .ok (.slice (some ⟨w.heap.size, 0, none⟩) 0 c) w' ∧ RowG w' base sz e (.slice (some ⟨w.heap.size, 0, none⟩) 0 c) 0 .nil [] ∧ Below w.heap.size w w' := by
  obtain ⟨i, z, bytes, ht, hi, hz, hsize, hby, hzs, hsz, hbb⟩ := hT.is
  have h2 : bytes * c ≤ 1000 * 1000000000 := Nat.mul_le_mul hbb hc
  obtain ⟨w', hr, h3, h4⟩ := run_make_own (P := P) w base t e i z sz ht hi hz hsize kl kc c (by rw [hby]; omega) (by unfold maxLen; omega) hb
  refine ⟨w', hr, ⟨[], h3, ⟨rfl, rfl⟩, by simp [Value.ownBlock]⟩, ?_⟩
  exact (Below.refl _ w).grown h4 (Nat.le_refl _) (fun g hg => by cases hg)
theorem RowG.cap {w : World} {base sz e n : Nat} {v : Value} {x : Ds} {S : List Nat} (h : RowG w base sz e v n x S) : ∃ p c, v = .slice p n c ∧ n ≤ c ∧ c ≤ maxLen := by
  obtain ⟨xs, h1, -, -⟩ := h
  rcases h1.2 with ⟨rfl, rfl⟩ | ⟨g, cap, cur, rfl, -, -, h2, h3, -⟩
  · exact ⟨none, 0, rfl, Nat.le_refl _, Nat.zero_le _⟩
  · exact ⟨_, cap, rfl, h2, h3⟩
/-- Cells that are plain values are owned wherever they lie. -/
def Ds.flat : Ds → Prop
  | .nil => True
  | .lit _ r => r.flat
  | .row _ _ _ _ _ => False
theorem At.flat {F : Nat → Nat → Option Value} {hi : Nat} (w : World) (base : Nat) {x : Ds} (hf : x.flat) : ∀ {b o : Nat}, At F hi x b o → ∃ xs, Own w base x xs [] ∧ ∀ j u, xs[j]? = some u → F b (o + j) = some u := by
  induction x with
  | nil => intro b o _; exact ⟨[], ⟨rfl, rfl⟩, fun j u hu => by simp at hu⟩
  | lit v r ih =>
    rintro b o ⟨h1, h2⟩
    obtain ⟨xs, h3, h4⟩ := ih hf h2
    refine ⟨v :: xs, ⟨xs, rfl, h3⟩, fun j u hu => ?_⟩
    cases j with
    | zero => simp at hu; subst hu; exact h1
    | succ j =>
      have := h4 j u (by simpa using hu)
      rw [show o + (j + 1) = o + 1 + j by omega]; exact this
  | row sz e x s r _ _ _ => exact absurd hf id
/-- A row laid whole, of cells that are owned. -/
theorem Own.laid {w : World} {base sz e n : Nat} {x : Ds} {zs : List Value} {S : List Nat} (h : Own w base x zs S) (hnd : S.Nodup) (hb : base ≤ w.heap.size) (hl : zs.length = n * sz) (hn : n ≤ 1000000) :
    Own (w.alloc (.cells zs.toArray e)) base (.row sz e x .nil .nil) [.slice (some ⟨w.heap.size, 0, none⟩) n n] ([w.heap.size] ++ S) ∧ ([w.heap.size] ++ S).Nodup := by
  have h1 : (w.alloc (.cells zs.toArray e)).ownsRow base e sz (.slice (some ⟨w.heap.size, 0, none⟩) n n) n zs.toArray.toList := World.ownsRow_lit w zs.toArray n hb (by unfold maxLen; omega) (by simpa using hl)
  have h2 : Own (w.alloc (.cells zs.toArray e)) base x zs S := h.below (below_alloc _ _)
  have hnd' : ([w.heap.size] ++ S).Nodup := by
    refine List.nodup_append.2 ⟨by simp, hnd, fun a ha b hb' e1 => ?_⟩
    have := (h.mem b hb').2
    simp at ha
    omega
  exact ⟨RowG.own (v := .slice (some ⟨w.heap.size, 0, none⟩) n n) (n := n) ⟨_, h1, h2, hnd'⟩, hnd'⟩
end Go.Proofs.YtkcmapimcgppmaaGreatDoor
end
section
namespace Go.Proofs.YtkcmapimcgppmaaGreatDoor
open Go.RowKit

theorem info77 : (Tryz.prog.info? 77).map (fun i => (i.zero, i.size, i.bytes)) = some (some (.agg #[.int .i64 0, .int .i64 0]), 2, 16) := by kernel_rfl
theorem info43 : (Tryz.prog.info? 43).map (fun i => (i.zero, i.size, i.bytes)) = some (some (.agg #[.slice none 0 0]), 1, 24) := by kernel_rfl
theorem info26 : (Tryz.prog.info? 26).map (fun i => (i.zero, i.size, i.bytes)) = some (some (.agg #[.int .i64 0, .int .i64 0, .int .i64 0, .slice none 0 0, .slice none 0 0]), 5, 72) := by kernel_rfl
theorem elP : ElT Tryz.prog 41 77 2 := ElT.mk' Tryz.underlying41 info77 rfl (by decide) (by decide)
theorem elL : ElT Tryz.prog 24 43 1 := ElT.mk' Tryz.underlying24 info43 rfl (by decide) (by decide)
theorem elT : ElT Tryz.prog 22 26 5 := ElT.mk' Tryz.underlying22 info26 rfl (by decide) (by decide)
theorem ptDs_ones (p : Lv) : (ptDs p).ones := by
  induction p with
  | nil => trivial
  | cons a r ih => exact ⟨rfl, rfl, ih⟩
theorem lvDs_ones (y : Tys) (l : List Lv) : (lvDs y l).ones := by
  induction l with
  | nil => trivial
  | cons a r ih => exact ih
theorem tDs_ones (y : Tys) (t : Ts) : (tDs y t).ones := by
  induction t with
  | nil => trivial
  | cons h x r _ ih => exact ⟨rfl, rfl, rfl, ih⟩
theorem ptDs_flat (p : Lv) : (ptDs p).flat := by
  induction p with
  | nil => trivial
  | cons a r ih => exact ih

/-- What a call makes in memory of its own: the cells x, told as a struct; as one value. -/
def Makes (x : Ds) (w : World) (e : Ending) (w' : World) : Prop := ∃ xs S, e = .returned (.agg xs.toArray) ∧ Below w.heap.size w w' ∧ Own w' w.heap.size x xs S ∧ S.Nodup
def MakesV (x : Ds) (w : World) (e : Ending) (w' : World) : Prop := ∃ v S, e = .returned v ∧ Below w.heap.size w w' ∧ Own w' w.heap.size x [v] S ∧ S.Nodup

set_option maxHeartbeats 1000000 in
theorem mark_any (k i : Nat) (w : World) (hk : k ≤ 100000000) (hi : i ≤ 100000000) : Calls Tryz.prog 120 #[.int .i64 k, .int .i64 i] w fun e w' => e = .returned (.int .i64 (mark k i)) ∧ w' = w := by
  go_enter Tryz.func120, Tryz.ntmps120
  go_wp2_with fail
  go_ret
  exact ⟨ret_int (by unfold mark; omega), rfl⟩
set_option maxHeartbeats 1000000 in
theorem markPart_any (k i : Nat) (w : World) (hk : k ≤ 100000000) (hi : i ≤ 100000000) : Calls Tryz.prog 210 #[.int .i64 k, .int .i64 i] w fun e w' => e = .returned (.agg #[.int .i64 0, .int .i64 (mark k i)]) ∧ Below w.heap.size w w' := by
  have HM : Hid (∀ W, Calls Tryz.prog 120 #[.int .i64 k, .int .i64 i] W fun e w' => e = .returned (.int .i64 (mark k i)) ∧ w' = W) := fun W => mark_any k i W hk hi
  obtain ⟨m, hm⟩ : ∃ m, mark k i = m := ⟨_, rfl⟩
  rw [hm] at HM ⊢
  go_enter Tryz.func210, Tryz.ntmps210
  go_wp2_with fail
  refine (HM.out _).mono ?_
  rintro e w' ⟨rfl, rfl⟩
  go_wp2_with fail
  refine bodyPost_ret (v := .agg #[.int .i64 0, .int .i64 m]) (by simp [results, Tryz.results210, go_sem]) rfl ⟨rfl, below_alloc _ _⟩

set_option maxHeartbeats 1000000 in
theorem markTerm_any (k i : Nat) (w : World) (hk : k ≤ 100000000) (hi : i ≤ 100000000) : Calls Tryz.prog 54 #[.int .i64 k, .int .i64 i] w fun e w' => e = .returned (.agg #[.int .i64 0, .int .i64 (mark k i), .int .i64 0, .slice none 0 0, .slice none 0 0]) ∧ Below w.heap.size w w' := by
  have HM : Hid (∀ W, Calls Tryz.prog 120 #[.int .i64 k, .int .i64 i] W fun e w' => e = .returned (.int .i64 (mark k i)) ∧ w' = W) := fun W => mark_any k i W hk hi
  obtain ⟨m, hm⟩ : ∃ m, mark k i = m := ⟨_, rfl⟩
  rw [hm] at HM ⊢
  go_enter Tryz.func54, Tryz.ntmps54
  go_wp2_with fail
  refine (HM.out _).mono ?_
  rintro e w' ⟨rfl, rfl⟩
  go_wp2_with fail
  refine bodyPost_ret (v := .agg #[.int .i64 0, .int .i64 m, .int .i64 0, .slice none 0 0, .slice none 0 0]) (by simp [results, Tryz.results54, go_sem]) rfl ⟨rfl, below_alloc _ _⟩

set_option maxHeartbeats 1000000 in
theorem markLevel_any (k i : Nat) (w : World) (hk : k ≤ 100000000) (hi : i ≤ 100000000) : Calls Tryz.prog 121 #[.int .i64 k, .int .i64 i] w (Makes (lvDs ty [lvMark k i]) w) := by
  have HM : Hid (∀ W, Calls Tryz.prog 120 #[.int .i64 k, .int .i64 i] W fun e w' => e = .returned (.int .i64 (mark k i)) ∧ w' = W) := fun W => mark_any k i W hk hi
  obtain ⟨m, hm⟩ : ∃ m, mark k i = m := ⟨_, rfl⟩
  rw [hm] at HM
  have hd : lvDs ty [lvMark k i] = .row 2 77 (.lit (.int .i64 0) (.lit (.int .i64 m) .nil)) .nil .nil := by
    show Ds.row 2 77 (.lit (.int .i64 0) (.lit (.int .i64 (mark k i)) .nil)) .nil .nil = _
    rw [hm]
  rw [hd]
  clear hd
  go_enter Tryz.func121, Tryz.ntmps121
  go_wp2_with fail
  refine (HM.out _).mono ?_
  rintro e w' ⟨rfl, rfl⟩
  go_wp2_with fail
  have h0 : Own (w.alloc (.cells #[.slice (some ⟨w.heap.size + 1, 0, none⟩) 1 1] 43)) w.heap.size (.lit (.int .i64 0) (.lit (.int .i64 m) .nil)) [.int .i64 0, .int .i64 m] [] := ⟨_, rfl, _, rfl, rfl, rfl⟩
  obtain ⟨h1, h2⟩ := Own.laid (sz := 2) (e := 77) (n := 1) h0 (by simp) (by simp) rfl (by decide)
  simp only [World.size_alloc] at h1 h2
  exact bodyPost_ret (v := .agg #[.slice (some ⟨w.heap.size + 1, 0, none⟩) 1 1]) (by simp [results, Tryz.results121, go_sem]) rfl ⟨_, _, rfl, below_step (below_alloc _ _) (below_alloc _ _), h1, h2⟩
end Go.Proofs.YtkcmapimcgppmaaGreatDoor
end
section
namespace Go.Proofs.YtkcmapimcgppmaaGreatDoor
open Go.RowKit

theorem RowG.ge {w : World} {base sz e n : Nat} {v : Value} {x : Ds} {S : List Nat} (h : RowG w base sz e v n x S) : ∀ g, v.ownBlock = some g → base ≤ g := fun g hg => (h.mem g (by simp [hg])).1

/-- Parts appended to a row that holds nothing yet. -/
theorem lent_copy {w w1 : World} {base : Nat} {v : Value} {q : Option Addr} {c : Nat} {p : Lv} (hr : RowG w1 base 2 77 v 0 .nil []) (ha : RP w1 (.slice q p.length c) p) (hn : p.length ≤ 2000000) (hb : base ≤ w1.heap.size) (hB : Below base w w1) :
    ∃ v' w', (Builtin.append_ #[41, 41] 41 #[v, .slice q p.length c]).run Tryz.prog w1 = .ok v' w' ∧ RowG w' base 2 77 v' p.length (ptDs p) [] ∧ Below base w w' := by
  obtain ⟨q', n', c', e1, h2, h3, h4, h5, h6⟩ := ha
  cases e1
  have grow : ∀ (ad : Addr) (ys : List Value), Own w1 base (ptDs p) ys [] → (∀ j u, ys[j]? = some u → w1.cell? (ad.add j) = some u) →
      ∃ v' w', (Builtin.append_ #[41, 41] 41 #[v, .slice (some ad) p.length c]).run Tryz.prog w1 = .ok v' w' ∧ RowG w' base 2 77 v' p.length (ptDs p) [] ∧ Below base w w' := by
    intro ad ys hy hnews
    obtain ⟨v', w', hrun, hR, hg, -⟩ := RowG.append (ty := 41) elP hr hr.lt_of hy (by simp) (by simp) (ptDs_ones p) ad c (by rw [hy.len, ptDs_len]) hnews (by omega) hb
    refine ⟨v', w', hrun, by simpa [Ds.app] using hR, hB.grown hg hb hr.ge⟩
  rcases h6 with ⟨rfl, rfl⟩ | ⟨h6, -, h7⟩ | ⟨b', o', rfl, hl, hA, -⟩
  · have hp : p = [] := List.length_eq_zero_iff.1 (by omega)
    subst hp
    exact ⟨v, w1, RowG.append_none elP hr, hr, hB⟩
  · have hp : p = [] := List.length_eq_zero_iff.1 h6
    subst hp
    cases q with
    | none => exact absurd rfl h7
    | some ad => exact grow ad [] ⟨rfl, rfl⟩ (fun j u hu => by simp at hu)
  · obtain ⟨ys, h8, h9⟩ := hA.flat w1 base (ptDs_flat p)
    refine grow ⟨b', o', none⟩ ys h8 fun j u hu => ?_
    have := U_cell (h9 j u hu)
    have e1 : ((⟨b', o', none⟩ : Addr).add j) = ⟨b', o' + j, none⟩ := by
      unfold Addr.add; split
      · rename_i hj; subst hj; rfl
      · rfl
    rw [e1]; exact this

set_option maxHeartbeats 1000000 in
theorem lentParts_any (p : Lv) (va : Value) (w : World) (ha : RP w va p) (hn : p.length ≤ 2000000) : Calls Tryz.prog 155 #[va] w (MakesV (.row 2 77 (ptDs p) (ptDs (ptMarks 1 12)) .nil) w) := by
  obtain ⟨q, c, rfl, hc1, hc2, -⟩ := ha.slice
  unfold maxLen at hc2
  obtain ⟨w1, hrun, hR, hB⟩ := RowG.make elP w w.heap.size (p.length + 12) .i64 .i64 (by omega) (Nat.le_refl _)
  rw [show ((p.length + 12 : Nat) : Int) = (p.length : Int) + 12 by omega] at hrun
  obtain ⟨v1, w2, hrun2, hR2, hB2⟩ := lent_copy hR (ha.on hB) hn hB.size hB
  obtain ⟨n, hpn⟩ : ∃ n, p.length = n := ⟨_, rfl⟩
  rw [hpn] at hrun hrun2 hR2 hn hc1 ⊢
  have HR2 := Lib.hid hR2
  have HB2 := Lib.hid hB2
  have HPN := Lib.hid hpn
  clear hR hB hR2 hB2 ha hpn
  go_enter Tryz.func155, Tryz.ntmps155
  go_wp2_with (at_builtin; refine wpList_append_run rfl _ _ 41 rfl _ _ _ rfl rfl hrun2 ?_)
  clear hrun hrun2
  go_loopw [3, 4] (fun v i wr => ∃ j : Nat, j ≤ 12 ∧ i = .int .i64 j ∧ Below w.heap.size w wr ∧ RowG wr w.heap.size 2 77 v (n + j) (ptDs (p ++ ptMarks 1 j)) []) (fun _ i _ => 12 - (intOf i).toNat)
  case atStart => exact ⟨0, Nat.zero_le _, rfl, HB2.out, by simpa [ptMarks] using HR2.out⟩
  case round =>
    obtain ⟨j, hj, rfl, hB, hR⟩ := hrel
    have HB := Lib.hid hB
    have HR := Lib.hid hR
    clear hB hR HR2 HB2
    by_cases hlt : j < 12
    · have r1 : decide ((j : Int) < 12) = true := decide_eq_true (by omega)
      have HM := Lib.hid (markPart_any 1 j wr (by decide) (by omega))
      obtain ⟨m, hm⟩ : ∃ m, mark 1 j = m := ⟨_, rfl⟩
      have HMM : Hid (ptMark 1 j = (0, m)) := Lib.hid (by unfold ptMark; rw [hm])
      rw [hm] at HM
      clear hm
      go_wp2_with fail
      refine HM.out.mono ?_
      rintro e w3 ⟨rfl, hb3⟩
      have hR3 := (HR.out.below hb3).below (below_alloc w3 (.cells #[.int .i64 0, .int .i64 m] 77))
      have hB3 := below_step (below_step HB.out hb3) (below_alloc w3 (.cells #[.int .i64 0, .int .i64 m] 77))
      obtain ⟨v', w4, hrun4, hR4, hg4, -⟩ := RowG.append (ty := 41) (k := 1) elP hR3 hR3.lt_of (y := ptDs [(0, m)]) (ys := [.int .i64 0, .int .i64 m]) (S2 := []) ⟨_, rfl, _, rfl, rfl, rfl⟩ (by simp) (by simp) ⟨rfl, rfl, trivial⟩ ⟨w3.heap.size, 0, none⟩ 1 rfl (new_cells w3 _ 77) (by omega) hB3.size
      have HB4 := Lib.hid (hB3.grown hg4 hB3.size hR3.ge)
      have HR4 : Hid (RowG w4 w.heap.size 2 77 v' (n + (j + 1)) (ptDs (p ++ ptMarks 1 (j + 1))) []) := Lib.hid (by
        rw [ptMarks, HMM.out, ← List.append_assoc, ptDs_app]; exact hR4)
      clear hb3 hR3 hB3 hR4 hg4 HMM
      go_wp2_with (at_builtin; refine wpList_append_run rfl _ _ 41 rfl _ _ _ rfl rfl hrun4 ?_)
      clear hrun4
      go_roundw
      case rel => exact ⟨j + 1, by omega, by go_num, HB4.out, HR4.out⟩
      case measure => simp [intOf]; omega
    · obtain rfl : j = 12 := by omega
      obtain ⟨p', c', rfl, hc3, hc4⟩ := HR.out.cap
      unfold maxLen at hc4
      have HX := Lib.hid (RowG.cut (m := n) (s := ptDs (ptMarks 1 12)) (by rw [← ptDs_app]; exact HR.out) (by omega) (by rw [ptDs_len, HPN.out]))
      have hnd : ((Value.slice p' (n + 12) c').ownBlock.toList ++ []).Nodup := by cases p' <;> simp [Value.ownBlock]
      clear hj hlt
      go_wp2_with fail
      all_goals go_ret
      exact ⟨_, _, rfl, HB.out, HX.out, hnd⟩
end Go.Proofs.YtkcmapimcgppmaaGreatDoor
end
section
namespace Go.Proofs.YtkcmapimcgppmaaGreatDoor
open Go.RowKit

set_option maxRecDepth 100000 in
set_option maxHeartbeats 1000000 in
theorem refBinds_any (k : Int) (i : Nat) (w : World) : Calls Tryz.prog 228 #[.int .i64 k, .int .i64 i] w fun e w' => e = .returned (.bool (binds k i)) ∧ w' = w := by
  obtain ⟨b, hb⟩ : ∃ b, binds k i = b := ⟨_, rfl⟩
  have HB := Lib.hid hb
  clear hb
  rw [show (fun e w' => e = Ending.returned (.bool (binds k i)) ∧ w' = w) = (fun e w' => e = Ending.returned (.bool b) ∧ w' = w) by rw [HB.out]]
  have hone : ((i : Int) == 1) = (i == 1) := by rw [Bool.eq_iff_iff]; simp; omega
  have htwo : ((i : Int) == 2) = (i == 2) := by rw [Bool.eq_iff_iff]; simp; omega
  by_cases h4 : k = 4
  · subst h4
    have hv : (i == 1) = b := by have := HB.out; simpa [binds] using this
    go_enter Tryz.func228, Tryz.ntmps228
    go_wp2_with fail
    all_goals go_ret
    all_goals exact ⟨by rw [← hv, ← hone]; first | rfl | simp_all, rfl⟩
  by_cases h5 : k = 5
  · subst h5
    have hv : (i == 1) = b := by have := HB.out; simpa [binds] using this
    go_enter Tryz.func228, Tryz.ntmps228
    go_wp2_with fail
    all_goals go_ret
    all_goals exact ⟨by rw [← hv, ← hone]; first | rfl | simp_all, rfl⟩
  by_cases h12 : k = 12
  · subst h12
    have hv : (i == 1) = b := by have := HB.out; simpa [binds] using this
    go_enter Tryz.func228, Tryz.ntmps228
    go_wp2_with fail
    all_goals go_ret
    all_goals exact ⟨by rw [← hv, ← hone]; first | rfl | simp_all, rfl⟩
  by_cases h16 : k = 16
  · subst h16
    have hv : (i == 1) = b := by have := HB.out; simpa [binds] using this
    go_enter Tryz.func228, Tryz.ntmps228
    go_wp2_with fail
    all_goals go_ret
    all_goals exact ⟨by rw [← hv, ← hone]; first | rfl | simp_all, rfl⟩
  by_cases h18 : k = 18
  · subst h18
    have hv : (i == 1) = b := by have := HB.out; simpa [binds] using this
    go_enter Tryz.func228, Tryz.ntmps228
    go_wp2_with fail
    all_goals go_ret
    all_goals exact ⟨by rw [← hv, ← hone]; first | rfl | simp_all, rfl⟩
  have n4 : (k == 4) = false := by simpa using h4
  have n5 : (k == 5) = false := by simpa using h5
  have n12 : (k == 12) = false := by simpa using h12
  have n16 : (k == 16) = false := by simpa using h16
  have n18 : (k == 18) = false := by simpa using h18
  by_cases h7 : k = 7
  · subst h7
    have hv : (i == 2) = b := by have := HB.out; simpa [binds] using this
    go_enter Tryz.func228, Tryz.ntmps228
    go_wp2_with fail
    all_goals go_ret
    all_goals exact ⟨by rw [← hv, ← htwo]; first | rfl | simp_all, rfl⟩
  have n7 : (k == 7) = false := by simpa using h7
  have hv : false = b := by have := HB.out; simpa [binds, h4, h5, h12, h16, h18, h7] using this
  subst hv
  go_enter Tryz.func228, Tryz.ntmps228
  go_wp2_with fail
  go_ret
  exact ⟨rfl, rfl⟩

set_option maxHeartbeats 1000000 in
theorem refBelow_any (h : Hd) (a3 a4 : Value) (i d : Nat) (w : World) (hd : d ≤ 4000000000) (h3 : ∃ q n c, a3 = .slice q n c) (h4 : ∃ q n c, a4 = .slice q n c) :
    Calls Tryz.prog 205 #[.agg #[.int .i64 h.k, .int .i64 h.n, .int .i64 h.a, a3, a4], .int .i64 i, .int .i64 d] w fun e w' => e = .returned (.int .i64 (deeper h.k i d)) ∧ Below w.heap.size w w' := by
  obtain ⟨q, n, c, rfl⟩ := h3
  obtain ⟨r, m, f, rfl⟩ := h4
  obtain ⟨b, hb⟩ : ∃ b, binds h.k i = b := ⟨_, rfl⟩
  have HB : Hid (∀ W, Calls Tryz.prog 228 #[.int .i64 h.k, .int .i64 i] W fun e w' => e = .returned (.bool b) ∧ w' = W) := fun W => by rw [← hb]; exact refBinds_any _ _ W
  have HD := Lib.hid hb
  clear hb
  cases b
  · go_enter Tryz.func205, Tryz.ntmps205
    go_wp2_with fail
    refine (HB.out _).mono ?_
    rintro e w' ⟨rfl, rfl⟩
    go_wp2_with fail
    go_ret
    exact ⟨ret_int (by unfold deeper; rw [HD.out]; rfl), below_alloc _ _⟩
  · go_enter Tryz.func205, Tryz.ntmps205
    go_wp2_with fail
    refine (HB.out _).mono ?_
    rintro e w' ⟨rfl, rfl⟩
    go_wp2_with fail
    go_ret
    exact ⟨ret_int (by unfold deeper; rw [HD.out]; simp only [if_true]; omega), below_alloc _ _⟩

theorem RowG.empty (w : World) (sz e : Nat) : RowG (w.alloc (.cells #[] e)) w.heap.size sz e (.slice (some ⟨w.heap.size, 0, none⟩) 0 0) 0 .nil [] :=
  ⟨[], by simpa using World.ownsRow_lit (size := sz) (e := e) w #[] 0 (Nat.le_refl _) (Nat.zero_le _) (by simp), ⟨rfl, rfl⟩, by simp [Value.ownBlock]⟩
theorem RowG.nodup {w : World} {base sz e n : Nat} {v : Value} {x : Ds} {S : List Nat} (h : RowG w base sz e v n x S) : (v.ownBlock.toList ++ S).Nodup := by obtain ⟨_, _, _, h⟩ := h; exact h
theorem lvDs_take {l : List Lv} {k : Nat} (y : Tys) (h : k < l.length) : lvDs y (l.take (k + 1)) = (lvDs y (l.take k)).app (lvDs y [l[k]]) := by
  rw [← lvDs_app, List.take_succ_eq_append_getElem h]
theorem len_le_lvSize : ∀ l : List Lv, l.length ≤ lvSize l
  | [] => Nat.le_refl _
  | a :: r => by have := len_le_lvSize r; simp only [List.length_cons, lvSize]; omega

set_option maxRecDepth 100000 in
set_option maxHeartbeats 2000000 in
theorem refLevels_any (l : List Lv) (va : Value) (w : World) (ha : RL ty w va l) (hs : lvSize l ≤ 2000000) : Calls Tryz.prog 229 #[va] w (MakesV (.row 1 43 (lvDs ty l) .nil .nil) w) := by
  obtain ⟨q, c, rfl, hc1, hc2, -⟩ := ha.slice
  unfold maxLen at hc2
  have hl : l.length ≤ 2000000 := Nat.le_trans (len_le_lvSize l) hs
  have HA := Lib.hid ha
  have HSZ := Lib.hid hs
  clear ha hs
  go_enter Tryz.func229, Tryz.ntmps229
  go_wp2_with fail
  go_loopw [3, 4] (fun v i wr => ∃ (k : Nat) (S : List Nat), k ≤ l.length ∧ i = .int .i64 k ∧ Below w.heap.size w wr ∧ RowG wr w.heap.size 1 43 v k (lvDs ty (l.take k)) S) (fun _ i _ => l.length - (intOf i).toNat)
  case atStart => exact ⟨0, [], Nat.zero_le _, rfl, Below.refl _ _, RowG.nil _ _ _ _⟩
  case round =>
    obtain ⟨k, S, hk, rfl, hB1, hR1⟩ := hrel
    have HB1 := Lib.hid hB1
    have HR1 := Lib.hid hR1
    clear hB1 hR1
    by_cases hlt : k < l.length
    · have r1 : decide ((k : Int) < (l.length : Int)) = true := decide_eq_true (by omega)
      obtain ⟨b, o, rfl, hb, r, d, hu, hd1, hd2, hRP⟩ := (HA.out.on HB1.out).at_ hlt
      have hsz := lvSize_at hlt
      have e1 := U_cell (U_below (below_alloc wr (.cells #[] 77)) _ _ _ hb hu)
      obtain ⟨v1, w2, hrun1, hR2, hB2⟩ := lent_copy (w := wr) (RowG.empty wr 2 77) (hRP.on (below_alloc _ _)) (by have := HSZ.out; omega) (by simp) (below_alloc _ _)
      have HT := Lib.hid (lvDs_take ty hlt)
      have hbase : w.heap.size ≤ wr.heap.size := HB1.out.size
      have hB3 := below_step hB2 (below_alloc w2 (.cells #[v1] 43))
      have hR3 := HR1.out.below hB3
      have hO3 := (hR2.own.below (below_alloc w2 (.cells #[v1] 43))).lower hbase
      obtain ⟨v', w4, hrun4, hR5, hg, -⟩ := RowG.append (ty := 24) (k := 1) (y := lvDs ty [l[k]]) elL hR3 HR1.out.lt_of hO3 hR2.nodup (fun b hb => (hR2.mem b hb).1) (lvDs_ones ty [l[k]]) ⟨w2.heap.size, 0, none⟩ 1 rfl (new_cells _ _ 43) (by omega) (Nat.le_trans hbase hB3.size)
      have HB4 : Hid (Below w.heap.size w w4) := Lib.hid ((below_step HB1.out hB3).grown hg (below_step HB1.out hB3).size hR3.ge)
      have HR4 : Hid (RowG w4 w.heap.size 1 43 v' (k + 1) (lvDs ty (l.take (k + 1))) (S ++ (v1.ownBlock.toList ++ []))) := Lib.hid (by rw [HT.out]; exact hR5)
      obtain ⟨p1, c1, rfl, -, -⟩ := hR2.cap
      obtain ⟨z, hz⟩ : ∃ z : Nat, l[k].length = z := ⟨_, rfl⟩
      rw [hz] at e1 hrun1 hrun4
      clear hu hd1 hd2 hRP hsz hB3 hR3 hO3 hR5 hg HT HR1 hR2 hB2 hz
      go_wp2_with (at_builtin; first | (refine wpList_append_run rfl _ _ 41 rfl _ _ _ rfl rfl hrun1 ?_) | (refine wpList_append_run rfl _ _ 24 rfl _ _ _ rfl rfl hrun4 ?_))
      clear hrun4 hrun1
      go_roundw
      case rel => exact ⟨k + 1, _, by omega, by go_num, HB4.out, HR4.out⟩
      case measure => simp [intOf]; omega
    · obtain rfl : k = l.length := by omega
      have r1 : decide ((l.length : Int) < (l.length : Int)) = false := decide_eq_false (by omega)
      have HR2 : Hid (RowG wr w.heap.size 1 43 _ l.length (lvDs ty l) S) := Lib.hid (by have := HR1.out; rw [List.take_length] at this; exact this)
      clear HR1
      go_wp2_with fail
      go_ret
      exact ⟨_, _, rfl, HB1.out, HR2.out.own, HR2.out.nodup⟩
end Go.Proofs.YtkcmapimcgppmaaGreatDoor
end
section
namespace Go.Proofs.YtkcmapimcgppmaaGreatDoor
open Go.RowKit

def bounds : List Int := [0, -1, -1, -1, 1, 1, -1, 2, -1, -1, -1, -1, 1, -1, -1, -1, 1, -1, 1, -1, -1, -1, -1, -1, -1]
/-- The table of the kinds lies in block 0. -/
def KA (w : World) : Prop := 0 < w.heap.size ∧ ∀ k : Nat, k < 25 → w.cell? ⟨0, k * 5 + 4, none⟩ = some (.int .i64 (bounds.getD k 0))
theorem KA.on {B : Nat} {w w' : World} (h : KA w) (hb : Below B w w') (h0 : 0 < B) : KA w' :=
  ⟨Nat.lt_of_lt_of_le h.1 hb.size, fun k hk => (hb.cell (p := ⟨0, k * 5 + 4, none⟩) h0).trans (h.2 k hk)⟩
theorem binds_of (k i : Nat) (h0 : 0 < k) (hk : k < 25) : (bounds.getD k 0 == (i : Int)) = binds k i := by
  have h1 : ((1 : Int) == (i : Int)) = (i == 1) := by rw [Bool.eq_iff_iff]; simp; omega
  have h2 : ((2 : Int) == (i : Int)) = (i == 2) := by rw [Bool.eq_iff_iff]; simp; omega
  have hm : ((-1 : Int) == (i : Int)) = false := by
    rw [beq_eq_false_iff_ne]; omega
  have hall : k = 1 ∨ k = 2 ∨ k = 3 ∨ k = 4 ∨ k = 5 ∨ k = 6 ∨ k = 7 ∨ k = 8 ∨ k = 9 ∨ k = 10 ∨ k = 11 ∨ k = 12 ∨ k = 13 ∨ k = 14 ∨ k = 15 ∨ k = 16 ∨ k = 17 ∨ k = 18 ∨ k = 19 ∨ k = 20 ∨ k = 21 ∨ k = 22 ∨ k = 23 ∨ k = 24 := by omega
  rcases hall with rfl | rfl | rfl | rfl | rfl | rfl | rfl | rfl | rfl | rfl | rfl | rfl | rfl | rfl | rfl | rfl | rfl | rfl | rfl | rfl | rfl | rfl | rfl | rfl
  all_goals first
    | exact hm
    | exact h1
    | exact h2
theorem binds_no (k : Int) (i : Nat) (h : ¬(0 < k ∧ k < 25)) : binds k i = false := by
  unfold binds
  rw [if_neg (by omega), if_neg (by omega)]

set_option maxRecDepth 100000 in
set_option maxHeartbeats 2000000 in
theorem binds_any (k : Int) (i : Nat) (w : World) (hw : KA w) : Calls Tryz.prog 227 #[.int .i64 k, .int .i64 i] w fun e w' => e = .returned (.bool (binds k i)) ∧ w' = w := by
  by_cases h0 : 0 < k
  · have r1 : decide (0 < k) = true := decide_eq_true h0
    by_cases h1 : k < 25
    · have r2 : decide (k < 25) = true := decide_eq_true h1
      obtain ⟨n, rfl⟩ : ∃ n : Nat, k = n := ⟨k.toNat, by omega⟩
      have hc := hw.2 n (by omega)
      have hb := binds_of n i (by omega) (by omega)
      obtain ⟨z, hz⟩ : ∃ z, bounds.getD n 0 = z := ⟨_, rfl⟩
      obtain ⟨bb, hbb⟩ : ∃ bb, binds n i = bb := ⟨_, rfl⟩
      rw [hz] at hc hb
      rw [hbb] at hb ⊢
      have i0 : (0 : Int) ≤ (n : Int) := by omega
      have r3 : decide ((0 : Int) ≤ (i : Int)) = true := decide_eq_true (by omega)
      clear hz hbb hw
      go_enter Tryz.func227, Tryz.ntmps227
      go_wp2_with fail
      all_goals first
        | (exfalso; omega)
        | (go_ret; exact ⟨rfl, rfl⟩)
    · have r2 : decide (k < 25) = false := decide_eq_false h1
      rw [binds_no k i (by omega)]
      clear hw
      go_enter Tryz.func227, Tryz.ntmps227
      go_wp2_with fail
      all_goals (go_ret; exact ⟨rfl, rfl⟩)
  · have r1 : decide (0 < k) = false := decide_eq_false h0
    rw [binds_no k i (by omega)]
    clear hw
    go_enter Tryz.func227, Tryz.ntmps227
    go_wp2_with fail
    all_goals (go_ret; exact ⟨rfl, rfl⟩)
end Go.Proofs.YtkcmapimcgppmaaGreatDoor
end
section
set_option linter.unusedVariables false
namespace Go.Proofs.YtkcmapimcgppmaaGreatDoor
open Go.RowKit

theorem one_of {α : Type} : ∀ {l : List α}, l.length = 1 → ∃ a, l = [a]
  | [a], _ => ⟨a, rfl⟩
  | [], h => by cases h
  | _ :: _ :: _, h => by simp at h
theorem five_of {α : Type} : ∀ {l : List α}, l.length = 5 → ∃ a b c d e, l = [a, b, c, d, e]
  | [a, b, c, d, e], _ => ⟨a, b, c, d, e, rfl⟩
  | [], h => by cases h
  | [_], h => by cases h
  | [_, _], h => by cases h
  | [_, _, _], h => by cases h
  | [_, _, _, _], h => by cases h
  | _ :: _ :: _ :: _ :: _ :: _ :: _, h => by simp at h
theorem cells3' : Tryz.prog.cellsOf 3 = 1 := by kernel_rfl
section
variable {H : Type} {enc : TypeId × Value → H} {W : World} {sp : Nat → Bool} {held : Bool}
end
end Go.Proofs.YtkcmapimcgppmaaGreatDoor
end
