/-
  Trees copied, in memory of their own, by the law's two copiers. Conditions: no greater than 4000.
-/
import Derived.Test.YtgkmhdifjgpbeaaDoorOwn
import Derived.Test.YtgkmhdifjgpbeaaDoorProg
import Derived.IntWalk
import Derived.WalkSpells
namespace Go.Proofs.YtgkmhdifjgpbeaaDoor
open Go.RowKit

theorem info41 : (Tryd.prog.info? 41).map (fun i => (i.zero, i.size, i.bytes)) = some (some (.agg #[.string ⟨#[]⟩, .slice none 0 0]), 2, 40) := by kernel_rfl
theorem info44 : (Tryd.prog.info? 44).map (fun i => (i.zero, i.size, i.bytes)) = some (some (.agg #[.string ⟨#[]⟩, .slice none 0 0]), 2, 40) := by kernel_rfl

/-- What a call leaves that hands back a row of trees in memory of its own. -/
def Makes (t : Ts) (w : World) (e : Ending) (w' : World) : Prop := ∃ v, e = .returned v ∧ Below w.heap.size w w' ∧ Sl (U w') w.heap.size w'.heap.size v t

set_option maxRecDepth 100000 in
set_option maxHeartbeats 1000000 in
theorem copied_any (m : Nat) : ∀ (t : Ts) (va : Value) (w : World), t.great < m → t.great ≤ 4000 → Sl (U w) 0 w.heap.size va t →
    Calls Tryd.prog 14 #[va] w (Makes t w) := by
  induction m with
  | zero => intro t va w hm; omega
  | succ m ih =>
    intro t va w hm hgr ha
    obtain ⟨pa, ca, rfl, ha1, ha2, _⟩ := ha.slice
    unfold maxLen at ha2
    obtain ⟨i0, hi0, hz0, hz1, hz2⟩ := info_parts info41
    have hll := Ts.len_le_great t
    go_enter Tryd.func14, Tryd.ntmps14
    go_wp2_with fail
    go_loopw [3, 4] (fun v i wr => ∃ (k : Nat), k ≤ t.len ∧ i = .int .i64 k ∧ Below w.heap.size w wr ∧ RowT wr w.heap.size 41 (v.ownBlock.toList ++ []) v (t.take k)) (fun _ i _ => t.len - (intOf i).toNat)
    case atStart => exact ⟨0, Nat.zero_le _, rfl, Below.refl _ _, RowT.nil _ _ _ _⟩
    case round =>
      obtain ⟨k, hk, rfl, hB, hR⟩ := hrel
      by_cases hlt : k < t.len
      · obtain ⟨bl, o, rfl, _, _, hbl, hc1, hw, v, hc2, hs⟩ := (ha.below hB (Nat.le_refl _)).at_ (k := k) hlt
        obtain ⟨pk, ck, rfl, _, _, _⟩ := hs.slice
        have e1 := U_cell hc1
        have e2 := U_cell hc2
        have hgk := Ts.great_kd hlt
        have hsz := hB.size
        have hi := ih (t.kd k) _ wr (by omega) (by omega) (hs.widen (Nat.le_refl _) hsz)
        have HI := Lib.hid hi
        have HTS := Lib.hid (Ts.take_succ hlt)
        have hlt' := Ts.take_len_le hk
        clear hi ih ha hs
        go_wp2_with fail
        refine HI.out.mono ?_
        rintro e w1 ⟨kv, rfl, hb1, hsl⟩
        have hR1 := hR.below hb1
        have hblk := hR.block
        obtain ⟨xs, hrow, hcs⟩ := hR1
        obtain ⟨pv, cv, rfl, _, _, _⟩ := hsl.slice
        have f1 := U_cell ((U_block (hb1.block _ (by omega)) _).trans hc1)
        have hsz1 := hb1.size
        clear hR hc1 hc2 e1 e2
        rw [hlt'] at hrow
        have HLT := Lib.hid hlt'
        clear hlt'
        have C3 : Hid (k + 1 ≤ maxLen) := by unfold maxLen Hid; omega
        have C4 : Hid ((k + 1) * 40 ≤ 140737488355328) := by unfold Hid; omega
        have C5 : Hid (w.heap.size ≤ (w1.alloc (.cells #[.string (t.wd k), .slice pv (t.kd k).len cv] 41)).heap.size) := by unfold Hid; simp; omega
        go_wp2_with (at_builtin; refine wpList_append_own_at _ rfl (.tmp 18) (.tmp 26) 23 rfl w.heap.size 41 i0 (.agg #[.string ⟨#[]⟩, .slice none 0 0]) 2 40 Tryd.underlying23 hi0 hz0 hz1 hz2 rfl (by decide) u3 k xs rfl (hrow.alloc _) ⟨w1.heap.size, 0, none⟩ 1 1 [.string (t.wd k), .slice pv (t.kd k).len cv] rfl rfl (new_cells _ _ _) (one_pair _ _ _ _) C3.out C4.out C5.out ?_; intro v' w2 hown2 hg2 _ hat2)
        have hB2 : Below w.heap.size w w2 := by
          have hb3 : Below w.heap.size w (w1.alloc (.cells #[.string (t.wd k), .slice pv (t.kd k).len cv] 41)) := (hB.trans (hb1.mono hsz)).alloc (by omega) _
          exact hb3.grown hg2 C5.out (fun g hg => (hblk g hg).1)
        have hR2 : RowT w2 w.heap.size 41 (v'.ownBlock.toList ++ []) v' (t.take (k + 1)) := by
          rw [HTS.out]
          exact RowT.pushNew (lo := wr.heap.size) hcs (by rw [HLT.out]; exact hown2) hg2 (by simpa using hat2) hw hsl hsz (fun b hb => by simp at hb; exact (hblk b hb).2)
        clear hown2 hg2 hat2 hrow hcs hsl
        go_roundw
        case rel => exact ⟨k + 1, by omega, by go_num, hB2, hR2⟩
        case measure => simp [intOf]; omega
      · go_wp2_with fail
        go_ret
        obtain rfl : k = t.len := by omega
        rw [Ts.take_len] at hR
        exact ⟨_, rfl, hB, hR.sl⟩
set_option maxRecDepth 100000 in
set_option maxHeartbeats 1000000 in
theorem turned_any (m : Nat) : ∀ (t : Ts) (va : Value) (w : World), t.great < m → t.great ≤ 4000 → Sl (U w) 0 w.heap.size va t →
    Calls Tryd.prog 15 #[va] w (Makes t w) := by
  induction m with
  | zero => intro t va w hm; omega
  | succ m ih =>
    intro t va w hm hgr ha
    obtain ⟨pa, ca, rfl, ha1, ha2, _⟩ := ha.slice
    unfold maxLen at ha2
    obtain ⟨i0, hi0, hz0, hz1, hz2⟩ := info_parts info44
    have hll := Ts.len_le_great t
    go_enter Tryd.func15, Tryd.ntmps15
    go_wp2_with fail
    go_loopw [3, 4] (fun v i wr => ∃ (k : Nat), k ≤ t.len ∧ i = .int .i64 k ∧ Below w.heap.size w wr ∧ RowT wr w.heap.size 44 (v.ownBlock.toList ++ []) v (t.take k)) (fun _ i _ => t.len - (intOf i).toNat)
    case atStart => exact ⟨0, Nat.zero_le _, rfl, Below.refl _ _, RowT.nil _ _ _ _⟩
    case round =>
      obtain ⟨k, hk, rfl, hB, hR⟩ := hrel
      by_cases hlt : k < t.len
      · obtain ⟨bl, o, rfl, _, _, hbl, hc1, hw, v, hc2, hs⟩ := (ha.below hB (Nat.le_refl _)).at_ (k := k) hlt
        obtain ⟨pk, ck, rfl, _, _, _⟩ := hs.slice
        have e1 := U_cell hc1
        have e2 := U_cell hc2
        have hgk := Ts.great_kd hlt
        have hsz := hB.size
        have hi := ih (t.kd k) _ wr (by omega) (by omega) (hs.widen (Nat.le_refl _) hsz)
        have HI := Lib.hid hi
        have HTS := Lib.hid (Ts.take_succ hlt)
        have hlt' := Ts.take_len_le hk
        clear hi ih ha hs
        go_wp2_with fail
        refine HI.out.mono ?_
        rintro e w1 ⟨kv, rfl, hb1, hsl⟩
        have hR1 := hR.below hb1
        have hblk := hR.block
        obtain ⟨xs, hrow, hcs⟩ := hR1
        obtain ⟨pv, cv, rfl, _, _, _⟩ := hsl.slice
        have f1 := U_cell ((U_block (hb1.block _ (by omega)) _).trans hc1)
        have hsz1 := hb1.size
        clear hR hc1 hc2 e1 e2
        rw [hlt'] at hrow
        have HLT := Lib.hid hlt'
        clear hlt'
        have C3 : Hid (k + 1 ≤ maxLen) := by unfold maxLen Hid; omega
        have C4 : Hid ((k + 1) * 40 ≤ 140737488355328) := by unfold Hid; omega
        have C5 : Hid (w.heap.size ≤ (w1.alloc (.cells #[.string (t.wd k), .slice pv (t.kd k).len cv] 44)).heap.size) := by unfold Hid; simp; omega
        go_wp2_with (at_builtin; refine wpList_append_own_at _ rfl (.tmp 18) (.tmp 26) 27 rfl w.heap.size 44 i0 (.agg #[.string ⟨#[]⟩, .slice none 0 0]) 2 40 Tryd.underlying27 hi0 hz0 hz1 hz2 rfl (by decide) u3 k xs rfl (hrow.alloc _) ⟨w1.heap.size, 0, none⟩ 1 1 [.string (t.wd k), .slice pv (t.kd k).len cv] rfl rfl (new_cells _ _ _) (one_pair _ _ _ _) C3.out C4.out C5.out ?_; intro v' w2 hown2 hg2 _ hat2)
        have hB2 : Below w.heap.size w w2 := by
          have hb3 : Below w.heap.size w (w1.alloc (.cells #[.string (t.wd k), .slice pv (t.kd k).len cv] 44)) := (hB.trans (hb1.mono hsz)).alloc (by omega) _
          exact hb3.grown hg2 C5.out (fun g hg => (hblk g hg).1)
        have hR2 : RowT w2 w.heap.size 44 (v'.ownBlock.toList ++ []) v' (t.take (k + 1)) := by
          rw [HTS.out]
          exact RowT.pushNew (lo := wr.heap.size) hcs (by rw [HLT.out]; exact hown2) hg2 (by simpa using hat2) hw hsl hsz (fun b hb => by simp at hb; exact (hblk b hb).2)
        clear hown2 hg2 hat2 hrow hcs hsl
        go_roundw
        case rel => exact ⟨k + 1, by omega, by go_num, hB2, hR2⟩
        case measure => simp [intOf]; omega
      · go_wp2_with fail
        go_ret
        obtain rfl : k = t.len := by omega
        rw [Ts.take_len] at hR
        exact ⟨_, rfl, hB, hR.sl⟩
end Go.Proofs.YtgkmhdifjgpbeaaDoor
