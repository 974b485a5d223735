/-
  How deep a tree is, in the program and in the document. Conditions: no deeper than 100000.
-/
import Derived.Test.YtgkmhdifjgpbeaaDoorTrees
import Derived.Test.YtgkmhdifjgpbeaaDoorProg
import Derived.IntWalk
namespace Go.Proofs.YtgkmhdifjgpbeaaDoor
open Go.RowKit

set_option maxHeartbeats 1000000 in
theorem deep_any (m : Nat) : ∀ (t : Ts) (wd : ByteArray) (va : Value) (w : World), t.count < m → t.deep ≤ 100000 → Sl (U w) 0 w.heap.size va t →
    Calls Tryd.prog 18 #[.agg #[.string wd, va]] w fun e w' => e = .returned (.int .i64 (t.deep + 1 : Nat)) ∧ Below w.heap.size w w' := by
  induction m with
  | zero => intro t wd va w hm; omega
  | succ m ih =>
    intro t wd va w hm hd ha
    obtain ⟨pa, ca, rfl, ha1, ha2, _⟩ := ha.slice
    unfold maxLen at ha2
    go_enter Tryd.func18, Tryd.ntmps18
    go_wp2_with fail
    go_loopw [3, 9] (fun n i wr => ∃ (k : Nat), k ≤ t.len ∧ n = .int .i64 (t.take k).deep ∧ i = .int .i64 k ∧ Below w.heap.size w wr) (fun _ i _ => t.len - (intOf i).toNat)
    case atStart => exact ⟨0, Nat.zero_le _, rfl, rfl, (Below.refl _ _).alloc (Nat.le_refl _) _⟩
    case round =>
      obtain ⟨k, hk, rfl, rfl, hB⟩ := hrel
      have hdl := Ts.deep_take_le t k
      by_cases hlt : k < t.len
      · obtain ⟨bl, o, rfl, _, _, hbl, hc1, hw, v, hc2, hs⟩ := (ha.below hB (Nat.le_refl _)).at_ (k := k) hlt
        obtain ⟨pk, ck, rfl, _, _, _⟩ := hs.slice
        have e1 := U_cell hc1
        have e2 := U_cell hc2
        have hdk := Ts.deep_kd hlt
        have hcnt := Ts.count_kd hlt
        have hsz := hB.size
        have hi := fun W (h : Sl (U W) 0 W.heap.size (.slice pk (t.kd k).len ck) (t.kd k)) => ih (t.kd k) (t.wd k) _ W (by omega) (by omega) h
        have HI := Lib.hid hi
        have HS := Lib.hid hs
        have hdt := Ts.deep_take hlt
        have HD := Lib.hid hdt
        clear hi ih ha hc1 hc2 hdt hs
        go_wp2_with fail
        refine (HI.out _ ((HS.out.below ((Below.refl _ _).alloc hsz _) (Nat.le_refl _)).widen (Nat.le_refl _) (by simp; omega))).mono ?_
        rintro e w' ⟨rfl, hb2⟩
        have hB' : Below w.heap.size w w' := (hB.alloc hsz _).trans (hb2.mono (by simp; omega))
        go_wp2_with fail
        go_roundw
        case rel => exact ⟨k + 1, by omega, by rw [HD.out]; go_num, by go_num, hB'⟩
        case measure => simp [intOf]; omega
      · go_wp2_with fail
        go_ret
        obtain rfl : k = t.len := by omega
        exact ⟨by rw [Ts.take_len]; exact ret_int (by omega), hB⟩

set_option maxHeartbeats 1000000 in
theorem refDeep_any (m : Nat) : ∀ (t : Ts) (wd : ByteArray) (va : Value) (w : World), t.count < m → t.deep ≤ 100000 → Sl (U w) 0 w.heap.size va t →
    Calls Tryd.prog 19 #[.agg #[.string wd, va]] w fun e w' => e = .returned (.int .i64 (t.deep + 1 : Nat)) ∧ Below w.heap.size w w' := by
  induction m with
  | zero => intro t wd va w hm; omega
  | succ m ih =>
    intro t wd va w hm hd ha
    obtain ⟨pa, ca, rfl, ha1, ha2, _⟩ := ha.slice
    unfold maxLen at ha2
    go_enter Tryd.func19, Tryd.ntmps19
    go_wp2_with fail
    go_loopw [3, 4] (fun n i wr => ∃ (k : Nat), k ≤ t.len ∧ n = .int .i64 (t.take k).deep ∧ i = .int .i64 k ∧ Below w.heap.size w wr ∧ wr.cell? ⟨w.heap.size, 1, none⟩ = some (.slice pa t.len ca) ∧ w.heap.size < wr.heap.size) (fun _ i _ => t.len - (intOf i).toNat)
    case atStart => exact ⟨0, Nat.zero_le _, rfl, rfl, (Below.refl _ _).alloc (Nat.le_refl _) _, by simp [go_sem], by simp⟩
    case round =>
      obtain ⟨k, hk, rfl, rfl, hB, hbox, hsz⟩ := hrel
      have hdl := Ts.deep_take_le t k
      by_cases hlt : k < t.len
      · obtain ⟨bl, o, rfl, _, _, hbl, hc1, hw, v, hc2, hs⟩ := (ha.below hB (Nat.le_refl _)).at_ (k := k) hlt
        obtain ⟨pk, ck, rfl, _, _, _⟩ := hs.slice
        have e1 := U_cell hc1
        have e2 := U_cell hc2
        have hdk := Ts.deep_kd hlt
        have hcnt := Ts.count_kd hlt
        have hi := ih (t.kd k) (t.wd k) _ wr (by omega) (by omega) (hs.widen (Nat.le_refl _) (Nat.le_of_lt hsz))
        have HI := Lib.hid hi
        have hdt := Ts.deep_take hlt
        have HD := Lib.hid hdt
        clear hi ih ha hc1 hc2 hdt hs
        go_wp2_with fail
        refine HI.out.mono ?_
        rintro e w' ⟨rfl, hb2⟩
        have hB' : Below w.heap.size w w' := hB.trans (hb2.mono (by omega))
        have hbox' := (hb2.cell (p := ⟨w.heap.size, 1, none⟩) hsz).trans hbox
        have hsz' := hb2.size
        clear hbox
        go_wp2_with fail
        go_roundw
        case rel => exact ⟨k + 1, by omega, by rw [HD.out]; go_num, by go_num, hB', hbox', by omega⟩
        case measure => simp [intOf]; omega
      · go_wp2_with fail
        go_ret
        obtain rfl : k = t.len := by omega
        exact ⟨by rw [Ts.take_len]; exact ret_int (by omega), hB⟩
end Go.Proofs.YtgkmhdifjgpbeaaDoor
