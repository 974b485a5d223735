/-
  The document's writing. Conditions: trees no deeper than 100000, no greater than 1000000.
-/
import Derived.Test.YtgkmhdifjgpbeaaDoorRefRow
import Derived.Test.YtgkmhdifjgpbeaaDoorRefRight
import Derived.Test.YtgkmhdifjgpbeaaDoorDeep
import Derived.Test.YtgkmhdifjgpbeaaDoorWrite
namespace Go.Proofs.YtgkmhdifjgpbeaaDoor
open Go.RowKit

set_option maxRecDepth 100000 in
set_option maxHeartbeats 4000000 in
theorem refWrite_any (t : Ts) (va : Value) (w : World) (ha : Sl (U w) 0 w.heap.size va t) (hd : t.deep ≤ 100000) (hg : t.great ≤ 1000000) :
    Calls Tryd.prog 17 #[va] w fun e w' => e = .returned (.tuple #[.string ⟨(wText t).toArray⟩, .int .i64 (wErr t)]) ∧ Below w.heap.size w w' := by
  obtain ⟨pa, ca, rfl, ha1, ha2, _⟩ := ha.slice
  unfold maxLen at ha2
  have HA := Lib.hid ha
  clear ha
  have hmax : ((max ((t.len : Int) - 1) 0)) = ((t.len - 1 : Nat) : Int) := by omega
  go_enter Tryd.func17, Tryd.ntmps17
  go_wp2_with fail
  go_loopw [4] (fun i wr => ∃ (k : Nat), k ≤ t.len ∧ i = .int .i64 k ∧ Below w.heap.size w wr ∧ (t.take k).right = true) (fun i _ => t.len - (intOf i).toNat)
  case atStart => exact ⟨0, Nat.zero_le _, rfl, Below.refl _ _, rfl⟩
  case round =>
    obtain ⟨k, hk, rfl, hB, hR⟩ := hrel
    have HR := Lib.hid hR
    clear hR
    have hsz := hB.size
    by_cases hlt : k < t.len
    · obtain ⟨bl, o, rfl, _, _, hbl, hc1, hw, v, hc2, hs⟩ := HA.out.at_ (k := k) hlt
      obtain ⟨pk, ck, rfl, hk1, _, _⟩ := hs.slice
      have e1 := U_cell (U_below hB _ _ _ hbl hc1)
      have e2 := U_cell (U_below hB _ _ _ hbl hc2)
      have HX := Lib.hid (Ts.right_take hlt)
      have HN := Lib.hid (fun h => Ts.right_no (t := t) hlt h)
      have HI := Lib.hid (refRight_any ((t.kd k).count + 1) (t.kd k) (t.wd k) _ wr (by omega) hw ((hs.below hB (Nat.le_refl _)).widen (Nat.le_refl _) hsz))
      have HB := Lib.hid hB
      clear hs hc1 hc2 hB hk1 hmax
      go_wp2_with fail
      refine HI.out.mono ?_
      rintro e w2 ⟨rfl, hb2⟩
      have HB2 := Lib.hid (HB.out.trans (hb2.mono hsz))
      clear hb2
      cases hx : okOne (t.wd k) (t.kd k) && (t.kd k).right
      · have hno : t.right = false := HN.out (Bool.and_eq_false_iff.1 hx)
        have hE : wErr t = 4 := by unfold wErr; rw [if_pos hno]
        have HE := Lib.hid hE
        clear hx hno hE
        go_wp2_with fail
        go_ret2
        exact ⟨by unfold wText; rw [HE.out]; rfl, HB2.out⟩
      · have hyes : (t.take (k + 1)).right = true := by rw [HX.out, HR.out, hx]; rfl
        have HYES := Lib.hid hyes
        clear hx hyes
        go_wp2_with fail
        go_roundw
        case rel => exact ⟨k + 1, by omega, by go_num, HB2.out, HYES.out⟩
        case measure => simp [intOf]; omega
    · have hright : t.right = true := by
        have h1 := HR.out
        rw [show k = t.len by omega, Ts.take_len] at h1
        exact h1
      have HRT := Lib.hid hright
      have HB := Lib.hid hB
      clear hright hB hmax
      go_wp2_with fail
      clear hlt
      go_loopw [5] (fun i wr => ∃ (k : Nat), k ≤ t.len ∧ i = .int .i64 k ∧ Below w.heap.size w wr ∧ (∀ j, j < k → (t.kd j).deep + 1 ≤ 400)) (fun i _ => t.len - (intOf i).toNat)
      case atStart => exact ⟨0, Nat.zero_le _, rfl, HB.out, fun j hj => by omega⟩
      case round =>
        obtain ⟨k, hk, rfl, hB, hD⟩ := hrel
        have HD := Lib.hid hD
        clear hD
        have hsz := hB.size
        by_cases hlt : k < t.len
        · obtain ⟨bl, o, rfl, _, _, hbl, hc1, hw, v, hc2, hs⟩ := HA.out.at_ (k := k) hlt
          obtain ⟨pk, ck, rfl, hk1, _, _⟩ := hs.slice
          have e1 := U_cell (U_below hB _ _ _ hbl hc1)
          have e2 := U_cell (U_below hB _ _ _ hbl hc2)
          have hdk := Ts.deep_kd hlt
          have HI := Lib.hid (refDeep_any ((t.kd k).count + 1) (t.kd k) (t.wd k) _ wr (by omega) (by omega) ((hs.below hB (Nat.le_refl _)).widen (Nat.le_refl _) hsz))
          have hbig : 400 < (t.kd k).deep + 1 → wErr t = 3 := fun h => by unfold wErr; rw [if_neg (by rw [HRT.out]; decide), if_pos (by omega)]
          have HBIG := Lib.hid hbig
          have HB := Lib.hid hB
          clear hs hc1 hc2 hB hk1 hbig
          go_wp2_with fail
          refine HI.out.mono ?_
          rintro e w2 ⟨rfl, hb2⟩
          have HB2 := Lib.hid (HB.out.trans (hb2.mono hsz))
          clear hb2
          by_cases hle : (t.kd k).deep + 1 ≤ 400
          · have hle2 : ¬ (400 < ((t.kd k).deep : Int) + 1) := by omega
            go_wp2_with fail
            go_roundw
            case rel => exact ⟨k + 1, by omega, by go_num, HB2.out, fun j hj => by
              rcases Nat.lt_or_ge j k with h | h
              · exact HD.out j h
              · obtain rfl : j = k := by omega
                exact hle⟩
            case measure => simp [intOf]; omega
          · have hle2 : 400 < ((t.kd k).deep : Int) + 1 := by omega
            go_wp2_with fail
            go_ret2
            have hE := HBIG.out (by omega)
            exact ⟨by unfold wText; rw [hE]; rfl, HB2.out⟩
        · have hdeep : t.deep ≤ 400 := Ts.deep_le (fun j hj => HD.out j (by omega))
          have hS : Sl (U wr) 0 wr.heap.size (.slice pa t.len ca) t := (HA.out.below hB (Nat.le_refl _)).widen (Nat.le_refl _) hsz
          have HSZ := Lib.hid (size_any (t.great + 1) t _ wr (by omega) hg hS)
          have HROW := Lib.hid (refRow_any (t.great + 1) t _ wr (by omega) hg hS)
          have HB := Lib.hid hB
          have HDP := Lib.hid hdeep
          clear hS hB hdeep
          go_wp2_with fail
          refine HSZ.out.mono ?_
          rintro e w2 ⟨rfl, rfl⟩
          by_cases hle : (t.txt true).length ≤ 262144
          · have hle2 : ¬ (262144 < (((t.txt true).length : Nat) : Int)) := by omega
            have hE : wErr t = 0 := by unfold wErr; rw [if_neg (by rw [HRT.out]; decide), if_neg (by have := HDP.out; omega), if_neg (by omega)]
            have HE := Lib.hid hE
            clear hE
            go_wp2_with fail
            refine HROW.out.mono ?_
            rintro e w2 ⟨rfl, rfl⟩
            go_wp2_with fail
            go_ret2
            exact ⟨by unfold wText; rw [HE.out]; rfl, HB.out⟩
          · have hle2 : 262144 < (((t.txt true).length : Nat) : Int) := by omega
            have hE : wErr t = 3 := by unfold wErr; rw [if_neg (by rw [HRT.out]; decide), if_neg (by have := HDP.out; omega), if_pos (by omega)]
            have HE := Lib.hid hE
            clear hE
            go_wp2_with fail
            go_ret2
            exact ⟨by unfold wText; rw [HE.out]; rfl, HB.out⟩
end Go.Proofs.YtgkmhdifjgpbeaaDoor
