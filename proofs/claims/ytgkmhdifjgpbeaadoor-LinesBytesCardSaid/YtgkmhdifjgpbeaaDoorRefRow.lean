/-
  The text of trees, by the document. Conditions: trees no greater than 1000000.
-/
import Derived.Test.YtgkmhdifjgpbeaaDoorRefSize
namespace Go.Proofs.YtgkmhdifjgpbeaaDoor
open Go.RowKit

theorem toList_append (a b : ByteArray) : (a ++ b).data.toList = a.data.toList ++ b.data.toList := by
  simp [ByteArray.data_append]

set_option maxRecDepth 100000 in
set_option maxHeartbeats 4000000 in
theorem refRow_any (m : Nat) : ∀ (t : Ts) (va : Value) (w : World), t.great < m → t.great ≤ 1000000 → Sl (U w) 0 w.heap.size va t →
    Calls Tryd.prog 41 #[va] w fun e w' => e = .returned (.string ⟨(t.txt true).toArray⟩) ∧ w = w' := by
  induction m with
  | zero => intro t va w hm; omega
  | succ m ih =>
    intro t va w hm hg ha
    obtain ⟨pa, ca, rfl, ha1, ha2, _⟩ := ha.slice
    unfold maxLen at ha2
    have hlg := Ts.len_le_great t
    have htl := Ts.txt_le t true
    go_enter Tryd.func41, Tryd.ntmps41
    go_wp2_with fail
    go_loopw [3, 4] (fun s i wr => ∃ (k : Nat) (x : ByteArray), k ≤ t.len ∧ s = .string x ∧ x.data.toList = (t.take k).txt true ∧ i = .int .i64 k ∧ w = wr) (fun _ i _ => t.len - (intOf i).toNat)
    case atStart => exact ⟨0, ⟨#[]⟩, Nat.zero_le _, rfl, rfl, rfl, rfl⟩
    case round =>
      obtain ⟨k, x, hk, rfl, hx, rfl, rfl⟩ := hrel
      have HX := Lib.hid hx
      have hxl : x.size = ((t.take k).txt true).length := by rw [← hx, Array.length_toList]; rfl
      have hxs := Ts.txt_take_le hk
      clear hx
      by_cases hlt : k < t.len
      · obtain ⟨bl, o, rfl, _, _, hbl, hc1, hw, v, hc2, hs⟩ := ha.at_ (k := k) hlt
        obtain ⟨pk, ck, rfl, hk1, _, _⟩ := hs.slice
        have e1 := U_cell hc1
        have e2 := U_cell hc2
        have hgk := Ts.great_kd hlt
        have HT := Lib.hid (Ts.txt_take hlt)
        have htk := Ts.txt_le (t.kd k) true
        have hcz : (⟨((t.kd k).txt true).toArray⟩ : ByteArray).size = ((t.kd k).txt true).length := by simp [ByteArray.size]
        have HIH := Lib.hid (ih (t.kd k) _ w (by omega) (by omega) hs)
        clear ha hc1 hc2 hs ih hk1
        by_cases hz : (t.wd k).size = 0
        · have hz3 : (t.wd k).toList = [] := bytes_nil hz
          have hz2 : (t.wd k).toList.isEmpty = true := by rw [hz3]; rfl
          have HO : Hid (Ts.one (t.wd k) (t.kd k) = 40 :: ((t.kd k).txt true ++ [41])) := by unfold Hid Ts.one; rw [if_pos hz]
          clear hz
          by_cases hk0 : k = 0
          · have hk1 : decide ((k : Int) > 0) = false := decide_eq_false (by omega)
            have hk2 : ¬ (0 < (k : Int)) := by omega
            have HK0 := Lib.hid hk0
            clear hk0
            go_wp2_with fail
            refine HIH.out.mono ?_
            rintro e w' ⟨rfl, rfl⟩
            go_wp2_with fail
            go_roundw
            case rel => exact ⟨k + 1, _, by omega, rfl, by rw [HT.out, HO.out, if_pos HK0.out]; simp [HX.out], by go_num, trivial⟩
            case measure => simp [intOf]; omega
          · have hk1 : 0 < (k : Int) := by omega
            have HK0 := Lib.hid hk0
            clear hk0
            go_wp2_with fail
            refine HIH.out.mono ?_
            rintro e w' ⟨rfl, rfl⟩
            go_wp2_with fail
            go_roundw
            case rel => exact ⟨k + 1, _, by omega, rfl, by rw [HT.out, HO.out, if_neg HK0.out]; simp [HX.out], by go_num, trivial⟩
            case measure => simp [intOf]; omega
        · have hz3 : (t.wd k).toList.isEmpty = false := bytes_some hz
          have hz5 : ¬ (t.wd k).toList = [] := fun h => by rw [h] at hz3; cases hz3
          have HO : Hid (Ts.one (t.wd k) (t.kd k) = (t.wd k).data.toList) := by unfold Hid Ts.one; rw [if_neg hz]
          clear hz
          by_cases hk0 : k = 0
          · have hk2 : ¬ (0 < (k : Int)) := by omega
            have HK0 := Lib.hid hk0
            clear hk0
            go_wp2_with fail
            go_roundw
            case rel => exact ⟨k + 1, _, by omega, rfl, by rw [HT.out, HO.out, if_pos HK0.out]; simp [HX.out], by go_num, trivial⟩
            case measure => simp [intOf]; omega
          · have hk1 : 0 < (k : Int) := by omega
            have HK0 := Lib.hid hk0
            clear hk0
            go_wp2_with fail
            go_roundw
            case rel => exact ⟨k + 1, _, by omega, rfl, by rw [HT.out, HO.out, if_neg HK0.out]; simp [HX.out], by go_num, trivial⟩
            case measure => simp [intOf]; omega
      · go_wp2_with fail
        go_ret
        refine ⟨?_, rfl⟩
        have h := HX.out
        rw [show k = t.len by omega, Ts.take_len] at h
        rw [string_of h]
        rfl
end Go.Proofs.YtgkmhdifjgpbeaaDoor
