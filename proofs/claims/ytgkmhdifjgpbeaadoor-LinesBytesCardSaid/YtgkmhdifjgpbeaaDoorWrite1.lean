/-
  What the program's writing tells of trees, or throws. Conditions: trees no deeper than 100000.
-/
import Derived.Test.YtgkmhdifjgpbeaaDoorRight
import Derived.Test.YtgkmhdifjgpbeaaDoorRow
import Derived.Test.YtgkmhdifjgpbeaaDoorDeep
namespace Go.Proofs.YtgkmhdifjgpbeaaDoor
open Go.RowKit

/-- The error's number of trees that can't be written; 0: they can. -/
def wErr (t : Ts) : Int := if t.right = false then 4 else if 400 < t.deep then 3 else if 262144 < (t.txt true).length then 3 else 0

/-- What a piece of work leaves that hands back a value, or throws an error's number. -/
def Throws (n : Int) (v : Value) (w : World) (e : Ending) (w' : World) : Prop := Below w.heap.size w w' ∧ e = (if n = 0 then .returned v else .panicked (thrown n))

set_option maxRecDepth 100000 in
set_option maxHeartbeats 4000000 in
theorem write1_any (t : Ts) (p : Option Addr) (c b0 : Nat) (w : World) (ha : Sl (U w) 0 w.heap.size (.slice p t.len c) t) (hd : t.deep ≤ 100000) (hc : w.cell? ⟨b0, 0, none⟩ = some (.slice p t.len c)) (hb0 : b0 < w.heap.size) :
    Calls Tryd.prog 35 #[.pointer (some ⟨b0, 0, none⟩)] w (Throws (wErr t) (.string ⟨(t.txt true).toArray⟩) w) := by
  obtain ⟨_, _, e, ha1, ha2, _⟩ := ha.slice
  cases e
  unfold maxLen at ha2
  have HA := Lib.hid ha
  have HR := Lib.hid (right_any (t.count + 1) t (.slice p t.len c) w (by omega) ha)
  clear ha
  go_enter Tryd.func35, Tryd.ntmps35
  go_wp2_with fail
  refine HR.out.mono ?_
  rintro e w1 ⟨hb1, rfl⟩
  cases hr : t.right
  · exact ⟨rfl, hb1, by unfold wErr; rw [if_pos hr]; rfl⟩
  · have Hr := Lib.hid hr
    have hc1 := (hb1.cell (p := ⟨b0, 0, none⟩) hb0).trans hc
    clear hr hc HR
    have hsz1 := hb1.size
    go_wp2_with fail
    go_loopw [9] (fun i wr => ∃ (k : Nat), k ≤ t.len ∧ i = .int .i64 k ∧ Below w.heap.size w wr ∧ (∀ j, j < k → (t.kd j).deep + 1 ≤ 400)) (fun i _ => t.len - (intOf i).toNat)
    case atStart => exact ⟨0, Nat.zero_le _, rfl, hb1, fun j hj => by omega⟩
    case round =>
      obtain ⟨k, hk, rfl, hB, hD⟩ := hrel
      have HD := Lib.hid hD
      have hc2 := (hB.cell (p := ⟨b0, 0, none⟩) hb0).trans ((hb1.cell (p := ⟨b0, 0, none⟩) hb0).symm.trans hc1)
      have hsz := hB.size
      have hb0' : b0 < wr.heap.size := by omega
      clear hD hc1
      by_cases hlt : k < t.len
      · obtain ⟨bl, o, rfl, _, _, hbl, hx1, hw, v, hx2, hs⟩ := HA.out.at_ (k := k) hlt
        obtain ⟨pk, ck, rfl, hk1, _, _⟩ := hs.slice
        have e1 := U_cell (U_below hB _ _ _ hbl hx1)
        have e2 := U_cell (U_below hB _ _ _ hbl hx2)
        have hdk := Ts.deep_kd hlt
        have hBA : Below w.heap.size w (wr.alloc (.cells #[.string (t.wd k), .slice pk (t.kd k).len ck] 41)) := hB.alloc hsz _
        have HI := Lib.hid (deep_any ((t.kd k).count + 1) (t.kd k) (t.wd k) _ _ (by omega) (by omega) ((hs.below hBA (Nat.le_refl _)).widen (Nat.le_refl _) hBA.size))
        have HBA := Lib.hid hBA
        have hbig : 400 < (t.kd k).deep + 1 → wErr t = 3 := fun h => by unfold wErr; rw [if_neg (by rw [Hr.out]; decide), if_pos (by omega)]
        have HBIG := Lib.hid hbig
        clear hs hx1 hx2 hBA hB hk1 hbig
        go_wp2_with fail
        refine HI.out.mono ?_
        rintro e w2 ⟨rfl, hb2⟩
        have HB2 := Lib.hid (HBA.out.trans (hb2.mono (by simp; omega)))
        clear hb2
        by_cases hle : (t.kd k).deep + 1 ≤ 400
        · have hle' : decide ((((t.kd k).deep + 1 : Nat) : Int) ≤ 400) = true := by simp; omega
          have hle2 : ((t.kd k).deep : Int) + 1 ≤ 400 := by omega
          go_wp2_with fail
          refine (must_ok _ _).mono ?_
          rintro e w3 ⟨rfl, rfl⟩
          go_wp2_with fail
          go_roundw
          case rel => exact ⟨k + 1, by omega, by go_num, HB2.out, fun j hj => by
            rcases Nat.lt_or_ge j k with h | h
            · exact HD.out j h
            · obtain rfl : j = k := by omega
              exact hle⟩
          case measure => simp [intOf]; omega
        · have hle' : decide (((t.kd k).deep : Int) + 1 ≤ 400) = false := decide_eq_false (by omega)
          have hle2 : 400 < ((t.kd k).deep : Int) + 1 := by omega
          go_wp2_with fail
          refine (must_no _ _).mono ?_
          rintro e w3 ⟨rfl, rfl⟩
          exact ⟨rfl, HB2.out, by rw [HBIG.out (by omega)]; rfl⟩
      · have hdeep : t.deep ≤ 400 := Ts.deep_le (fun j hj => HD.out j (by omega))
        have HB := Lib.hid hB
        have hWA : WrAt wr.heap.size wr.heap.size [] (wr.alloc (.cells #[.pointer none, .slice none 0 0] 77)) := ⟨Nat.le_refl _, by simp, .inl ⟨rfl, heap_alloc_new wr _⟩⟩
        have hSl : Sl (U (wr.alloc (.cells #[.pointer none, .slice none 0 0] 77))) 0 wr.heap.size (.slice p t.len c) t :=
          (HA.out.below (hB.alloc hsz _) (Nat.le_refl _)).widen (Nat.le_refl _) hsz
        have HROW := Lib.hid (row_any wr.heap.size wr.heap.size (t.count + 1) t (.slice p t.len c) [] _ (by omega) hSl hWA (by simp))
        clear hWA hSl hb1 hB
        go_wp2_with fail
        refine HROW.out.mono ?_
        intro e w2 hh
        by_cases hfit : (t.txt true).length ≤ 262144
        · obtain ⟨rfl, hb2, hw2⟩ := hh.yes (by simpa using hfit)
          have hok : wErr t = 0 := by unfold wErr; rw [if_neg (by rw [Hr.out]; decide), if_neg (by omega), if_neg (by omega)]
          have HOK := Lib.hid hok
          have HW2 := Lib.hid hw2
          have HB2 := Lib.hid (HB.out.trans (((Below.refl _ _).alloc (Nat.le_refl _) _).trans hb2.1 |>.mono hsz))
          have hsz2 := HB2.out.size
          have hs22 := hb2.1.size
          clear hh hw2 hb2 hok hdeep
          go_wp2_with fail
          obtain ⟨hB2, hB3, h | h⟩ := HW2.out
          · rw [List.nil_append] at h
            refine (string_none wr.heap.size wr.heap.size _ w2 h.2).mono ?_
            rintro e w3 ⟨rfl, hb3⟩
            go_wp2_with fail
            go_ret
            exact ⟨HB2.out.trans (hb3.mono (by omega)), by rw [HOK.out, h.1]; rfl⟩
          · rw [List.nil_append] at h
            refine (string_some wr.heap.size wr.heap.size _ (t.txt true) w2 h.2 h.1).mono ?_
            rintro e w3 ⟨rfl, hb3⟩
            go_wp2_with fail
            go_ret
            exact ⟨HB2.out.trans (hb3.mono (by omega)), by rw [HOK.out]; rfl⟩
        · obtain ⟨rfl, hb2⟩ := hh.no (by simpa using hfit)
          have hno : wErr t = 3 := by unfold wErr; rw [if_neg (by rw [Hr.out]; decide), if_neg (by omega), if_pos (by omega)]
          exact ⟨rfl, HB.out.trans (((Below.refl _ _).alloc (Nat.le_refl _) _).trans hb2.1 |>.mono hsz), by rw [hno]; rfl⟩
end Go.Proofs.YtgkmhdifjgpbeaaDoor
