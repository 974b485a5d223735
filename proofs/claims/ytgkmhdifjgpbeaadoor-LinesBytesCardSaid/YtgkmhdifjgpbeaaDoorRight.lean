/-
  Whether trees are such: the program throws that they are not. Conditions: none beyond what memory holds.
-/
import Derived.Test.YtgkmhdifjgpbeaaDoorWtr
import Derived.Test.YtgkmhdifjgpbeaaDoorEnds
namespace Go.Proofs.YtgkmhdifjgpbeaaDoor
open Go.RowKit

def RightSays (t : Ts) (w : World) (e : Ending) (w' : World) : Prop := Below w.heap.size w w' ∧ e = (if t.right then .returned (.tuple #[]) else .panicked (thrown 4))

set_option maxRecDepth 100000 in
set_option maxHeartbeats 4000000 in
theorem right_any (m : Nat) : ∀ (t : Ts) (va : Value) (w : World), t.count < m → Sl (U w) 0 w.heap.size va t →
    Calls Tryd.prog 36 #[va] w (RightSays t w) := by
  induction m with
  | zero => intro t va w hm; omega
  | succ m ih =>
    intro t va w hm ha
    obtain ⟨pa, ca, rfl, ha1, ha2, _⟩ := ha.slice
    unfold maxLen at ha2
    go_enter Tryd.func36, Tryd.ntmps36
    go_wp2_with fail
    go_loopw [6] (fun i wr => ∃ (k : Nat), k ≤ t.len ∧ i = .int .i64 k ∧ Below w.heap.size w wr ∧ (t.take k).right = true) (fun i _ => t.len - (intOf i).toNat)
    case atStart => exact ⟨0, Nat.zero_le _, rfl, Below.refl _ _, rfl⟩
    case round =>
      obtain ⟨k, hk, rfl, hB, hR⟩ := hrel
      have HR := Lib.hid hR
      clear hR
      by_cases hlt : k < t.len
      · obtain ⟨bl, o, rfl, _, _, hbl, hc1, hw, v, hc2, hs⟩ := ha.at_ (k := k) hlt
        obtain ⟨pk, ck, rfl, hk1, _, _⟩ := hs.slice
        have e1 := U_cell (U_below hB _ _ _ hbl hc1)
        have e2 := U_cell (U_below hB _ _ _ hbl hc2)
        have hcnt := Ts.count_kd hlt
        have hsz := hB.size
        have HS := Lib.hid hs
        have HX := Lib.hid (Ts.right_take hlt)
        have HN := Lib.hid (fun h => Ts.right_no (t := t) hlt h)
        have HIH : Hid (∀ (W : World), Below w.heap.size w W → Calls Tryd.prog 36 #[.slice pk (t.kd k).len ck] W (RightSays (t.kd k) W)) :=
          fun W hBW => ih (t.kd k) _ W (by omega) ((HS.out.below hBW (Nat.le_refl _)).widen (Nat.le_refl _) hBW.size)
        have hBA : Below w.heap.size w (wr.alloc (.cells #[.string (t.wd k), .slice pk (t.kd k).len ck] 41)) := hB.alloc hsz _
        have HBA := Lib.hid hBA
        have HBX : Hid ((wr.alloc (.cells #[.string (t.wd k), .slice pk (t.kd k).len ck] 41)).heap[wr.heap.size]? = some (.cells #[.string (t.wd k), .slice pk (t.kd k).len ck] 41 (0, 0))) := heap_alloc_new wr _
        have HOK : Hid (okOne (t.wd k) (t.kd k) = (!((t.wd k).data.toList.any isEnd) && ((t.wd k).size == 0 || (t.kd k).len == 0))) := rfl
        clear ha hs hc1 hc2 ih hBA hB hk1
        go_wp2_with fail
        refine (contains_any _ _).mono ?_
        rintro e w1 ⟨rfl, hb1⟩
        have HB1 := Lib.hid (HBA.out.trans (hb1.mono (by simp; omega)))
        have HBX1 := (hb1.block wr.heap.size (by simp)).trans HBX.out
        have bx0 : w1.cell? ⟨wr.heap.size, 0, none⟩ = some (.string (t.wd k)) := by simp [World.cell?, HBX1]
        have bx1 : w1.cell? ⟨wr.heap.size, 1, none⟩ = some (.slice pk (t.kd k).len ck) := by simp [World.cell?, HBX1]
        clear hb1 HBX1 HBA HBX
        cases han : (t.wd k).data.toList.any isEnd
        · rw [han] at HOK
          clear han
          by_cases hz : (t.wd k).size = 0
          · have hz3 : (t.wd k).toList = [] := bytes_nil hz
            have hz2 : (t.wd k).toList.isEmpty = true := by rw [hz3]; rfl
            have hz4 : ((t.wd k).size == 0) = true := by simpa using hz
            rw [hz4] at HOK
            clear hz hz4
            go_wp2_with fail
            refine (must_ok _ _).mono ?_
            rintro e w2 ⟨rfl, rfl⟩
            go_wp2_with fail
            refine (HIH.out _ HB1.out).mono ?_
            rintro e w3 ⟨hb3, rfl⟩
            have HB3 := Lib.hid (HB1.out.trans (hb3.mono HB1.out.size))
            clear hb3
            cases hr : (t.kd k).right
            · exact ⟨rfl, HB3.out, by rw [HN.out (.inr hr)]; rfl⟩
            · have hfin : (t.take (k + 1)).right = true := by rw [HX.out, HR.out, HOK.out, hr]; rfl
              have HF := Lib.hid hfin
              clear hfin hr
              go_wp2_with fail
              go_roundw
              case rel => exact ⟨k + 1, by omega, by go_num, HB3.out, HF.out⟩
              case measure => simp [intOf]; omega
          · have hz3 : (t.wd k).toList.isEmpty = false := bytes_some hz
            have hz4 : ((t.wd k).size == 0) = false := by simpa using hz
            have hz5 : ¬ (t.wd k).toList = [] := fun h => by rw [h] at hz3; cases hz3
            rw [hz4] at HOK
            clear hz hz4
            by_cases hl : (t.kd k).len = 0
            · have hl1 : (((t.kd k).len : Int) == 0) = true := by simpa using hl
              have hl2 : ((t.kd k).len == 0) = true := by simpa using hl
              rw [hl2] at HOK
              clear hl hl2
              go_wp2_with fail
              refine (must_ok _ _).mono ?_
              rintro e w2 ⟨rfl, rfl⟩
              go_wp2_with fail
              refine (HIH.out _ HB1.out).mono ?_
              rintro e w3 ⟨hb3, rfl⟩
              have HB3 := Lib.hid (HB1.out.trans (hb3.mono HB1.out.size))
              clear hb3
              cases hr : (t.kd k).right
              · exact ⟨rfl, HB3.out, by rw [HN.out (.inr hr)]; rfl⟩
              · have hfin : (t.take (k + 1)).right = true := by rw [HX.out, HR.out, HOK.out, hr]; rfl
                have HF := Lib.hid hfin
                clear hfin hr
                go_wp2_with fail
                go_roundw
                case rel => exact ⟨k + 1, by omega, by go_num, HB3.out, HF.out⟩
                case measure => simp [intOf]; omega
            · have hl1 : (((t.kd k).len : Int) == 0) = false := by simpa using hl
              have hl2 : ((t.kd k).len == 0) = false := by simpa using hl
              rw [hl2] at HOK
              clear hl hl2
              go_wp2_with fail
              refine (must_no _ _).mono ?_
              rintro e w2 ⟨rfl, rfl⟩
              exact ⟨rfl, HB1.out, by rw [HN.out (.inl HOK.out)]; rfl⟩
        · rw [han] at HOK
          clear han
          go_wp2_with fail
          refine (must_no _ _).mono ?_
          rintro e w2 ⟨rfl, rfl⟩
          exact ⟨rfl, HB1.out, by rw [HN.out (.inl HOK.out)]; rfl⟩
      · go_wp2_with fail
        go_end0
        obtain rfl : k = t.len := by omega
        have h1 := HR.out
        rw [Ts.take_len] at h1
        exact ⟨hB, by rw [h1]; rfl⟩
end Go.Proofs.YtgkmhdifjgpbeaaDoor
