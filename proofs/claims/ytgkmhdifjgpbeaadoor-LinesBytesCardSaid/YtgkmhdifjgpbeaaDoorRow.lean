/-
  The writer's text of a row of trees. Conditions: none beyond what memory holds.
-/
import Derived.Test.YtgkmhdifjgpbeaaDoorWtr
namespace Go.Proofs.YtgkmhdifjgpbeaaDoor
open Go.RowKit

/-- What a piece of the writer's work keeps. -/
def Fr (B : Nat) (w w' : World) : Prop := Below B w w' ∧ Others w w'
theorem Fr.refl (B : Nat) (w : World) : Fr B w w := ⟨Below.refl _ _, Others.refl _⟩
theorem Fr.trans {B : Nat} {a b c : World} (h : Fr B a b) (k : Fr B b c) : Fr B a c := ⟨h.1.trans k.1, h.2.trans k.2⟩
theorem Fr.alloc {B : Nat} {w : World} (h : B ≤ w.heap.size) (o : Obj) : Fr B w (w.alloc o) := ⟨(Below.refl _ _).alloc h _, Others.alloc _ _⟩
theorem box_cells {w : World} {g : Nat} {x y : Value} {t : TypeId} (h : w.heap[g]? = some (.cells #[x, y] t (0, 0))) : w.cell? ⟨g, 0, none⟩ = some x ∧ w.cell? ⟨g, 1, none⟩ = some y := by
  constructor <;> simp [World.cell?, h]

set_option maxRecDepth 100000 in
set_option maxHeartbeats 8000000 in
theorem row_any (B b : Nat) (m : Nat) : ∀ (t : Ts) (va : Value) (l : List UInt8) (w : World), t.count < m → Sl (U w) 0 B va t → WrAt B b l w → l.length ≤ 262144 →
    Calls Tryd.prog 37 #[.pointer (some ⟨b, 0, none⟩), va] w (Wrote B b l (t.txt true) w) := by
  induction m with
  | zero => intro t va l w hm; omega
  | succ m ih =>
    intro t va l w hm ha hW hl
    obtain ⟨pa, ca, rfl, ha1, ha2, _⟩ := ha.slice
    unfold maxLen at ha2
    go_enter Tryd.func37, Tryd.ntmps37
    go_wp2_with fail
    go_loopw [8] (fun i wr => ∃ (k : Nat), k ≤ t.len ∧ i = .int .i64 k ∧ Fr B w wr ∧ WrAt B b (l ++ (t.take k).txt true) wr ∧ (l ++ (t.take k).txt true).length ≤ 262144) (fun i _ => t.len - (intOf i).toNat)
    case atStart => exact ⟨0, Nat.zero_le _, rfl, Fr.refl _ _, by rw [Ts.take, Ts.txt, List.append_nil]; exact hW, by rw [Ts.take, Ts.txt, List.append_nil]; exact hl⟩
    case round =>
      obtain ⟨k, hk, rfl, hB, hWk, hlk⟩ := hrel
      have HW := Lib.hid hWk
      have HL := Lib.hid hlk
      clear hWk hlk hW
      by_cases hlt : k < t.len
      · obtain ⟨bl, o, rfl, _, _, hbl, hc1, hw, v, hc2, hs⟩ := ha.at_ (k := k) hlt
        obtain ⟨pk, ck, rfl, _, _, _⟩ := hs.slice
        have e1 := U_cell (U_below hB.1 _ _ _ hbl hc1)
        have e2 := U_cell (U_below hB.1 _ _ _ hbl hc2)
        have hcnt := Ts.count_kd hlt
        have HS := Lib.hid hs
        have HX := Lib.hid (Ts.txt_take hlt)
        have hY := Ts.txt_take_le (t := t) (k := k + 1) hlt
        have HIH : Hid (∀ (W : World) (lw : List UInt8), Fr B w W → WrAt B b lw W → lw.length ≤ 262144 → Calls Tryd.prog 37 #[.pointer (some ⟨b, 0, none⟩), .slice pk (t.kd k).len ck] W (Wrote B b lw ((t.kd k).txt true) W)) :=
          fun W lw hBW hWW hlw => ih (t.kd k) _ lw W (by omega) (HS.out.below hBW.1 (Nat.le_refl _)) hWW hlw
        have hBA : Fr B w (wr.alloc (.cells #[.string (t.wd k), .slice pk (t.kd k).len ck] 41)) := hB.trans (Fr.alloc HW.out.2.1 _)
        have HBA := Lib.hid hBA
        have HWA := Lib.hid (HW.out.alloc (.cells #[.string (t.wd k), .slice pk (t.kd k).len ck] 41))
        have HBX : Hid ((wr.alloc (.cells #[.string (t.wd k), .slice pk (t.kd k).len ck] 41)).heap[wr.heap.size]? = some (.cells #[.string (t.wd k), .slice pk (t.kd k).len ck] 41 (0, 0))) := heap_alloc_new wr _
        clear ha hs hc1 hc2 ih hBA hB
        by_cases hz : (t.wd k).size = 0
        · have hz2 : (!(t.wd k).toList.isEmpty) = false := by rw [bytes_nil hz]; rfl
          have hz3 : (t.wd k).toList = [] := bytes_nil hz
          have HO : Hid (Ts.one (t.wd k) (t.kd k) = 40 :: ((t.kd k).txt true ++ [41])) := if_pos hz
          have hol : (Ts.one (t.wd k) (t.kd k)).length = ((t.kd k).txt true).length + 2 := by rw [HO.out]; simp
          have HOL := Lib.hid hol
          clear hz hol
          by_cases hk0 : (k : Int) ≤ 0
          · have HK : Hid (l ++ (t.take (k + 1)).txt true = (l ++ (t.take k).txt true) ++ Ts.one (t.wd k) (t.kd k)) := by
              unfold Hid; rw [HX.out, if_pos (by omega)]; simp
            have hT : (l ++ (t.take k).txt true).length + (Ts.one (t.wd k) (t.kd k)).length ≤ l.length + (t.txt true).length := by
              have := congrArg List.length HK.out
              simp only [List.length_append] at this ⊢; omega
            obtain ⟨l1, hl1⟩ : ∃ l1, l ++ (t.take k).txt true = l1 := ⟨_, rfl⟩
            rw [hl1] at HK hT HWA HL
            clear hl1 HX hY HW
            go_wp2_with fail
            obtain ⟨WW, hWW⟩ : ∃ WW, wr.alloc (.cells #[.string (t.wd k), .slice pk (t.kd k).len ck] 41) = WW := ⟨_, rfl⟩
            rw [hWW] at HBA HWA HBX ⊢
            clear hWW
            have hLL := HL.out
            rw [HOL.out] at hT
            obtain ⟨bx0, bx1⟩ := box_cells HBX.out
            refine (add1_any B b l1 40 _ HWA.out hLL).mono ?_
            intro e w2 hh
            by_cases hf : l1.length + ([40] : List UInt8).length ≤ 262144
            · obtain ⟨rfl, hb2, hw2⟩ := hh.yes hf
              have HW2 := Lib.hid hw2
              have HB2 := Lib.hid (HBA.out.trans hb2)
              have HL2 : Hid ((l1 ++ [40]).length ≤ 262144) := by unfold Hid; rw [List.length_append]; exact hf
              obtain ⟨by0, by1⟩ := box_cells (hb2.2 _ _ _ _ (by decide) (by decide) HBX.out)
              clear hw2 hh hb2
              go_wp2_with fail
              refine (HIH.out w2 (l1 ++ [40]) HB2.out HW2.out HL2.out).mono ?_
              intro e w3 hh
              clear by0 by1
              by_cases hf3 : (l1 ++ [40]).length + ((t.kd k).txt true).length ≤ 262144
              · obtain ⟨rfl, hb3, hw3⟩ := hh.yes hf3
                have HW3 := Lib.hid hw3
                have HB3 := Lib.hid (HB2.out.trans hb3)
                have HL3 : Hid ((l1 ++ [40] ++ (t.kd k).txt true).length ≤ 262144) := by unfold Hid; rw [List.length_append]; exact hf3
                clear hw3 hh hb3
                go_wp2_with fail
                refine (add1_any B b _ 41 _ HW3.out HL3.out).mono ?_
                intro e w4 hh
                by_cases hf4 : (l1 ++ [40] ++ (t.kd k).txt true).length + ([41] : List UInt8).length ≤ 262144
                · obtain ⟨rfl, hb4, hw4⟩ := hh.yes hf4
                  have HW4 := Lib.hid hw4
                  have HB4 := Lib.hid (HB3.out.trans hb4)
                  clear hw4 hh hb4
                  go_wp2_with fail
                  have hfin : l ++ (t.take (k + 1)).txt true = l1 ++ [40] ++ (t.kd k).txt true ++ [41] := by rw [HK.out, HO.out]; simp
                  go_roundw
                  case rel => exact ⟨k + 1, by omega, by go_num, HB4.out, by rw [hfin]; exact HW4.out, by rw [hfin, List.length_append]; exact hf4⟩
                  case measure => simp [intOf]; omega
                · obtain ⟨rfl, hb4⟩ := hh.no hf4
                  exact ⟨rfl, Wrote.stop (HB3.out.trans hb4) (by simp at hf4; omega)⟩
              · obtain ⟨rfl, hb3⟩ := hh.no hf3
                exact ⟨rfl, Wrote.stop (HB2.out.trans hb3) (by simp at hf3; omega)⟩
            · obtain ⟨rfl, hb2⟩ := hh.no hf
              exact ⟨rfl, Wrote.stop (HBA.out.trans hb2) (by simp at hf; omega)⟩
          · have hk1 : 0 < (k : Int) := by omega
            clear hk0
            have HK : Hid (l ++ (t.take (k + 1)).txt true = (l ++ (t.take k).txt true ++ [32]) ++ Ts.one (t.wd k) (t.kd k)) := by
              unfold Hid; rw [HX.out, if_neg (by omega)]; simp
            have hT : (l ++ (t.take k).txt true ++ [32]).length + (Ts.one (t.wd k) (t.kd k)).length ≤ l.length + (t.txt true).length := by
              have := congrArg List.length HK.out
              simp only [List.length_append] at this ⊢; omega
            clear HX hY HW
            go_wp2_with fail
            refine (add1_any B b (l ++ (t.take k).txt true) 32 _ HWA.out HL.out).mono ?_
            intro e WW hh
            by_cases hf0 : (l ++ (t.take k).txt true).length + ([32] : List UInt8).length ≤ 262144
            rotate_left
            · obtain ⟨rfl, hb0⟩ := hh.no hf0
              exact ⟨rfl, Wrote.stop (HBA.out.trans hb0) (by simp at hf0 hT; omega)⟩
            obtain ⟨rfl, hb0, hw0⟩ := hh.yes hf0
            have hLL : (l ++ (t.take k).txt true ++ [32]).length ≤ 262144 := by rw [List.length_append]; exact hf0
            have HBA2 := Lib.hid (HBA.out.trans hb0)
            have HBX2 := Lib.hid (hb0.2 _ _ _ _ (by decide) (by decide) HBX.out)
            have HWA2 := Lib.hid hw0
            clear HBA HBX HWA hh hb0 hw0 hf0
            obtain ⟨l1, hl1⟩ : ∃ l1, l ++ (t.take k).txt true ++ [32] = l1 := ⟨_, rfl⟩
            rw [hl1] at HK hT HWA2 hLL
            clear hl1 HL
            have HBA := HBA2
            have HWA := HWA2
            have HBX := HBX2
            clear HBA2 HWA2 HBX2
            obtain ⟨bx0, bx1⟩ := box_cells HBX.out
            go_wp2_with fail
            rw [HOL.out] at hT
            refine (add1_any B b l1 40 _ HWA.out hLL).mono ?_
            intro e w2 hh
            by_cases hf : l1.length + ([40] : List UInt8).length ≤ 262144
            · obtain ⟨rfl, hb2, hw2⟩ := hh.yes hf
              have HW2 := Lib.hid hw2
              have HB2 := Lib.hid (HBA.out.trans hb2)
              have HL2 : Hid ((l1 ++ [40]).length ≤ 262144) := by unfold Hid; rw [List.length_append]; exact hf
              obtain ⟨by0, by1⟩ := box_cells (hb2.2 _ _ _ _ (by decide) (by decide) HBX.out)
              clear hw2 hh hb2
              go_wp2_with fail
              refine (HIH.out w2 (l1 ++ [40]) HB2.out HW2.out HL2.out).mono ?_
              intro e w3 hh
              clear by0 by1
              by_cases hf3 : (l1 ++ [40]).length + ((t.kd k).txt true).length ≤ 262144
              · obtain ⟨rfl, hb3, hw3⟩ := hh.yes hf3
                have HW3 := Lib.hid hw3
                have HB3 := Lib.hid (HB2.out.trans hb3)
                have HL3 : Hid ((l1 ++ [40] ++ (t.kd k).txt true).length ≤ 262144) := by unfold Hid; rw [List.length_append]; exact hf3
                clear hw3 hh hb3
                go_wp2_with fail
                refine (add1_any B b _ 41 _ HW3.out HL3.out).mono ?_
                intro e w4 hh
                by_cases hf4 : (l1 ++ [40] ++ (t.kd k).txt true).length + ([41] : List UInt8).length ≤ 262144
                · obtain ⟨rfl, hb4, hw4⟩ := hh.yes hf4
                  have HW4 := Lib.hid hw4
                  have HB4 := Lib.hid (HB3.out.trans hb4)
                  clear hw4 hh hb4
                  go_wp2_with fail
                  have hfin : l ++ (t.take (k + 1)).txt true = l1 ++ [40] ++ (t.kd k).txt true ++ [41] := by rw [HK.out, HO.out]; simp
                  go_roundw
                  case rel => exact ⟨k + 1, by omega, by go_num, HB4.out, by rw [hfin]; exact HW4.out, by rw [hfin, List.length_append]; exact hf4⟩
                  case measure => simp [intOf]; omega
                · obtain ⟨rfl, hb4⟩ := hh.no hf4
                  exact ⟨rfl, Wrote.stop (HB3.out.trans hb4) (by simp at hf4; omega)⟩
              · obtain ⟨rfl, hb3⟩ := hh.no hf3
                exact ⟨rfl, Wrote.stop (HB2.out.trans hb3) (by simp at hf3; omega)⟩
            · obtain ⟨rfl, hb2⟩ := hh.no hf
              exact ⟨rfl, Wrote.stop (HBA.out.trans hb2) (by simp at hf; omega)⟩
        · have hz2 : (!(t.wd k).toList.isEmpty) = true := by rw [bytes_some hz]; rfl
          have hz3 : (t.wd k).toList.isEmpty = false := bytes_some hz
          have HO : Hid (Ts.one (t.wd k) (t.kd k) = (t.wd k).data.toList) := if_neg hz
          have hol : (Ts.one (t.wd k) (t.kd k)).length = (t.wd k).data.toList.length := by rw [HO.out]
          have HOL := Lib.hid hol
          clear hol
          by_cases hk0 : (k : Int) ≤ 0
          · have HK : Hid (l ++ (t.take (k + 1)).txt true = (l ++ (t.take k).txt true) ++ Ts.one (t.wd k) (t.kd k)) := by
              unfold Hid; rw [HX.out, if_pos (by omega)]; simp
            have hT : (l ++ (t.take k).txt true).length + (Ts.one (t.wd k) (t.kd k)).length ≤ l.length + (t.txt true).length := by
              have := congrArg List.length HK.out
              simp only [List.length_append] at this ⊢; omega
            obtain ⟨l1, hl1⟩ : ∃ l1, l ++ (t.take k).txt true = l1 := ⟨_, rfl⟩
            rw [hl1] at HK hT HWA HL
            clear hl1 HX hY HW
            go_wp2_with fail
            obtain ⟨WW, hWW⟩ : ∃ WW, wr.alloc (.cells #[.string (t.wd k), .slice pk (t.kd k).len ck] 41) = WW := ⟨_, rfl⟩
            rw [hWW] at HBA HWA HBX ⊢
            clear hWW
            have hLL := HL.out
            rw [HOL.out] at hT
            refine (add_any B b l1 (t.wd k) _ HWA.out hLL hw hz).mono ?_
            intro e w2 hh
            by_cases hf : l1.length + (t.wd k).data.toList.length ≤ 262144
            · obtain ⟨rfl, hb2, hw2⟩ := hh.yes hf
              have HW2 := Lib.hid hw2
              have HB2 := Lib.hid (HBA.out.trans hb2)
              clear hw2 hh hb2
              go_wp2_with fail
              have hfin : l ++ (t.take (k + 1)).txt true = l1 ++ (t.wd k).data.toList := by rw [HK.out, HO.out]
              go_roundw
              case rel => exact ⟨k + 1, by omega, by go_num, HB2.out, by rw [hfin]; exact HW2.out, by rw [hfin, List.length_append]; exact hf⟩
              case measure => simp [intOf]; omega
            · obtain ⟨rfl, hb2⟩ := hh.no hf
              exact ⟨rfl, Wrote.stop (HBA.out.trans hb2) (by omega)⟩
          · have hk1 : 0 < (k : Int) := by omega
            clear hk0
            have HK : Hid (l ++ (t.take (k + 1)).txt true = (l ++ (t.take k).txt true ++ [32]) ++ Ts.one (t.wd k) (t.kd k)) := by
              unfold Hid; rw [HX.out, if_neg (by omega)]; simp
            have hT : (l ++ (t.take k).txt true ++ [32]).length + (Ts.one (t.wd k) (t.kd k)).length ≤ l.length + (t.txt true).length := by
              have := congrArg List.length HK.out
              simp only [List.length_append] at this ⊢; omega
            clear HX hY HW
            go_wp2_with fail
            refine (add1_any B b (l ++ (t.take k).txt true) 32 _ HWA.out HL.out).mono ?_
            intro e WW hh
            by_cases hf0 : (l ++ (t.take k).txt true).length + ([32] : List UInt8).length ≤ 262144
            rotate_left
            · obtain ⟨rfl, hb0⟩ := hh.no hf0
              exact ⟨rfl, Wrote.stop (HBA.out.trans hb0) (by simp at hf0 hT; omega)⟩
            obtain ⟨rfl, hb0, hw0⟩ := hh.yes hf0
            have hLL : (l ++ (t.take k).txt true ++ [32]).length ≤ 262144 := by rw [List.length_append]; exact hf0
            have HBA2 := Lib.hid (HBA.out.trans hb0)
            have HBX2 := Lib.hid (hb0.2 _ _ _ _ (by decide) (by decide) HBX.out)
            have HWA2 := Lib.hid hw0
            clear HBA HBX HWA hh hb0 hw0 hf0
            obtain ⟨l1, hl1⟩ : ∃ l1, l ++ (t.take k).txt true ++ [32] = l1 := ⟨_, rfl⟩
            rw [hl1] at HK hT HWA2 hLL
            clear hl1 HL
            have HBA := HBA2
            have HWA := HWA2
            have HBX := HBX2
            clear HBA2 HWA2 HBX2
            obtain ⟨bx0, bx1⟩ := box_cells HBX.out
            go_wp2_with fail
            rw [HOL.out] at hT
            refine (add_any B b l1 (t.wd k) _ HWA.out hLL hw hz).mono ?_
            intro e w2 hh
            by_cases hf : l1.length + (t.wd k).data.toList.length ≤ 262144
            · obtain ⟨rfl, hb2, hw2⟩ := hh.yes hf
              have HW2 := Lib.hid hw2
              have HB2 := Lib.hid (HBA.out.trans hb2)
              clear hw2 hh hb2
              go_wp2_with fail
              have hfin : l ++ (t.take (k + 1)).txt true = l1 ++ (t.wd k).data.toList := by rw [HK.out, HO.out]
              go_roundw
              case rel => exact ⟨k + 1, by omega, by go_num, HB2.out, by rw [hfin]; exact HW2.out, by rw [hfin, List.length_append]; exact hf⟩
              case measure => simp [intOf]; omega
            · obtain ⟨rfl, hb2⟩ := hh.no hf
              exact ⟨rfl, Wrote.stop (HBA.out.trans hb2) (by omega)⟩
      · go_wp2_with fail
        go_end0
        obtain rfl : k = t.len := by omega
        have h1 := HW.out
        have h2 := HL.out
        rw [Ts.take_len] at h1 h2
        rw [List.length_append] at h2
        exact ⟨hB, by rw [if_pos h2]; exact ⟨rfl, h1⟩⟩
end Go.Proofs.YtgkmhdifjgpbeaaDoor
