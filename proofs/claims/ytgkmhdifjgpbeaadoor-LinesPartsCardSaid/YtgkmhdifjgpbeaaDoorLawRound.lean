/-
  The law LinesRound: it answers true. Conditions: none beyond what memory holds.
-/
import Derived.Test.YtgkmhdifjgpbeaaDoorAwake
import Derived.Test.YtgkmhdifjgpbeaaDoorLaws
import Derived.Test.YtgkmhdifjgpbeaaDoorEqual
import Derived.Test.YtgkmhdifjgpbeaaDoorSizes
import Derived.BigGuardPart
namespace Go.Proofs.YtgkmhdifjgpbeaaDoor
open Go.RowKit

theorem wErr_cases (t : Ts) : wErr t = 0 ∨ wErr t = 3 ∨ wErr t = 4 := by
  unfold wErr
  split
  · exact .inr (.inr rfl)
  · split
    · exact .inr (.inl rfl)
    · split
      · exact .inr (.inl rfl)
      · exact .inl rfl
theorem rErr_cases (l : List UInt8) : (∃ t, readE l = .ok t ∧ rErr l = 0 ∧ rTs l = t) ∨ rErr l = 3 ∨ rErr l = 4 := by
  unfold rErr rTs
  cases h : readE l with
  | ok t => exact .inl ⟨t, rfl, rfl, rfl⟩
  | error n =>
    rcases readE_err h with rfl | rfl
    · exact .inr (.inl rfl)
    · exact .inr (.inr rfl)
theorem wText_ok {t : Ts} (h : wErr t = 0) : wText t = t.txt true := by unfold wText; rw [if_pos h]
theorem wText_no {t : Ts} (h : wErr t ≠ 0) : wText t = [] := by unfold wText; rw [if_neg h]
theorem wText_le (t : Ts) : (wText t).length ≤ 262144 := by
  unfold wText
  split
  · rename_i h
    unfold wErr at h
    split at h
    · cases h
    · split at h
      · cases h
      · split at h
        · cases h
        · omega
  · simp
theorem rTs_written {t : Ts} (h : wErr t = 0) : rTs (wText t) = t ∧ rErr (wText t) = 0 := by
  rw [wText_ok h]; unfold rTs rErr; rw [read_written h]; exact ⟨rfl, rfl⟩
theorem bytes_size (l : List UInt8) : (⟨l.toArray⟩ : ByteArray).size = l.length := by simp [ByteArray.size]

set_option maxRecDepth 100000 in
set_option maxHeartbeats 4000000 in
theorem lawRound_any (T : Ts) (va : Value) (text : ByteArray) (w : World) (ha : Sl (U w) 0 w.heap.size va T) : Calls Tryd.prog 5 #[va, .string text] w fun e w' => e = .returned (.bool true) ∧ Below w.heap.size w w' := by
  obtain ⟨pa, ca, rfl, -, -, -⟩ := ha.slice
  have HAW := Lib.hid (awake_any w)
  have HA := Lib.hid ha
  clear ha
  go_enter Tryd.func5, Tryd.ntmps5
  go_wp2_with fail
  refine HAW.out.mono ?_
  rintro e w1 ⟨rfl, hb1⟩
  have ha1 := (HA.out.below hb1 (Nat.le_refl _)).widen (Nat.le_refl _) hb1.size
  have HG := Lib.hid (great_any T _ w1 ha1)
  have HA1 := Lib.hid ha1
  have HB1 := Lib.hid hb1
  clear ha1 hb1 HA HAW
  go_wp2_with fail
  refine HG.out.mono ?_
  rintro e w' ⟨r, hr, rfl, q, rfl⟩
  cases r
  · obtain ⟨hdeep, -⟩ := hr rfl
    by_cases hlen : text.size ≤ 4000
    · have r1 : decide ((4000 : Int) < (text.size : Int)) = false := decide_eq_false (by omega)
      have HA2 := Lib.hid (HA1.out.drewN q)
      have HB2 := Lib.hid (below_step HB1.out (below_drewN w1 q))
      obtain ⟨W, hW⟩ : ∃ W, w1.drewN q = W := ⟨_, rfl⟩
      have hs : w1.heap.size = W.heap.size := by rw [← hW]; rfl
      rw [hW] at HA2 HB2 ⊢
      rw [hs] at HA2
      clear hW hs hr HA1 HB1 HG
      have HWR := Lib.hid (write_any T _ W HA2.out (by omega))
      have hwl := wText_le T
      obtain ⟨sw, hsw⟩ : ∃ sw : ByteArray, (⟨(wText T).toArray⟩ : ByteArray) = sw := ⟨_, rfl⟩
      have hsz : sw.size ≤ 140737488355328 := by rw [← hsw, bytes_size]; omega
      have hsl : sw.data.toList = wText T := by rw [← hsw]
      rw [hsw] at HWR
      have HSL := Lib.hid hsl
      have HT := Lib.hid (rErr_cases text.data.toList)
      clear hsl hwl
      rcases wErr_cases T with hw | hw | hw
      · have HW0 := Lib.hid hw
        rw [hw] at HWR
        clear hw hsw
        go_wp2_with fail
        refine HWR.out.mono ?_
        rintro e w2 ⟨rfl, hb2⟩
        have HRD := Lib.hid (read_any sw w2 hsz)
        have HA3 := Lib.hid ((HA2.out.below hb2 (Nat.le_refl _)).widen (Nat.le_refl _) hb2.size)
        have HB3 := Lib.hid (below_step HB2.out hb2)
        clear hb2 HA2 HB2 HWR
        go_wp2_with fail
        refine HRD.out.mono ?_
        rintro e w3 ⟨hb3, vb, rfl, hsb, -⟩
        rw [HSL.out, (rTs_written HW0.out).1] at hsb
        rw [HSL.out, (rTs_written HW0.out).2]
        obtain ⟨pb, cb, rfl, -, -, -⟩ := hsb.slice
        have HB4 := Lib.hid (below_step HB3.out hb3)
        have HEQ := Lib.hid (equal_any (T.count + 1) T _ _ w3 (Nat.lt_succ_self _) (hsb.widen (Nat.zero_le _) (Nat.le_refl _)) ((HA3.out.below hb3 (Nat.le_refl _)).widen (Nat.le_refl _) hb3.size))
        clear hb3 hsb HA3 HB3 HRD HSL
        go_wp2_with fail
        refine HEQ.out.mono ?_
        rintro e w4 ⟨rfl, q4, rfl⟩
        have HB5 := Lib.hid (below_step HB4.out (below_drewN w3 q4))
        have HX := Lib.hid (read_any text (w3.drewN q4) (by omega))
        clear HEQ HB4 HW0
        go_wp2_with fail
        refine HX.out.mono ?_
        rintro e w5 ⟨hb5, vm, rfl, hsm, hno⟩
        have HB6 := Lib.hid (below_step HB5.out hb5)
        clear hb5 HX HB5
        rcases HT.out with ⟨M, hM, hM0, hMT⟩ | hM | hM
        · rw [hM0]
          rw [hMT] at hsm
          have hwm := wErr_read hM (by rw [size_list]; omega)
          obtain ⟨pm, cm, rfl, -, -, -⟩ := hsm.slice
          have HWM := Lib.hid hwm
          have hm6 := hsm.widen (Nat.zero_le _) (Nat.le_refl _)
          have HM6 := Lib.hid hm6
          have HW2 := Lib.hid (write_any M _ w5 hm6 (by have := (read_well hM).2.1; omega))
          have hwl := wText_le M
          obtain ⟨sm, hsm2⟩ : ∃ sm : ByteArray, (⟨(wText M).toArray⟩ : ByteArray) = sm := ⟨_, rfl⟩
          have hsz2 : sm.size ≤ 140737488355328 := by rw [← hsm2, bytes_size]; omega
          have hsl2 : sm.data.toList = wText M := by rw [← hsm2]
          have HSL2 := Lib.hid hsl2
          rw [hsm2, hwm] at HW2
          clear hM hM0 hMT hno hsm hwm hm6 hwl hsm2 hsl2 HT
          go_wp2_with fail
          refine HW2.out.mono ?_
          rintro e w6 ⟨rfl, hb6⟩
          have HR2 := Lib.hid (read_any sm w6 hsz2)
          have HM7 := Lib.hid ((HM6.out.below hb6 (Nat.le_refl _)).widen (Nat.le_refl _) hb6.size)
          have HB7 := Lib.hid (below_step HB6.out hb6)
          clear hb6 HM6 HW2 HB6
          go_wp2_with fail
          refine HR2.out.mono ?_
          rintro e w7 ⟨hb7, vg, rfl, hsg, -⟩
          rw [HSL2.out, (rTs_written HWM.out).1] at hsg
          rw [HSL2.out, (rTs_written HWM.out).2]
          obtain ⟨pg, cg, rfl, -, -, -⟩ := hsg.slice
          have HB8 := Lib.hid (below_step HB7.out hb7)
          have HE2 := Lib.hid (equal_any (M.count + 1) M _ _ w7 (Nat.lt_succ_self _) (hsg.widen (Nat.zero_le _) (Nat.le_refl _)) ((HM7.out.below hb7 (Nat.le_refl _)).widen (Nat.le_refl _) hb7.size))
          clear hb7 hsg HM7 HR2 HB7 HSL2
          go_wp2_with fail
          refine HE2.out.mono ?_
          rintro e w8 ⟨rfl, q8, rfl⟩
          go_wp2_with fail
          go_ret
          exact ⟨rfl, below_step HB8.out (below_drewN w7 q8)⟩
        · rw [hM] at hno ⊢
          obtain rfl := hno (by decide)
          clear hM hno hsm HT
          go_wp2_with fail
          go_ret
          exact ⟨rfl, HB6.out⟩
        · rw [hM] at hno ⊢
          obtain rfl := hno (by decide)
          clear hM hno hsm HT
          go_wp2_with fail
          go_ret
          exact ⟨rfl, HB6.out⟩
      · have hne : wErr T ≠ 0 := by rw [hw]; decide
        rw [wText_no hne] at hsw
        obtain rfl : sw = ⟨#[]⟩ := hsw.symm
        rw [hw] at HWR
        clear hw hne hsw hsz HSL
        go_wp2_with fail
        refine HWR.out.mono ?_
        rintro e w2 ⟨rfl, hb2⟩
        have HRD := Lib.hid (read_any ⟨#[]⟩ w2 (by decide))
        have HB3 := Lib.hid (below_step HB2.out hb2)
        clear hb2 HA2 HB2 HWR
        go_wp2_with fail
        refine HRD.out.mono ?_
        rintro e w3 ⟨hb3, vb, rfl, hsb, -⟩
        obtain ⟨pb, cb, rfl, -, -, -⟩ := hsb.slice
        have HB5 := Lib.hid (below_step HB3.out hb3)
        have HX := Lib.hid (read_any text w3 (by omega))
        clear hb3 hsb HB3 HRD
        go_wp2_with fail
        refine HX.out.mono ?_
        rintro e w5 ⟨hb5, vm, rfl, hsm, hno⟩
        have HB6 := Lib.hid (below_step HB5.out hb5)
        clear hb5 HX HB5
        rcases HT.out with ⟨M, hM, hM0, hMT⟩ | hM | hM
        · rw [hM0]
          rw [hMT] at hsm
          have hwm := wErr_read hM (by rw [size_list]; omega)
          obtain ⟨pm, cm, rfl, -, -, -⟩ := hsm.slice
          have HWM := Lib.hid hwm
          have hm6 := hsm.widen (Nat.zero_le _) (Nat.le_refl _)
          have HM6 := Lib.hid hm6
          have HW2 := Lib.hid (write_any M _ w5 hm6 (by have := (read_well hM).2.1; omega))
          have hwl := wText_le M
          obtain ⟨sm, hsm2⟩ : ∃ sm : ByteArray, (⟨(wText M).toArray⟩ : ByteArray) = sm := ⟨_, rfl⟩
          have hsz2 : sm.size ≤ 140737488355328 := by rw [← hsm2, bytes_size]; omega
          have hsl2 : sm.data.toList = wText M := by rw [← hsm2]
          have HSL2 := Lib.hid hsl2
          rw [hsm2, hwm] at HW2
          clear hM hM0 hMT hno hsm hwm hm6 hwl hsm2 hsl2 HT
          go_wp2_with fail
          refine HW2.out.mono ?_
          rintro e w6 ⟨rfl, hb6⟩
          have HR2 := Lib.hid (read_any sm w6 hsz2)
          have HM7 := Lib.hid ((HM6.out.below hb6 (Nat.le_refl _)).widen (Nat.le_refl _) hb6.size)
          have HB7 := Lib.hid (below_step HB6.out hb6)
          clear hb6 HM6 HW2 HB6
          go_wp2_with fail
          refine HR2.out.mono ?_
          rintro e w7 ⟨hb7, vg, rfl, hsg, -⟩
          rw [HSL2.out, (rTs_written HWM.out).1] at hsg
          rw [HSL2.out, (rTs_written HWM.out).2]
          obtain ⟨pg, cg, rfl, -, -, -⟩ := hsg.slice
          have HB8 := Lib.hid (below_step HB7.out hb7)
          have HE2 := Lib.hid (equal_any (M.count + 1) M _ _ w7 (Nat.lt_succ_self _) (hsg.widen (Nat.zero_le _) (Nat.le_refl _)) ((HM7.out.below hb7 (Nat.le_refl _)).widen (Nat.le_refl _) hb7.size))
          clear hb7 hsg HM7 HR2 HB7 HSL2
          go_wp2_with fail
          refine HE2.out.mono ?_
          rintro e w8 ⟨rfl, q8, rfl⟩
          go_wp2_with fail
          go_ret
          exact ⟨rfl, below_step HB8.out (below_drewN w7 q8)⟩
        · rw [hM] at hno ⊢
          obtain rfl := hno (by decide)
          clear hM hno hsm HT
          go_wp2_with fail
          go_ret
          exact ⟨rfl, HB6.out⟩
        · rw [hM] at hno ⊢
          obtain rfl := hno (by decide)
          clear hM hno hsm HT
          go_wp2_with fail
          go_ret
          exact ⟨rfl, HB6.out⟩
      · have hne : wErr T ≠ 0 := by rw [hw]; decide
        rw [wText_no hne] at hsw
        obtain rfl : sw = ⟨#[]⟩ := hsw.symm
        rw [hw] at HWR
        clear hw hne hsw hsz HSL
        go_wp2_with fail
        refine HWR.out.mono ?_
        rintro e w2 ⟨rfl, hb2⟩
        have HRD := Lib.hid (read_any ⟨#[]⟩ w2 (by decide))
        have HB3 := Lib.hid (below_step HB2.out hb2)
        clear hb2 HA2 HB2 HWR
        go_wp2_with fail
        refine HRD.out.mono ?_
        rintro e w3 ⟨hb3, vb, rfl, hsb, -⟩
        obtain ⟨pb, cb, rfl, -, -, -⟩ := hsb.slice
        have HB5 := Lib.hid (below_step HB3.out hb3)
        have HX := Lib.hid (read_any text w3 (by omega))
        clear hb3 hsb HB3 HRD
        go_wp2_with fail
        refine HX.out.mono ?_
        rintro e w5 ⟨hb5, vm, rfl, hsm, hno⟩
        have HB6 := Lib.hid (below_step HB5.out hb5)
        clear hb5 HX HB5
        rcases HT.out with ⟨M, hM, hM0, hMT⟩ | hM | hM
        · rw [hM0]
          rw [hMT] at hsm
          have hwm := wErr_read hM (by rw [size_list]; omega)
          obtain ⟨pm, cm, rfl, -, -, -⟩ := hsm.slice
          have HWM := Lib.hid hwm
          have hm6 := hsm.widen (Nat.zero_le _) (Nat.le_refl _)
          have HM6 := Lib.hid hm6
          have HW2 := Lib.hid (write_any M _ w5 hm6 (by have := (read_well hM).2.1; omega))
          have hwl := wText_le M
          obtain ⟨sm, hsm2⟩ : ∃ sm : ByteArray, (⟨(wText M).toArray⟩ : ByteArray) = sm := ⟨_, rfl⟩
          have hsz2 : sm.size ≤ 140737488355328 := by rw [← hsm2, bytes_size]; omega
          have hsl2 : sm.data.toList = wText M := by rw [← hsm2]
          have HSL2 := Lib.hid hsl2
          rw [hsm2, hwm] at HW2
          clear hM hM0 hMT hno hsm hwm hm6 hwl hsm2 hsl2 HT
          go_wp2_with fail
          refine HW2.out.mono ?_
          rintro e w6 ⟨rfl, hb6⟩
          have HR2 := Lib.hid (read_any sm w6 hsz2)
          have HM7 := Lib.hid ((HM6.out.below hb6 (Nat.le_refl _)).widen (Nat.le_refl _) hb6.size)
          have HB7 := Lib.hid (below_step HB6.out hb6)
          clear hb6 HM6 HW2 HB6
          go_wp2_with fail
          refine HR2.out.mono ?_
          rintro e w7 ⟨hb7, vg, rfl, hsg, -⟩
          rw [HSL2.out, (rTs_written HWM.out).1] at hsg
          rw [HSL2.out, (rTs_written HWM.out).2]
          obtain ⟨pg, cg, rfl, -, -, -⟩ := hsg.slice
          have HB8 := Lib.hid (below_step HB7.out hb7)
          have HE2 := Lib.hid (equal_any (M.count + 1) M _ _ w7 (Nat.lt_succ_self _) (hsg.widen (Nat.zero_le _) (Nat.le_refl _)) ((HM7.out.below hb7 (Nat.le_refl _)).widen (Nat.le_refl _) hb7.size))
          clear hb7 hsg HM7 HR2 HB7 HSL2
          go_wp2_with fail
          refine HE2.out.mono ?_
          rintro e w8 ⟨rfl, q8, rfl⟩
          go_wp2_with fail
          go_ret
          exact ⟨rfl, below_step HB8.out (below_drewN w7 q8)⟩
        · rw [hM] at hno ⊢
          obtain rfl := hno (by decide)
          clear hM hno hsm HT
          go_wp2_with fail
          go_ret
          exact ⟨rfl, HB6.out⟩
        · rw [hM] at hno ⊢
          obtain rfl := hno (by decide)
          clear hM hno hsm HT
          go_wp2_with fail
          go_ret
          exact ⟨rfl, HB6.out⟩
    · have r1 : decide ((4000 : Int) < (text.size : Int)) = true := decide_eq_true (by omega)
      have HB2 := Lib.hid (below_step HB1.out (below_drewN w1 q))
      clear hr HG
      go_wp2_with fail
      go_ret
      exact ⟨rfl, HB2.out⟩
  · have HB2 := Lib.hid (below_step HB1.out (below_drewN w1 q))
    clear hr HG
    go_wp2_with fail
    go_ret
    exact ⟨rfl, HB2.out⟩
end Go.Proofs.YtgkmhdifjgpbeaaDoor
