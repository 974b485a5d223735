/-
  Texts as long as may be, and longer, are told alike. Conditions: none.
-/
import Derived.Test.YtgkmhdifjgpbeaaDoorMade
import Derived.Test.YtgkmhdifjgpbeaaDoorBytes1
import Derived.Test.YtgkmhdifjgpbeaaDoorRefRead
import Derived.Test.YtgkmhdifjgpbeaaDoorRefWrite
import Derived.Test.YtgkmhdifjgpbeaaDoorSame
import Derived.Test.YtgkmhdifjgpbeaaDoorLaid
import Derived.Deep.RegionWith
import Derived.BigGuardPart
namespace Go.Proofs.YtgkmhdifjgpbeaaDoor
open Go.RowKit

theorem rep_size (l : List UInt8) (c : Nat) : (⟨(Lib.repeatL l c).toArray⟩ : ByteArray).size = c * l.length := by
  show (Lib.repeatL l c).toArray.size = _
  rw [List.size_toArray, Lib.repeatL_length]
theorem rep_spec (s : ByteArray) (n c m : Nat) (hn : s.data.toList.length = n) (hc : c ≤ 262144) (hm : n ≤ m) (hmm : m ≤ 1000) (w : World) :
    ∃ s0 : ByteArray, s0.size = c * n ∧ Calls Tryd.prog 23 #[.string s, .int .i64 c] w fun e w' => e = .returned (.string s0) ∧ Below w.heap.size w w' := by
  have hs : s.size = n := hn
  have h1 : n * c ≤ 1000 * 262144 := Nat.mul_le_mul (by omega) hc
  exact ⟨_, by rw [rep_size, hn], Tryd.strings_Repeat s c w (by omega) (by rw [hs]; omega)⟩

set_option maxRecDepth 100000 in
set_option maxHeartbeats 4000000 in
theorem long_any (w : World) : Calls Tryd.prog 25 #[] w fun e w' => e = .returned (.bool true) ∧ Below w.heap.size w w' := by
  obtain ⟨s0, hs0, hrp⟩ := rep_spec ⟨#[97]⟩ 1 262140 1 rfl (by decide) (by decide) (by decide) w
  have HRP := Lib.hid hrp
  have hs0' : s0.size = 262140 := by rw [hs0]
  clear hs0 hrp
  go_enter Tryd.func25, Tryd.ntmps25
  go_wp2_with fail
  refine HRP.out.mono ?_
  rintro e w1 ⟨rfl, hb1⟩
  have HB1 := Lib.hid hb1
  clear hb1 HRP
  go_wp2_with fail
  go_loopw [2] (fun i wr => ∃ k : Nat, k ≤ 4 ∧ i = .int .i64 k ∧ Below w.heap.size w wr) (fun i _ => 4 - (intOf i).toNat)
  case atStart => exact ⟨0, Nat.zero_le _, rfl, HB1.out⟩
  case round =>
    obtain ⟨k, hk, rfl, hB⟩ := hrel
    have HB := Lib.hid hB
    clear hB HB1
    by_cases hlt : k < 4
    · obtain ⟨s1, hs1, hr1⟩ := rep_spec ⟨#[32, 98]⟩ 2 k 2 rfl (by omega) (by decide) (by decide) wr
      have HR1 := Lib.hid hr1
      clear hr1
      go_wp2_with fail
      refine HR1.out.mono ?_
      rintro e w2 ⟨rfl, hb2⟩
      have HB2 := Lib.hid (HB.out.trans (hb2.mono HB.out.size))
      have hadd : s0.size + s1.size ≤ 262150 := by omega
      have hszt : (s0 ++ s1).size ≤ 140737488355328 := by rw [ByteArray.size_append]; omega
      clear hb2 HR1 hs1
      obtain ⟨txt, htx⟩ : ∃ txt : ByteArray, s0 ++ s1 = txt := ⟨_, rfl⟩
      have HRD : Hid (∀ W, Calls Tryd.prog 9 #[.string txt] W (Told txt.data.toList W)) := fun W => read_any txt W (by rw [← htx]; exact hszt)
      have HRR : Hid (∀ W, Calls Tryd.prog 10 #[.string txt] W (Told txt.data.toList W)) := fun W => refRead_any txt W (by rw [← htx]; exact hszt)
      clear hszt
      go_wp2_with fail
      refine (HRD.out _).mono ?_
      rintro e w3 ⟨hb3, va, rfl, hsa, -⟩
      obtain ⟨E, hE⟩ : ∃ E : Int, rErr txt.data.toList = E := ⟨_, rfl⟩
      obtain ⟨RT, hRT⟩ : ∃ RT : Ts, rTs txt.data.toList = RT := ⟨_, rfl⟩
      rw [hE]
      rw [hRT] at hsa
      obtain ⟨pa, ca, rfl, -, -, -⟩ := hsa.slice
      obtain ⟨na, hna⟩ : ∃ na : Nat, RT.len = na := ⟨_, rfl⟩
      rw [hna] at hsa ⊢
      have HSA := Lib.hid (hsa.widen (Nat.zero_le _) (Nat.le_refl _))
      have HB3 := Lib.hid (below_step HB2.out hb3)
      have HNA := Lib.hid hna
      have HE := Lib.hid hE
      have HRT := Lib.hid hRT
      clear hb3 hsa hna hE hRT HB2 HRD
      go_wp2_with fail
      refine (HRR.out _).mono ?_
      rintro e w4 ⟨hb4, vb, rfl, hsb, -⟩
      rw [HE.out]
      rw [HRT.out] at hsb
      obtain ⟨pb, cb, rfl, -, -, -⟩ := hsb.slice
      rw [HNA.out] at hsb ⊢
      have HSB4 := Lib.hid (hsb.widen (Nat.zero_le _) (Nat.le_refl _))
      have HSA4 := Lib.hid (HSA.out.on hb4)
      have HB4 := Lib.hid (below_step HB3.out hb4)
      clear hb4 hsb HRR HSA HB3
      obtain ⟨sw, hsw⟩ : ∃ sw : ByteArray, (⟨(wText (longT s0 k)).toArray⟩ : ByteArray) = sw := ⟨_, rfl⟩
      obtain ⟨er, her⟩ : ∃ er : Int, wErr (longT s0 k) = er := ⟨_, rfl⟩
      have HWR : Hid (∀ W va, Sl (U W) 0 W.heap.size va (longT s0 k) → Calls Tryd.prog 16 #[va] W fun e w' => e = .returned (.tuple #[.string sw, .int .i64 er]) ∧ Below W.heap.size W w') := fun W va h => by
        rw [← hsw, ← her]; exact write_any (longT s0 k) va W h (longT_deep _ _)
      have HRW : Hid (∀ W va, Sl (U W) 0 W.heap.size va (longT s0 k) → Calls Tryd.prog 17 #[va] W fun e w' => e = .returned (.tuple #[.string sw, .int .i64 er]) ∧ Below W.heap.size W w') := fun W va h => by
        rw [← hsw, ← her]; exact refWrite_any (longT s0 k) va W h (longT_deep _ _) (longT_great _ _ (by omega) (by omega))
      have hmp : ∀ W, (Instr.makeSlice 23 (.int .i64 k) (.int .i64 k)).run Tryd.prog W = .ok (.slice (some ⟨W.heap.size, 0, none⟩) k k) (W.alloc (.cells (madeCells blank (k * 2)) 41)) := fun W => make_prog k (by omega) W
      have hk1 : k ≤ 1000 := by omega
      have HSZ := Lib.hid hs0'
      clear hsw her hadd hk hs0' htx
      go_wp2_with fail
      go_region_with (first
        | (go_at_call 21; refine (word_any _ _).mono ?_; rintro e wx ⟨rfl, hbx⟩)
        | (go_at_call 22; refine (list_any _ _ _ _).mono ?_; rintro e wy ⟨rfl, hby⟩)
        | (go_at_call 16; refine (HWR.out _ _ (by
             first
             | exact HasM.two (((HasM.new 41 k wx).below hby (by simp)).alloc _) hk1 (by rw [HSZ.out]; decide) (heap_alloc_new wy _)
             | exact HasM.two ((((HasM.new 41 k w4.drew).below hbx (by simp)).below hby (HasM.lt ((HasM.new 41 k w4.drew).below hbx (by simp)))).alloc _) hk1 (by rw [HSZ.out]; decide) (heap_alloc_new wy _))).mono ?_
           rintro e wz ⟨rfl, hbz⟩
           have hbT : Below w4.heap.size w4 wz := by
             first
             | exact below_step (below_step (below_step (below_step (below_step (below_drew w4) hbx) (below_alloc _ _)) hby) (below_alloc _ _)) hbz
             | exact below_step (below_step (below_step (below_step (below_step (below_drew w4) (below_alloc _ _)) hbx) hby) (below_alloc _ _)) hbz
           clear hbz hbx hby))
      all_goals
        clear hmp HWR
        have HBz := Lib.hid (below_step HB4.out hbT)
        have HSAz := Lib.hid (HSA4.out.on hbT)
        have HSBz := Lib.hid (HSB4.out.on hbT)
        clear hbT HSA4 HSB4 HB4
        have hmr : ∀ W, (Instr.makeSlice 27 (.int .i64 k) (.int .i64 k)).run Tryd.prog W = .ok (.slice (some ⟨W.heap.size, 0, none⟩) k k) (W.alloc (.cells (madeCells blank (k * 2)) 44)) := fun W => make_ref k hk1 W
        go_wp2_with fail
      all_goals
        have hne1 : ((E : Int) != (E : Int)) = false := by simp
        have hne2 : ((er : Int) != (er : Int)) = false := by simp
        have hne3 : (!(sw.toList == sw.toList)) = false := by simp
        refine (HRW.out _ _ (HasM.two (mb := wz.heap.size) ((HasM.new 44 k wz).alloc _) hk1 (by rw [HSZ.out]; decide) (by simpa using heap_alloc_new (wz.alloc (.cells (madeCells blank (k * 2)) 44)) _))).mono ?_
        rintro e w6 ⟨rfl, hb6⟩
        have hbU : Below wz.heap.size wz w6 := below_step (below_step (below_alloc wz _) (below_alloc _ _)) hb6
        have HB6 := Lib.hid (below_step HBz.out hbU)
        have HSM := Lib.hid (same_any (RT.count + 1) RT _ _ w6 (Nat.lt_succ_self _) (HSAz.out.on hbU) (HSBz.out.on hbU))
        clear hmr HRW hb6 hbU HBz HSAz HSBz
        go_wp2_with fail
        refine HSM.out.mono ?_
        rintro e w7 ⟨rfl, q, rfl⟩
        have HB7 := Lib.hid (below_step HB6.out (below_drewN w6 q))
        go_wp2_with fail
        go_roundw
        case rel => exact ⟨k + 1, by omega, by go_num, HB7.out⟩
        case measure => simp [intOf]; omega
    · go_wp2_with fail
      go_ret
      exact ⟨rfl, HB.out⟩
end Go.Proofs.YtgkmhdifjgpbeaaDoor
