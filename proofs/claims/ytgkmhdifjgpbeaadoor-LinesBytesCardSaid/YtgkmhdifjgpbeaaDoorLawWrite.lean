/-
  The law LinesWrite: it answers true. Conditions: none beyond what memory holds.
-/
import Derived.Test.YtgkmhdifjgpbeaaDoorAwake
import Derived.Test.YtgkmhdifjgpbeaaDoorRefWrite
import Derived.Test.YtgkmhdifjgpbeaaDoorCopied
import Derived.Test.YtgkmhdifjgpbeaaDoorSame
import Derived.Test.YtgkmhdifjgpbeaaDoorSizes
import Derived.Deep.RegionWith
namespace Go.Proofs.YtgkmhdifjgpbeaaDoor
open Go.RowKit

set_option maxRecDepth 100000 in
set_option maxHeartbeats 4000000 in
theorem lawWrite_any (t : Ts) (va : Value) (w : World) (ha : Sl (U w) 0 w.heap.size va t) : Calls Tryd.prog 4 #[va] w fun e w' => e = .returned (.bool true) ∧ Below w.heap.size w w' := by
  obtain ⟨pa, ca, rfl, ha1, ha2, -⟩ := ha.slice
  have HA := Lib.hid ha
  have HG := Lib.hid (great_any t _ w ha)
  clear ha
  go_enter Tryd.func4, Tryd.ntmps4
  go_wp2_with fail
  refine HG.out.mono ?_
  rintro e w' ⟨r, hr, rfl, q, rfl⟩
  cases r
  · obtain ⟨hdeep, hgreat⟩ := hr rfl
    have hw0 := HA.out.drewN q
    have hbq := below_drewN w q
    obtain ⟨W0, hW0⟩ : ∃ W0, w.drewN q = W0 := ⟨_, rfl⟩
    have hs0 : w.heap.size = W0.heap.size := by rw [← hW0]; rfl
    rw [hW0] at hw0 hbq ⊢
    have HBQ := Lib.hid hbq
    rw [hs0] at hw0
    clear hW0 hs0 hr HA HG hbq
    have HC := Lib.hid (copied_any (t.great + 1) t _ W0 (Nat.lt_succ_self _) hgreat hw0)
    have HW0 := Lib.hid hw0
    clear hw0
    go_wp2_with fail
    refine HC.out.mono ?_
    rintro e w1 ⟨v1, rfl, hb1, hsl1⟩
    obtain ⟨p1, c1, rfl, hc1, hm1, -⟩ := hsl1.slice
    have HS1 := Lib.hid hsl1
    have HB1 := Lib.hid hb1
    have HT := Lib.hid (turned_any (t.great + 1) t _ w1 (Nat.lt_succ_self _) hgreat ((HW0.out.below hb1 (Nat.le_refl _)).widen (Nat.le_refl _) hb1.size))
    have HB1' := Lib.hid (below_step HBQ.out hb1)
    clear hb1 hsl1 HC
    go_wp2_with fail
    refine HT.out.mono ?_
    rintro e w2 ⟨v2, rfl, hb2, hsl2⟩
    obtain ⟨p2, c2, rfl, hc2, hm2, -⟩ := hsl2.slice
    have HS2 := Lib.hid (hsl2.widen (Nat.zero_le _) (Nat.le_refl _))
    have HS12 := Lib.hid ((HS1.out.below hb2 (Nat.le_refl _)).widen (Nat.zero_le _) hb2.size)
    have HW := Lib.hid (write_any t _ w2 HS12.out (by omega))
    have HB2' := Lib.hid (below_step HB1'.out hb2)
    clear hb2 hsl2 HT HS1 HB1 HW0
    go_wp2_with fail
    refine HW.out.mono ?_
    rintro e w3 ⟨rfl, hb3⟩
    have HS13 := Lib.hid ((HS12.out.below hb3 (Nat.le_refl _)).widen (Nat.le_refl _) hb3.size)
    have HS23 := Lib.hid ((HS2.out.below hb3 (Nat.le_refl _)).widen (Nat.le_refl _) hb3.size)
    have HR := Lib.hid (refWrite_any t _ w3 HS23.out (by omega) (by omega))
    have HB3' := Lib.hid (below_step HB2'.out hb3)
    clear hb3 HS2 HS12 HW
    obtain ⟨txt, htxt⟩ : ∃ txt : ByteArray, (⟨(wText t).toArray⟩ : ByteArray) = txt := ⟨_, rfl⟩
    obtain ⟨er, her⟩ : ∃ er : Int, wErr t = er := ⟨_, rfl⟩
    rw [htxt, her]
    rw [htxt, her] at HR
    clear htxt her
    go_wp2_with fail
    refine HR.out.mono ?_
    rintro e w4 ⟨rfl, hb4⟩
    have HS14 := Lib.hid ((HS13.out.below hb4 (Nat.le_refl _)).widen (Nat.le_refl _) hb4.size)
    have HS24 := Lib.hid ((HS23.out.below hb4 (Nat.le_refl _)).widen (Nat.le_refl _) hb4.size)
    have HB4' := Lib.hid (below_step HB3'.out hb4)
    clear hb4 HS13 HS23 HR
    unfold maxLen at hm1 hm2
    go_wp2_with fail
    go_loopw [9] (fun i wr => ∃ k : Nat, k ≤ t.len ∧ i = .int .i64 k ∧ Below w4.heap.size w4 wr) (fun i _ => t.len - (intOf i).toNat)
    case atStart => exact ⟨0, Nat.zero_le _, rfl, Below.refl _ _⟩
    case round =>
      obtain ⟨k, hk, rfl, hB⟩ := hrel
      have HB := Lib.hid hB
      have HS1r := Lib.hid ((HS14.out.below hB (Nat.le_refl _)).widen (Nat.le_refl _) hB.size)
      have HS2r := Lib.hid ((HS24.out.below hB (Nat.le_refl _)).widen (Nat.le_refl _) hB.size)
      clear hB
      by_cases hlt : k < t.len
      · obtain ⟨b, o, rfl, -, -, hbl, hx1, hw, v, hx2, hs⟩ := HS1r.out.at_ (k := k) hlt
        obtain ⟨b', o', rfl, -, -, hbl', hy1, -, v', hy2, hs'⟩ := HS2r.out.at_ (k := k) hlt
        have e1 := U_cell hx1
        have e2 := U_cell hx2
        have e3 := U_cell hy1
        have e4 := U_cell hy2
        obtain ⟨pk, ck, rfl, -, -, -⟩ := hs.slice
        obtain ⟨pk', ck', rfl, -, -, -⟩ := hs'.slice
        have hdk : (t.kd k).deep ≤ 100000 := by have := Ts.deep_kd hlt; omega
        have HD1 : Hid (∀ W, Below wr.heap.size wr W → Calls Tryd.prog 18 #[.agg #[.string (t.wd k), .slice pk (t.kd k).len ck]] W fun e w' => e = .returned (.int .i64 ((t.kd k).deep + 1 : Nat)) ∧ Below W.heap.size W w') :=
          fun W hW => deep_any _ _ _ _ W (Nat.lt_succ_self _) hdk ((hs.below hW (Nat.le_refl _)).widen (Nat.le_refl _) hW.size)
        have HD2 : Hid (∀ W, Below wr.heap.size wr W → Calls Tryd.prog 19 #[.agg #[.string (t.wd k), .slice pk' (t.kd k).len ck']] W fun e w' => e = .returned (.int .i64 ((t.kd k).deep + 1 : Nat)) ∧ Below W.heap.size W w') :=
          fun W hW => refDeep_any _ _ _ _ W (Nat.lt_succ_self _) hdk ((hs'.below hW (Nat.le_refl _)).widen (Nat.le_refl _) hW.size)
        obtain ⟨d, hd⟩ : ∃ d : Nat, (t.kd k).deep + 1 = d := ⟨_, rfl⟩
        rw [hd] at HD1 HD2
        have hne : ((d : Int) != (d : Int)) = false := by simp
        clear hd hs hs' hx1 hx2 hy1 hy2 hdk
        go_wp2_with fail
        go_region_with (first
          | (go_at_call 18; refine (HD1.out _ (by first | exact below_drew _ | assumption)).mono ?_; rintro e wx ⟨rfl, hbx⟩
             have hBx : Below wr.heap.size wr wx := below_step (by first | exact below_drew _ | assumption) hbx
             have g3 := (hBx.cell (p := ⟨b', o' + k * 2, none⟩) hbl').trans e3
             have g4 := (hBx.cell (p := ⟨b', o' + k * 2 + 1, none⟩) hbl').trans e4)
          | (go_at_call 19; refine (HD2.out _ (by first | exact below_drew _ | assumption)).mono ?_; rintro e wx ⟨rfl, hbx⟩
             have hBx : Below wr.heap.size wr wx := below_step (by first | exact below_drew _ | assumption) hbx
             have g1 := (hBx.cell (p := ⟨b, o + k * 2, none⟩) hbl).trans e1
             have g2 := (hBx.cell (p := ⟨b, o + k * 2 + 1, none⟩) hbl).trans e2))
        all_goals (go_wp2_with fail)
        all_goals go_roundw
        all_goals first
          | exact ⟨k + 1, by omega, by go_num, HB.out.trans (hBx.mono HB.out.size)⟩
          | (simp [intOf]; omega)
      · have HSM := Lib.hid (same_any (t.count + 1) t _ _ wr (Nat.lt_succ_self _) HS1r.out HS2r.out)
        go_wp2_with fail
        refine HSM.out.mono ?_
        rintro e w5 ⟨rfl, q5, rfl⟩
        go_wp2_with fail
        refine (awake_any _).mono ?_
        rintro e w6 ⟨rfl, hb6⟩
        go_wp2_with fail
        go_ret
        exact ⟨rfl, below_step (below_step (below_step HB4'.out HB.out) (below_drewN wr q5)) hb6⟩
  · go_wp2_with fail
    refine (awake_any _).mono ?_
    rintro e w1 ⟨rfl, hb1⟩
    go_wp2_with fail
    go_ret
    exact ⟨rfl, below_step (below_drewN w q) hb1⟩
end Go.Proofs.YtgkmhdifjgpbeaaDoor
