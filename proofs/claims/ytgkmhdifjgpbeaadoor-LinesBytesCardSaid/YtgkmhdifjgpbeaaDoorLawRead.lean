/-
  The law LinesRead: it answers true. Conditions: none beyond what memory holds.
-/
import Derived.Test.YtgkmhdifjgpbeaaDoorAwake
import Derived.Test.YtgkmhdifjgpbeaaDoorRefRead
import Derived.Test.YtgkmhdifjgpbeaaDoorBlot
import Derived.Test.YtgkmhdifjgpbeaaDoorSame
import Derived.BigGuardPart
namespace Go.Proofs.YtgkmhdifjgpbeaaDoor
open Go.RowKit

theorem Sl.turns {lo hi lo' hi' : Nat} {w w' : World} {v : Value} {t : Ts} (h : Sl (U w) lo' hi' v t) (hT : Turns lo hi w w') (hh : hi ≤ lo') (hw : hi' ≤ w.heap.size) : Sl (U w') lo' hi' v t :=
  h.mono (fun b o u h1 h2 hu => (U_block (hT.block b (by omega) (by omega)) o).trans hu) (Nat.le_refl _) (Nat.le_refl _)
theorem Turns.below {lo hi : Nat} {w w' : World} (h : Turns lo hi w w') {B : Nat} (hB : B ≤ lo) (hw : B ≤ w.heap.size) : Below B w w' :=
  ⟨h.os, h.tape, h.output, h.size, fun k hk => h.block k (by omega) (by omega)⟩

set_option maxRecDepth 100000 in
set_option maxHeartbeats 4000000 in
theorem lawRead_any (text : ByteArray) (w : World) (hsz : text.size ≤ 140737488355328) : Calls Tryd.prog 3 #[.string text] w fun e w' => e = .returned (.bool true) ∧ Below w.heap.size w w' := by
  by_cases hmid : 4000 < text.size ∧ text.size ≤ 262144
  · have r1 : decide ((4000 : Int) < (text.size : Int)) = true := decide_eq_true (by omega)
    have r2 : decide ((text.size : Int) ≤ 262144) = true := decide_eq_true (by omega)
    have H := Lib.hid (awake_any w)
    clear hmid
    go_enter Tryd.func3, Tryd.ntmps3
    go_wp2_with fail
    refine H.out.mono ?_
    rintro e w1 ⟨rfl, hb1⟩
    go_wp2_with fail
    go_ret
    exact ⟨rfl, hb1⟩
  · have HRa := Lib.hid (read_any text w hsz)
    have hcase : text.size ≤ 4000 ∨ 262144 < text.size := by omega
    obtain ⟨T, hT⟩ : ∃ T, rTs text.data.toList = T := ⟨_, rfl⟩
    obtain ⟨E, hE⟩ : ∃ E, rErr text.data.toList = E := ⟨_, rfl⟩
    have HT := Lib.hid hT
    have HE := Lib.hid hE
    have hne : ((E : Int) != E) = false := by simp
    clear hmid hT hE
    rcases hcase with h1 | h1
    · have r1 : decide ((4000 : Int) < (text.size : Int)) = false := decide_eq_false (by omega)
      go_enter Tryd.func3, Tryd.ntmps3
      go_wp2_with fail
      refine HRa.out.mono ?_
      rintro e w1 ⟨hb1, va, rfl, hsa, -⟩
      rw [HT.out] at hsa
      rw [HE.out]
      obtain ⟨pa, ca, rfl, -, -, -⟩ := hsa.slice
      have HSA := Lib.hid hsa
      have HB1 := Lib.hid hb1
      have HRb := Lib.hid (refRead_any text w1 hsz)
      clear hsa hb1 HRa
      go_wp2_with fail
      refine HRb.out.mono ?_
      rintro e w2 ⟨hb2, vb, rfl, hsb, -⟩
      rw [HT.out] at hsb
      rw [HE.out]
      obtain ⟨pb, cb, rfl, -, -, -⟩ := hsb.slice
      have HSB := Lib.hid hsb
      have HB2 := Lib.hid hb2
      have HRc := Lib.hid (read_any text w2 hsz)
      clear hsb hb2 HRb
      go_wp2_with fail
      refine HRc.out.mono ?_
      rintro e w3 ⟨hb3, vc, rfl, hsc, -⟩
      rw [HT.out] at hsc
      rw [HE.out]
      obtain ⟨pc, cc, rfl, -, -, -⟩ := hsc.slice
      have hs1 := HB1.out.size
      have hs2 := HB2.out.size
      have hs3 := hb3.size
      have ha3 := HSA.out.below (HB2.out.trans (hb3.mono hs2)) (Nat.le_refl _)
      have hb3' := HSB.out.below hb3 (Nat.le_refl _)
      have HB3 := Lib.hid (below_step (below_step HB1.out HB2.out) hb3)
      have HSM := Lib.hid (same_any (T.count + 1) T _ _ w3 (Nat.lt_succ_self _) (ha3.widen (Nat.zero_le _) (by omega)) (hb3'.widen (Nat.zero_le _) (by omega)))
      have HA3 := Lib.hid ha3
      have HB3' := Lib.hid hb3'
      have HC3 := Lib.hid hsc
      clear hb3 hsc ha3 hb3' HRc HSA HSB
      go_wp2_with fail
      refine HSM.out.mono ?_
      rintro e w4 ⟨rfl, q, rfl⟩
      have HBL := Lib.hid (blot_any w.heap.size w1.heap.size (w3.drewN q) (T.count + 1) T _ (w3.drewN q) (Nat.lt_succ_self _) (HA3.out.drewN q) (Appr.refl _ _ _))
      go_wp2_with fail
      refine HBL.out.mono ?_
      rintro e w5 ⟨rfl, -, ht5⟩
      have hs5 := ht5.size
      have hc5 := (HC3.out.drewN q).turns ht5 hs2 (Nat.le_refl _)
      have hb5 := (HB3'.out.drewN q).turns ht5 (Nat.le_refl _) hs3
      have HB5 := Lib.hid (HB3.out.trans ((below_drewN w3 q).mono (by omega)) |>.trans (ht5.below (Nat.le_refl _) (by show w.heap.size ≤ w3.heap.size; omega)))
      have HSM2 := Lib.hid (same_any (T.count + 1) T _ _ w5 (Nat.lt_succ_self _) (hc5.widen (Nat.zero_le _) hs5) (hb5.widen (Nat.zero_le _) (Nat.le_trans hs3 hs5)))
      clear ht5 hc5 hb5 hs5 hs1 hs2 hs3
      go_wp2_with fail
      refine HSM2.out.mono ?_
      rintro e w6 ⟨rfl, q2, rfl⟩
      have HAW := Lib.hid (awake_any (w5.drewN q2))
      go_wp2_with fail
      refine HAW.out.mono ?_
      rintro e w7 ⟨rfl, hb7⟩
      have HB7 := Lib.hid hb7
      clear hb7
      go_wp2_with fail
      go_ret
      have hle := HB5.out.size
      exact ⟨rfl, (HB5.out.trans ((below_drewN w5 q2).mono hle)).trans (HB7.out.mono hle)⟩
    · have r1 : decide ((4000 : Int) < (text.size : Int)) = true := decide_eq_true (by omega)
      have r2 : decide ((text.size : Int) ≤ 262144) = false := decide_eq_false (by omega)
      go_enter Tryd.func3, Tryd.ntmps3
      go_wp2_with fail
      refine HRa.out.mono ?_
      rintro e w1 ⟨hb1, va, rfl, hsa, -⟩
      rw [HT.out] at hsa
      rw [HE.out]
      obtain ⟨pa, ca, rfl, -, -, -⟩ := hsa.slice
      have HSA := Lib.hid hsa
      have HB1 := Lib.hid hb1
      have HRb := Lib.hid (refRead_any text w1 hsz)
      clear hsa hb1 HRa
      go_wp2_with fail
      refine HRb.out.mono ?_
      rintro e w2 ⟨hb2, vb, rfl, hsb, -⟩
      rw [HT.out] at hsb
      rw [HE.out]
      obtain ⟨pb, cb, rfl, -, -, -⟩ := hsb.slice
      have HSB := Lib.hid hsb
      have HB2 := Lib.hid hb2
      have HRc := Lib.hid (read_any text w2 hsz)
      clear hsb hb2 HRb
      go_wp2_with fail
      refine HRc.out.mono ?_
      rintro e w3 ⟨hb3, vc, rfl, hsc, -⟩
      rw [HT.out] at hsc
      rw [HE.out]
      obtain ⟨pc, cc, rfl, -, -, -⟩ := hsc.slice
      have hs1 := HB1.out.size
      have hs2 := HB2.out.size
      have hs3 := hb3.size
      have ha3 := HSA.out.below (HB2.out.trans (hb3.mono hs2)) (Nat.le_refl _)
      have hb3' := HSB.out.below hb3 (Nat.le_refl _)
      have HB3 := Lib.hid (below_step (below_step HB1.out HB2.out) hb3)
      have HSM := Lib.hid (same_any (T.count + 1) T _ _ w3 (Nat.lt_succ_self _) (ha3.widen (Nat.zero_le _) (by omega)) (hb3'.widen (Nat.zero_le _) (by omega)))
      have HA3 := Lib.hid ha3
      have HB3' := Lib.hid hb3'
      have HC3 := Lib.hid hsc
      clear hb3 hsc ha3 hb3' HRc HSA HSB
      go_wp2_with fail
      refine HSM.out.mono ?_
      rintro e w4 ⟨rfl, q, rfl⟩
      have HBL := Lib.hid (blot_any w.heap.size w1.heap.size (w3.drewN q) (T.count + 1) T _ (w3.drewN q) (Nat.lt_succ_self _) (HA3.out.drewN q) (Appr.refl _ _ _))
      go_wp2_with fail
      refine HBL.out.mono ?_
      rintro e w5 ⟨rfl, -, ht5⟩
      have hs5 := ht5.size
      have hc5 := (HC3.out.drewN q).turns ht5 hs2 (Nat.le_refl _)
      have hb5 := (HB3'.out.drewN q).turns ht5 (Nat.le_refl _) hs3
      have HB5 := Lib.hid (HB3.out.trans ((below_drewN w3 q).mono (by omega)) |>.trans (ht5.below (Nat.le_refl _) (by show w.heap.size ≤ w3.heap.size; omega)))
      have HSM2 := Lib.hid (same_any (T.count + 1) T _ _ w5 (Nat.lt_succ_self _) (hc5.widen (Nat.zero_le _) hs5) (hb5.widen (Nat.zero_le _) (Nat.le_trans hs3 hs5)))
      clear ht5 hc5 hb5 hs5 hs1 hs2 hs3
      go_wp2_with fail
      refine HSM2.out.mono ?_
      rintro e w6 ⟨rfl, q2, rfl⟩
      have HAW := Lib.hid (awake_any (w5.drewN q2))
      go_wp2_with fail
      refine HAW.out.mono ?_
      rintro e w7 ⟨rfl, hb7⟩
      have HB7 := Lib.hid hb7
      clear hb7
      go_wp2_with fail
      go_ret
      have hle := HB5.out.size
      exact ⟨rfl, (HB5.out.trans ((below_drewN w5 q2).mono hle)).trans (HB7.out.mono hle)⟩
end Go.Proofs.YtgkmhdifjgpbeaaDoor
