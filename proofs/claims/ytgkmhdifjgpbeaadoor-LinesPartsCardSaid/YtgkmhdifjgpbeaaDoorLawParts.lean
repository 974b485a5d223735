/-
  The law LinesParts: it answers true. Conditions: none beyond what memory holds.
-/
import Derived.Test.YtgkmhdifjgpbeaaDoorAwake
import Derived.Test.YtgkmhdifjgpbeaaDoorLaws2
import Derived.Test.YtgkmhdifjgpbeaaDoorEqual
import Derived.Test.YtgkmhdifjgpbeaaDoorLawRound
import Derived.Test.YtgkmhdifjgpbeaaDoorAppends
import Derived.BigGuardPart
namespace Go.Proofs.YtgkmhdifjgpbeaaDoor
open Go.RowKit

theorem rParts {l l' : List UInt8} (h : readE l = readE l') : rErr l = rErr l' ∧ rTs l = rTs l' := by unfold rErr rTs; rw [h]; exact ⟨rfl, rfl⟩
theorem rOk {l : List UInt8} {t : Ts} (h : readE l = .ok t) : rErr l = 0 ∧ rTs l = t := by unfold rErr rTs; rw [h]; exact ⟨rfl, rfl⟩
theorem rNo {l : List UInt8} {n : Int} (h : readE l = .error n) : rErr l = n ∧ rTs l = .nil := by unfold rErr rTs; rw [h]; exact ⟨rfl, rfl⟩
theorem cat_list (x y : ByteArray) : (x ++ y).data.toList = x.data.toList ++ y.data.toList := by simp
theorem cat_size (x y : ByteArray) : (x ++ y).size = x.size + y.size := by simp

theorem run_fit : ∀ {L : List (List UInt8)} {st st' : List Ts} {k : Nat}, Fit k st → run st L = .ok st' → Fit (k + L.length) st'
  | [], st, st', k, hf, h => by simp [run] at h; subst h; exact hf
  | s :: r, st, st', k, hf, h => by
    rw [run] at h
    cases hs : step st ⟨s.toArray⟩ with
    | error m => rw [hs] at h; cases h
    | ok st1 =>
      rw [hs] at h
      have := run_fit (hf.step hs) h
      rw [List.length_cons, show k + (r.length + 1) = k + 1 + r.length by omega]
      exact this
theorem toks_count : ∀ (l : List UInt8) (m : Md), (toks m l).length ≤ l.length + 1
  | l, m => by
    have h1 := toks_good l
    have : ∀ (l : List UInt8) (m : Md), (toks m l).length ≤ l.length + (match m with | .word _ => 1 | _ => 0) := by
      intro l
      induction l with
      | nil => intro m; cases m <;> simp [toks]
      | cons b r ih =>
        intro m
        have a1 := ih .out
        have a2 := ih .note
        cases m with
        | out =>
          have a3 := ih (.word [b])
          simp only [toks]
          split
          · simp at a1 ⊢; omega
          · split
            · simp at a2 ⊢; omega
            · split
              · simp at a1 ⊢; omega
              · simp at a3 ⊢; omega
        | note =>
          simp only [toks]
          split <;> simp at a1 a2 ⊢ <;> omega
        | word c =>
          have a3 := ih (.word (c ++ [b]))
          simp only [toks]
          split
          · simp at a1 ⊢; omega
          · split
            · simp at a2 ⊢; omega
            · split
              · simp at a1 ⊢; omega
              · simp at a3 ⊢; omega
    have := this l m
    cases m <;> simp at this ⊢ <;> omega
theorem Ts.len_le_run {l : List UInt8} {t : Ts} (h : readE l = .ok t) : t.len ≤ 1000000 := by
  obtain ⟨h1, h2⟩ := readE_parts h
  have h3 := (run_fit Fit.start h2).2.2 t (by simp)
  have h4 := toks_count l .out
  simp at h3 h4
  omega

set_option maxRecDepth 100000 in
set_option maxHeartbeats 8000000 in
theorem lawParts_any (a b : ByteArray) (w : World) (ha : a.size ≤ 140737488351232) (hb : b.size ≤ 140737488351232) : Calls Tryd.prog 6 #[.string a, .string b] w fun e w' => e = .returned (.bool true) ∧ Below w.heap.size w w' := by
  have HAW := Lib.hid (awake_any w)
  by_cases hlen : a.size + b.size ≤ 4000
  · have r1 : decide ((4000 : Int) < (a.size : Int) + (b.size : Int)) = false := decide_eq_false (by omega)
    have z1 : (⟨#[10]⟩ : ByteArray).size = 1 := rfl
    have z2 : (⟨#[59, 120, 40, 59, 10, 32, 9]⟩ : ByteArray).size = 7 := rfl
    have z3 : (⟨#[10, 13, 32]⟩ : ByteArray).size = 3 := rfl
    have z4 : (⟨#[40]⟩ : ByteArray).size = 1 := rfl
    have z5 : (⟨#[10, 41]⟩ : ByteArray).size = 2 := rfl
    have zb : (a ++ ⟨#[10]⟩ ++ b).size ≤ 140737488355328 := by rw [cat_size, cat_size, z1]; omega
    have zm : (⟨#[59, 120, 40, 59, 10, 32, 9]⟩ ++ a ++ ⟨#[10, 13, 32]⟩ : ByteArray).size ≤ 140737488355328 := by rw [cat_size, cat_size, z2, z3]; omega
    have zo : (⟨#[40]⟩ ++ a ++ ⟨#[10, 41]⟩ : ByteArray).size ≤ 140737488355328 := by rw [cat_size, cat_size, z4, z5]; omega
    have lb : (a ++ ⟨#[10]⟩ ++ b).data.toList = a.data.toList ++ 10 :: b.data.toList := by rw [cat_list, cat_list]; simp
    have lm : (⟨#[59, 120, 40, 59, 10, 32, 9]⟩ ++ a ++ ⟨#[10, 13, 32]⟩ : ByteArray).data.toList = 59 :: 120 :: 40 :: 59 :: 10 :: 32 :: 9 :: (a.data.toList ++ [10, 13, 32]) := by rw [cat_list, cat_list]; simp
    have lo : (⟨#[40]⟩ ++ a ++ ⟨#[10, 41]⟩ : ByteArray).data.toList = 40 :: (a.data.toList ++ [10, 41]) := by rw [cat_list, cat_list]; simp
    have la := size_list a
    have lb' := size_list b
    have HM := Lib.hid (rParts (read_more (A := a.data.toList) (by omega)))
    have HO : Hid (∀ x, readE a.data.toList = .ok x → readE (40 :: (a.data.toList ++ [10, 41])) = if 400 ≤ x.deep then .error 3 else .ok (.cons ⟨#[]⟩ x .nil)) := fun x hx => read_within hx (by omega)
    have HBO : Hid (∀ x y, readE a.data.toList = .ok x → readE b.data.toList = .ok y → readE (a.data.toList ++ 10 :: b.data.toList) = .ok (x.app y)) := fun x y hx hy => read_both hx hy (by omega)
    have LB := Lib.hid lb
    have LM := Lib.hid lm
    have LO := Lib.hid lo
    have HAA : Hid ((∃ x, readE a.data.toList = .ok x ∧ rErr a.data.toList = 0 ∧ rTs a.data.toList = x) ∨ ∃ n, (n == (0 : Int)) = false ∧ (n != (0 : Int)) = true ∧ (n != n) = false ∧ rErr a.data.toList = n ∧ rTs a.data.toList = .nil ∧ rErr a.data.toList ≠ 0) := by
      unfold Hid
      rcases hE : readE a.data.toList with n | x
      · obtain ⟨h1, h2⟩ := rNo hE
        have h3 := readE_err hE
        have hn : n ≠ 0 := by omega
        exact .inr ⟨n, by simpa using hn, by simpa using hn, by simp, h1, h2, by rw [h1]; exact hn⟩
      · exact .inl ⟨x, rfl, (rOk hE).1, (rOk hE).2⟩
    have HBB : Hid ((∃ y, readE b.data.toList = .ok y ∧ rErr b.data.toList = 0 ∧ rTs b.data.toList = y) ∨ ∃ n, (n == (0 : Int)) = false ∧ rErr b.data.toList = n) := by
      unfold Hid
      rcases hE : readE b.data.toList with n | x
      · obtain ⟨h1, h2⟩ := rNo hE
        have h3 := readE_err hE
        have hn : n ≠ 0 := by omega
        exact .inr ⟨n, by simpa using hn, h1⟩
      · exact .inl ⟨x, rfl, (rOk hE).1, (rOk hE).2⟩
    clear la lb' lb lm lo
    go_enter Tryd.func6, Tryd.ntmps6
    go_wp2_with fail
    refine HAW.out.mono ?_
    rintro e w1 ⟨rfl, hb1⟩
    have HB1 := Lib.hid hb1
    have HRA := Lib.hid (read_any a w1 (by omega))
    clear hb1 HAW
    go_wp2_with fail
    refine HRA.out.mono ?_
    rintro e w2 ⟨hb2, vx, rfl, hsx, hnx⟩
    have HB2 := Lib.hid (below_step HB1.out hb2)
    have HRB := Lib.hid (read_any b w2 (by omega))
    have HSX := Lib.hid (hsx.widen (Nat.zero_le _) (Nat.le_refl _))
    have HNX := Lib.hid hnx
    clear hb2 hsx hnx HRA HB1
    go_wp2_with fail
    refine HRB.out.mono ?_
    rintro e w3 ⟨hb3, vy, rfl, hsy, -⟩
    have HB3 := Lib.hid (below_step HB2.out hb3)
    have HSX3 := Lib.hid ((HSX.out.below hb3 (Nat.le_refl _)).widen (Nat.le_refl _) hb3.size)
    have HSY := Lib.hid (hsy.widen (Nat.zero_le _) (Nat.le_refl _))
    have HRC := Lib.hid (read_any _ w3 zb)
    clear hb3 hsy HRB HB2 HSX
    go_wp2_with fail
    refine HRC.out.mono ?_
    rintro e w4 ⟨hb4, vz, rfl, hsz, -⟩
    have HB4 := Lib.hid (below_step HB3.out hb4)
    have HSX4 := Lib.hid ((HSX3.out.below hb4 (Nat.le_refl _)).widen (Nat.le_refl _) hb4.size)
    have HSY4 := Lib.hid ((HSY.out.below hb4 (Nat.le_refl _)).widen (Nat.le_refl _) hb4.size)
    have HSZ := Lib.hid (hsz.widen (Nat.zero_le _) (Nat.le_refl _))
    clear hb4 hsz HRC HB3 HSX3 HSY
    rcases HAA.out with ⟨x, hx, hx0, hxT⟩ | ⟨n, n0, n1, n2, hn, hnT, hn0⟩
    · rcases HBB.out with ⟨y, hy, hy0, hyT⟩ | ⟨m, m0, hm0⟩
      · have HSX5 := Lib.hid HSX4.out
        have HSY5 := Lib.hid HSY4.out
        have HSZ5 := Lib.hid HSZ.out
        rw [hxT] at HSX5
        rw [hyT] at HSY5
        obtain ⟨zz1, zz2⟩ := rOk (HBO.out x y hx hy)
        rw [LB.out, zz2] at HSZ5
        rw [hx0, hy0, LB.out, zz1]
        have hxl := Ts.len_le_run hx
        have hyl := Ts.len_le_run hy
        obtain ⟨pz, cz, rfl, -, -, -⟩ := HSZ5.out.slice
        obtain ⟨px, cx, rfl, -, -, -⟩ := HSX5.out.slice
        obtain ⟨py, cy, rfl, -, -, -⟩ := HSY5.out.slice
        obtain ⟨v5, w5, hap1, hA1⟩ := (AppR.start w4).step HSX5.out (Nat.zero_le _) hxl
        rw [show Ts.nil.app x = x from rfl] at hA1
        obtain ⟨v6, w6', hap2, hA2⟩ := hA1.step HSY5.out hxl hyl
        have HB6' := Lib.hid (below_step HB4.out hA2.1)
        have HSX6' := Lib.hid ((HSX5.out.below hA2.1 (Nat.le_refl _)).widen (Nat.le_refl _) hA2.1.size)
        have HEB := Lib.hid (equal_any ((x.app y).count + 1) (x.app y) _ _ w6' (Nat.lt_succ_self _) ((HSZ5.out.below hA2.1 (Nat.le_refl _)).widen (Nat.le_refl _) hA2.1.size) hA2.sl)
        have HP1 := Lib.hid hap1
        have HP2 := Lib.hid hap2
        obtain ⟨q6, c6, e6, -, -, -⟩ := hA2.sl.slice
        subst e6
        clear hap1 hap2 hA1 hA2 zz1 zz2 hy hy0 hyT hxl hyl
        go_wp2_with (at_builtin; first
          | refine wpList_append_run (by rfl) (.tmp 54) (.tmp 55) 23 rfl _ _ v5 (by rfl) (by rfl) HP1.out ?_
          | refine wpList_append_run (by rfl) (.tmp 56) (.tmp 57) 23 rfl _ _ (.slice q6 (x.app y).len c6) (by rfl) (by rfl) HP2.out ?_)
        refine HEB.out.mono ?_
        rintro e w7' ⟨rfl, q7', rfl⟩
        have HSX7' := Lib.hid (HSX6'.out.drewN q7')
        have HB7' := Lib.hid (below_step HB6'.out (below_drewN w6' q7'))
        clear HEB HSX6' HB6' HP1 HP2
        go_wp2_with fail
        have HRM := Lib.hid (read_any _ (w6'.drewN q7') zm)
        go_wp2_with fail
        refine HRM.out.mono ?_
        rintro e w6 ⟨hb6, vm, rfl, hsm, -⟩
        rw [LM.out, HM.out.2, hxT] at hsm
        rw [LM.out, HM.out.1, hx0]
        obtain ⟨pm, cm, rfl, -, -, -⟩ := hsm.slice
        have HSX6 := Lib.hid ((HSX7'.out.below hb6 (Nat.le_refl _)).widen (Nat.le_refl _) hb6.size)
        have HB6 := Lib.hid (below_step HB7'.out hb6)
        have HE6 := Lib.hid (equal_any (x.count + 1) x _ _ w6 (Nat.lt_succ_self _) (hsm.widen (Nat.zero_le _) (Nat.le_refl _)) HSX6.out)
        clear hb6 hsm HRM
        go_wp2_with fail
        refine HE6.out.mono ?_
        rintro e w7 ⟨rfl, q7, rfl⟩
        have HSX7 := Lib.hid (HSX6.out.drewN q7)
        have HB7 := Lib.hid (below_step HB6.out (below_drewN w6 q7))
        have HRO := Lib.hid (read_any _ (w6.drewN q7) zo)
        clear HE6 HSX6 HB6
        go_wp2_with fail
        refine HRO.out.mono ?_
        rintro e w8 ⟨hb8, vo, rfl, hso, -⟩
        have HSX8 := Lib.hid ((HSX7.out.below hb8 (Nat.le_refl _)).widen (Nat.le_refl _) hb8.size)
        have HB8 := Lib.hid (below_step HB7.out hb8)
        clear hb8 HRO HSX7 HB7
        have hor := HO.out x hx
        have hx400 := (read_well hx).2.1
        have HXX := Lib.hid hx
        obtain ⟨px, cx, e8, hcx, hmx, -⟩ := HSX8.out.slice
        have hpx8 := HSX8.out
        rw [LO.out] at hso
        rw [LO.out]
        unfold maxLen at hmx
        obtain ⟨po, co, rfl, -, -, -⟩ := hso.slice
        go_wp2_with fail
        go_loopw [15, 16] (fun tall i wr => ∃ k : Nat, k ≤ x.len ∧ i = .int .i64 k ∧ tall = .bool (decide (400 ≤ (x.take k).deep)) ∧ Below w8.heap.size w8 wr) (fun _ i _ => x.len - (intOf i).toNat)
        case atStart => exact ⟨0, Nat.zero_le _, rfl, rfl, Below.refl _ _⟩
        case round =>
          obtain ⟨k, hk, rfl, rfl, hB⟩ := hrel
          have HB9 := Lib.hid (below_step HB8.out hB)
          have HBW := Lib.hid hB
          have HSX9 := Lib.hid ((HSX8.out.below hB (Nat.le_refl _)).widen (Nat.le_refl _) hB.size)
          clear hB
          by_cases hlt : k < x.len
          · have HTK := Lib.hid (Ts.take_succ hlt)
            obtain ⟨bl, o, hpe, -, -, hbl, hc1, -, v, hc2, hs⟩ := HSX9.out.at_ (k := k) hlt
            cases hpe
            have e1 := U_cell hc1
            have e2 := U_cell hc2
            obtain ⟨pk, ck, rfl, -, -, -⟩ := hs.slice
            have hkd := Ts.deep_kd hlt
            have HD := Lib.hid (deep_any _ _ (x.wd k) _ wr (Nat.lt_succ_self _) (by omega) (hs.widen (Nat.zero_le _) (Nat.le_refl _)))
            have hki : (k : Int) < (x.len : Int) := by omega
            clear hc1 hc2 hs
            by_cases htall : 400 ≤ (x.take k).deep
            · have t1 : decide (400 ≤ (x.take k).deep) = true := decide_eq_true htall
              rw [t1]
              have HTT := Lib.hid htall
              clear htall t1
              go_wp2_with fail
              go_roundw
              case rel => exact ⟨k + 1, by omega, by go_num, by rw [HTK.out, Ts.deep_snoc, decide_eq_true (by have := HTT.out; omega)], HBW.out⟩
              case measure => simp [intOf]; omega
            · have t1 : decide (400 ≤ (x.take k).deep) = false := decide_eq_false htall
              rw [t1]
              have HTT := Lib.hid htall
              obtain ⟨d, hd⟩ : ∃ d : Nat, (x.kd k).deep + 1 = d := ⟨_, rfl⟩
              rw [hd] at HD hkd
              have HDD := Lib.hid hd
              have hdi : decide ((400 : Int) ≤ (d : Int)) = decide (400 ≤ d) := by congr 1; exact propext ⟨fun h => by omega, fun h => by omega⟩
              have HDI := Lib.hid hdi
              clear htall t1 hd hdi
              go_wp2_with fail
              refine HD.out.mono ?_
              rintro e w9 ⟨rfl, hb9⟩
              have HB10 := Lib.hid (below_step HBW.out hb9)
              clear hb9 HD
              go_wp2_with fail
              go_roundw
              case rel => exact ⟨k + 1, by omega, by go_num, by rw [HTK.out, Ts.deep_snoc, HDD.out]; have := HTT.out; (try rw [HDI.out]); congr 1; exact decide_eq_decide.2 ⟨fun h => by omega, fun h => by omega⟩, HB10.out⟩
              case measure => simp [intOf]; omega
          · obtain rfl : k = x.len := by omega
            rw [Ts.take_len]
            by_cases hdp : 400 ≤ x.deep
            · rw [if_pos hdp] at hor
              obtain ⟨o1, o2⟩ := rNo hor
              rw [o1]
              rw [decide_eq_true hdp]
              clear hor o1 hdp
              go_wp2_with fail
              go_ret
              exact ⟨rfl, HB9.out⟩
            · rw [if_neg hdp] at hor
              obtain ⟨o1, o2⟩ := rOk hor
              rw [o2] at hso
              rw [o1]
              rw [decide_eq_false hdp]
              rw [o2, show (Ts.cons ⟨#[]⟩ x .nil).len = 1 from rfl]
              have hso9 := (hso.below HBW.out (Nat.le_refl _)).widen (Nat.zero_le _) HBW.out.size
              obtain ⟨bo, oo, hpo, -, -, -, hw1, -, vk, hw2, hsk⟩ := hso9.at_ (k := 0) (Nat.zero_lt_one)
              cases hpo
              obtain ⟨pk, ck, rfl, -, -, -⟩ := hsk.slice
              have f1 : wr.cell? ⟨bo, oo, none⟩ = some (.string ⟨#[]⟩) := U_cell hw1
              have f2 : wr.cell? ⟨bo, oo + 1, none⟩ = some (.slice pk x.len ck) := by have := U_cell hw2; exact this
              have HEK := Lib.hid (equal_any (x.count + 1) x _ _ wr (Nat.lt_succ_self _) hsk HSX9.out)
              clear hor o1 o2 hdp hso hso9 hw1 hw2 hsk
              go_wp2_with fail
              refine HEK.out.mono ?_
              rintro e w10 ⟨rfl, q10, rfl⟩
              go_wp2_with fail
              go_ret
              exact ⟨rfl, below_step HB9.out (below_drewN wr q10)⟩
      · have HSX5 := Lib.hid HSX4.out
        rw [hxT] at HSX5
        rw [hx0, hm0]
        obtain ⟨ec, hec⟩ : ∃ ec, rErr (a ++ ⟨#[10]⟩ ++ b).data.toList = ec := ⟨_, rfl⟩
        obtain ⟨px, cx, rfl, -, -, -⟩ := HSX5.out.slice
        obtain ⟨py, cy, rfl, -, -, -⟩ := HSY4.out.slice
        obtain ⟨pz, cz, rfl, -, -, -⟩ := HSZ.out.slice
        rw [hec]
        clear hec hm0
        go_wp2_with fail
        have HRM := Lib.hid (read_any _ w4 zm)
        go_wp2_with fail
        refine HRM.out.mono ?_
        rintro e w6 ⟨hb6, vm, rfl, hsm, -⟩
        rw [LM.out, HM.out.2, hxT] at hsm
        rw [LM.out, HM.out.1, hx0]
        obtain ⟨pm, cm, rfl, -, -, -⟩ := hsm.slice
        have HSX6 := Lib.hid ((HSX5.out.below hb6 (Nat.le_refl _)).widen (Nat.le_refl _) hb6.size)
        have HB6 := Lib.hid (below_step HB4.out hb6)
        have HE6 := Lib.hid (equal_any (x.count + 1) x _ _ w6 (Nat.lt_succ_self _) (hsm.widen (Nat.zero_le _) (Nat.le_refl _)) HSX6.out)
        clear hb6 hsm HRM
        go_wp2_with fail
        refine HE6.out.mono ?_
        rintro e w7 ⟨rfl, q7, rfl⟩
        have HSX7 := Lib.hid (HSX6.out.drewN q7)
        have HB7 := Lib.hid (below_step HB6.out (below_drewN w6 q7))
        have HRO := Lib.hid (read_any _ (w6.drewN q7) zo)
        clear HE6 HSX6 HB6
        go_wp2_with fail
        refine HRO.out.mono ?_
        rintro e w8 ⟨hb8, vo, rfl, hso, -⟩
        have HSX8 := Lib.hid ((HSX7.out.below hb8 (Nat.le_refl _)).widen (Nat.le_refl _) hb8.size)
        have HB8 := Lib.hid (below_step HB7.out hb8)
        clear hb8 HRO HSX7 HB7
        have hor := HO.out x hx
        have hx400 := (read_well hx).2.1
        have HXX := Lib.hid hx
        obtain ⟨px, cx, e8, hcx, hmx, -⟩ := HSX8.out.slice
        have hpx8 := HSX8.out
        rw [LO.out] at hso
        rw [LO.out]
        unfold maxLen at hmx
        obtain ⟨po, co, rfl, -, -, -⟩ := hso.slice
        go_wp2_with fail
        go_loopw [15, 16] (fun tall i wr => ∃ k : Nat, k ≤ x.len ∧ i = .int .i64 k ∧ tall = .bool (decide (400 ≤ (x.take k).deep)) ∧ Below w8.heap.size w8 wr) (fun _ i _ => x.len - (intOf i).toNat)
        case atStart => exact ⟨0, Nat.zero_le _, rfl, rfl, Below.refl _ _⟩
        case round =>
          obtain ⟨k, hk, rfl, rfl, hB⟩ := hrel
          have HB9 := Lib.hid (below_step HB8.out hB)
          have HBW := Lib.hid hB
          have HSX9 := Lib.hid ((HSX8.out.below hB (Nat.le_refl _)).widen (Nat.le_refl _) hB.size)
          clear hB
          by_cases hlt : k < x.len
          · have HTK := Lib.hid (Ts.take_succ hlt)
            obtain ⟨bl, o, hpe, -, -, hbl, hc1, -, v, hc2, hs⟩ := HSX9.out.at_ (k := k) hlt
            cases hpe
            have e1 := U_cell hc1
            have e2 := U_cell hc2
            obtain ⟨pk, ck, rfl, -, -, -⟩ := hs.slice
            have hkd := Ts.deep_kd hlt
            have HD := Lib.hid (deep_any _ _ (x.wd k) _ wr (Nat.lt_succ_self _) (by omega) (hs.widen (Nat.zero_le _) (Nat.le_refl _)))
            have hki : (k : Int) < (x.len : Int) := by omega
            clear hc1 hc2 hs
            by_cases htall : 400 ≤ (x.take k).deep
            · have t1 : decide (400 ≤ (x.take k).deep) = true := decide_eq_true htall
              rw [t1]
              have HTT := Lib.hid htall
              clear htall t1
              go_wp2_with fail
              go_roundw
              case rel => exact ⟨k + 1, by omega, by go_num, by rw [HTK.out, Ts.deep_snoc, decide_eq_true (by have := HTT.out; omega)], HBW.out⟩
              case measure => simp [intOf]; omega
            · have t1 : decide (400 ≤ (x.take k).deep) = false := decide_eq_false htall
              rw [t1]
              have HTT := Lib.hid htall
              obtain ⟨d, hd⟩ : ∃ d : Nat, (x.kd k).deep + 1 = d := ⟨_, rfl⟩
              rw [hd] at HD hkd
              have HDD := Lib.hid hd
              have hdi : decide ((400 : Int) ≤ (d : Int)) = decide (400 ≤ d) := by congr 1; exact propext ⟨fun h => by omega, fun h => by omega⟩
              have HDI := Lib.hid hdi
              clear htall t1 hd hdi
              go_wp2_with fail
              refine HD.out.mono ?_
              rintro e w9 ⟨rfl, hb9⟩
              have HB10 := Lib.hid (below_step HBW.out hb9)
              clear hb9 HD
              go_wp2_with fail
              go_roundw
              case rel => exact ⟨k + 1, by omega, by go_num, by rw [HTK.out, Ts.deep_snoc, HDD.out]; have := HTT.out; (try rw [HDI.out]); congr 1; exact decide_eq_decide.2 ⟨fun h => by omega, fun h => by omega⟩, HB10.out⟩
              case measure => simp [intOf]; omega
          · obtain rfl : k = x.len := by omega
            rw [Ts.take_len]
            by_cases hdp : 400 ≤ x.deep
            · rw [if_pos hdp] at hor
              obtain ⟨o1, o2⟩ := rNo hor
              rw [o1]
              rw [decide_eq_true hdp]
              clear hor o1 hdp
              go_wp2_with fail
              go_ret
              exact ⟨rfl, HB9.out⟩
            · rw [if_neg hdp] at hor
              obtain ⟨o1, o2⟩ := rOk hor
              rw [o2] at hso
              rw [o1]
              rw [decide_eq_false hdp]
              rw [o2, show (Ts.cons ⟨#[]⟩ x .nil).len = 1 from rfl]
              have hso9 := (hso.below HBW.out (Nat.le_refl _)).widen (Nat.zero_le _) HBW.out.size
              obtain ⟨bo, oo, hpo, -, -, -, hw1, -, vk, hw2, hsk⟩ := hso9.at_ (k := 0) (Nat.zero_lt_one)
              cases hpo
              obtain ⟨pk, ck, rfl, -, -, -⟩ := hsk.slice
              have f1 : wr.cell? ⟨bo, oo, none⟩ = some (.string ⟨#[]⟩) := U_cell hw1
              have f2 : wr.cell? ⟨bo, oo + 1, none⟩ = some (.slice pk x.len ck) := by have := U_cell hw2; exact this
              have HEK := Lib.hid (equal_any (x.count + 1) x _ _ wr (Nat.lt_succ_self _) hsk HSX9.out)
              clear hor o1 o2 hdp hso hso9 hw1 hw2 hsk
              go_wp2_with fail
              refine HEK.out.mono ?_
              rintro e w10 ⟨rfl, q10, rfl⟩
              go_wp2_with fail
              go_ret
              exact ⟨rfl, below_step HB9.out (below_drewN wr q10)⟩
    · obtain rfl := HNX.out hn0
      have HSX5 := Lib.hid HSX4.out
      rw [hnT] at HSX5
      rw [hn]
      obtain ⟨eb, heb⟩ : ∃ eb, rErr b.data.toList = eb := ⟨_, rfl⟩
      obtain ⟨ec, hec⟩ : ∃ ec, rErr (a ++ ⟨#[10]⟩ ++ b).data.toList = ec := ⟨_, rfl⟩
      obtain ⟨py, cy, rfl, -, -, -⟩ := HSY4.out.slice
      obtain ⟨pz, cz, rfl, -, -, -⟩ := HSZ.out.slice
      rw [heb, hec]
      clear heb hec HBB HBO HO
      go_wp2_with fail
      have HRM := Lib.hid (read_any _ w4 zm)
      go_wp2_with fail
      refine HRM.out.mono ?_
      rintro e w6 ⟨hb6, vm, rfl, hsm, -⟩
      rw [LM.out, HM.out.2, hnT] at hsm
      rw [LM.out, HM.out.1, hn]
      obtain ⟨pm, cm, rfl, -, -, -⟩ := hsm.slice
      have HSX6 := Lib.hid ((HSX5.out.below hb6 (Nat.le_refl _)).widen (Nat.le_refl _) hb6.size)
      have HB6 := Lib.hid (below_step HB4.out hb6)
      have HE6 := Lib.hid (equal_any (Ts.nil.count + 1) Ts.nil _ _ w6 (Nat.lt_succ_self _) (hsm.widen (Nat.zero_le _) (Nat.le_refl _)) HSX6.out)
      clear hb6 hsm HRM
      go_wp2_with fail
      refine HE6.out.mono ?_
      rintro e w7 ⟨rfl, q7, rfl⟩
      have HSX7 := Lib.hid (HSX6.out.drewN q7)
      have HB7 := Lib.hid (below_step HB6.out (below_drewN w6 q7))
      have HRO := Lib.hid (read_any _ (w6.drewN q7) zo)
      clear HE6 HSX6 HB6
      go_wp2_with fail
      refine HRO.out.mono ?_
      rintro e w8 ⟨hb8, vo, rfl, hso, -⟩
      have HSX8 := Lib.hid ((HSX7.out.below hb8 (Nat.le_refl _)).widen (Nat.le_refl _) hb8.size)
      have HB8 := Lib.hid (below_step HB7.out hb8)
      clear hb8 HRO HSX7 HB7
      obtain ⟨eo, heo⟩ : ∃ eo, rErr (⟨#[40]⟩ ++ a ++ ⟨#[10, 41]⟩ : ByteArray).data.toList = eo := ⟨_, rfl⟩
      rw [heo]
      obtain ⟨po, co, rfl, -, -, -⟩ := hso.slice
      clear hso heo
      go_wp2_with fail
      go_loopw [15, 16] (fun tall i wr => tall = .bool false ∧ i = .int .i64 0 ∧ wr = w8) (fun _ _ _ => 0)
      case atStart => exact ⟨rfl, rfl, rfl⟩
      case round =>
        obtain ⟨rfl, rfl, rfl⟩ := hrel
        go_wp2_with fail
        go_ret
        exact ⟨rfl, HB8.out⟩
  · have r1 : decide ((4000 : Int) < (a.size : Int) + (b.size : Int)) = true := decide_eq_true (by omega)
    go_enter Tryd.func6, Tryd.ntmps6
    go_wp2_with fail
    refine HAW.out.mono ?_
    rintro e w1 ⟨rfl, hb1⟩
    go_wp2_with fail
    go_ret
    exact ⟨rfl, hb1⟩
end Go.Proofs.YtgkmhdifjgpbeaaDoor
