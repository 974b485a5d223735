/-
  Lists of terms that lie apart, written over, grown, looked at: they are found apart. Conditions: no more than 10000000 lists, of no more than 10000000 elements each. Lists, and the lists within them, are put into the bag: parts, levels, terms. Conditions: no more than 100000000 lists in all. Conditions: as each lemma states them.
-/
import Derived.Test.YtkcmapimcgppmaaGreatDoorM23
import Derived.Test.YtkcmapimcgppmaaGreatDoorM02
import Derived.Test.YtkcmapimcgppmaaGreatDoorM17
import Derived.Test.YtkcmapimcgppmaaGreatDoorM11
import Derived.Test.YtkcmapimcgppmaaGreatDoorM24
import Derived.Test.YtkcmapimcgppmaaGreatDoorM25
set_option linter.all false
set_option linter.unusedVariables false
set_option linter.unusedSimpArgs false
set_option linter.unnecessarySimpa false
section
namespace Go.Proofs.YtkcmapimcgppmaaGreatDoor
open Go.RowKit

/-- The kind of terms. -/
def KT : Kd := { e := 26, sz := 5, em := 0, cel := fun _ M xs => xs = [.int .i64 0, .int .i64 M, .int .i64 0, .slice none 0 0, .slice none 0 0] }
theorem KT_ok : KT.Ok := ⟨by decide, by decide, fun _ _ _ h => by rw [show _ = _ from h]; rfl, fun _ _ _ h u hu => by rw [show _ = _ from h] at hu; simp at hu; rcases hu with rfl | rfl | rfl | rfl <;> rfl, fun _ _ _ _ _ h => h⟩
theorem KT_sty : Sty Tryz.prog KT 22 := by
  refine ⟨Tryz.underlying22, ?_⟩
  have h := info26
  cases hi : Tryz.prog.info? 26 with
  | none => rw [hi] at h; cases h
  | some i =>
    rw [hi] at h
    simp only [Option.map_some, Option.some.injEq, Prod.mk.injEq] at h
    exact ⟨i, _, hi, h.1, h.2.1, rfl, by omega⟩
/-- The type of the list of rows. -/
def KTS : Kd := { e := 22, sz := 1, em := 0, cel := fun _ _ _ => False }
theorem info22 : (Tryz.prog.info? 22).map (fun i => (i.zero, i.size, i.bytes)) = some (some (.slice none 0 0), 1, 24) := by kernel_rfl
theorem KTS_sty : Sty Tryz.prog KTS 38 := by
  refine ⟨Tryz.underlying38, ?_⟩
  have h := info22
  cases hi : Tryz.prog.info? 22 with
  | none => rw [hi] at h; cases h
  | some i =>
    rw [hi] at h
    simp only [Option.map_some, Option.some.injEq, Prod.mk.injEq] at h
    exact ⟨i, _, hi, h.1, h.2.1, rfl, by omega⟩
theorem KT_same : SameOk Tryz.prog KT 16 := fun M w xs ys hx hy => by
  have hx : xs = [.int .i64 0, .int .i64 M, .int .i64 0, .slice none 0 0, .slice none 0 0] := hx
  have hy : ys = [.int .i64 0, .int .i64 M, .int .i64 0, .slice none 0 0, .slice none 0 0] := hy
  subst hx hy
  have rm : RM ty w (.agg #[.int .i64 0, .int .i64 M, .int .i64 0, .slice none 0 0, .slice none 0 0]) ⟨0, M, 0, []⟩ .nil := ⟨none, 0, 0, none, 0, 0, rfl, Rd.none_ _ _ _, Rd.none_ _ _ _⟩
  exact sameTerm_any ⟨0, M, 0, []⟩ .nil _ _ w rm rm
theorem KT_mark : MarkOk Tryz.prog KT 54 := fun k i w hk hi => (markTerm_any k i w hk hi).mono fun _ _ h => ⟨_, h.1, rfl, h.2⟩

set_option maxRecDepth 100000 in
set_option maxHeartbeats 4000000 in
theorem flat140_any (vs : List Value) (L : Nat) (ql : Option Addr) (cl : Nat) (w : World) (hvs : vs.length ≤ 10000000) (hcl : vs.length ≤ cl) (hcm : cl ≤ maxLen) (hL : ∀ (k : Nat) (v : Value), vs[k]? = some v → ql = some ⟨L, 0, none⟩ ∧ vn v ≤ 10000000)
    (hC : ¬ InV vs L ∧ ∀ W, Tn KT.em (InV vs) w W → ∀ (k : Nat) (v : Value), vs[k]? = some v → U W L k = some v) (hR : RowsG KT 0 w vs (fun _ => 0)) (hD : Dist vs) :
    Calls Tryz.prog 140 #[.slice ql vs.length cl] w fun e w' => e = .returned (.bool true) ∧ Tn KT.em (InV vs) w w' := by
  obtain ⟨m, hm⟩ : ∃ m, vs.length = m := ⟨_, rfl⟩
  have HM := Lib.hid hm
  have HC := Lib.hid hC
  have HL := Lib.hid hL
  have HMK := Lib.hid KT_mark
  have HSM := Lib.hid KT_same
  have HIN : Hid (∀ b, InV vs b → b < w.heap.size) := fun b hb => by obtain ⟨-, cur, e⟩ := hR.typed hb; exact heap_lt e
  rw [hm] at hvs hcl ⊢
  clear hm hC hL
  unfold maxLen at hcm
  go_enter Tryz.func140, Tryz.ntmps140
  go_wp2_with fail
  go_loopw [3] (fun i wr => ∃ k : Nat, k ≤ m ∧ i = .int .i64 k ∧ RowsG KT 0 wr vs (dF vs k 0) ∧ Tn KT.em (InV vs) w wr) (fun i _ => m - (intOf i).toNat)
  case atStart => exact ⟨0, Nat.zero_le _, rfl, hR.cong fun k v _ => by simp [dF], Tn.refl _ _ _⟩
  case round =>
    obtain ⟨k, hk, rfl, hRk, hTk⟩ := hrel
    clear hR
    by_cases hlt : k < m
    · have r1 : decide ((k : Int) < (m : Int)) = true := decide_eq_true (by omega)
      obtain ⟨v, hv⟩ : ∃ v, vs[k]? = some v := ⟨_, List.getElem?_eq_getElem (by have := HM.out; omega)⟩
      obtain ⟨p, n, c, rfl, hnc, hcc⟩ := (hRk k v hv).isSlice
      unfold maxLen at hcc
      obtain ⟨rfl, hn⟩ := HL.out k _ hv
      replace hn : n ≤ 10000000 := hn
      have HV := Lib.hid hv
      have HRK := Lib.hid hRk
      have HTK := Lib.hid hTk
      clear hv hRk hTk
      go_wp2_with fail
      go_loopw [4] (fun i wr => ∃ j : Nat, i = .int .i64 j ∧ j ≤ n ∧ RowsG KT 0 wr vs (dF vs k j) ∧ Tn KT.em (InV vs) w wr) (fun i _ => n - (intOf i).toNat)
      case atStart => exact ⟨0, rfl, Nat.zero_le _, HRK.out, HTK.out⟩
      case round =>
        clear HRK HTK
        obtain ⟨j, rfl, hj, hRj, hTj⟩ := hrel
        have hu := HC.out.2 _ hTj k _ HV.out
        have hc := U_cell hu
        by_cases hjn : j < n
        · have r2 : decide ((j : Int) < (n : Int)) = true := decide_eq_true (by omega)
          obtain ⟨g, rfl, hc0⟩ := (hRj k _ HV.out).lies (by omega)
          have e1 : ∀ n' : GrownX (InV vs) wr, n'.it.cell? ⟨L, k, none⟩ = some (.slice (some ⟨g, 0, none⟩) n c) := GrownX.cell hu HC.out.1
          have HRJ := Lib.hid hRj
          have HTJ := Lib.hid hTj
          clear hu hRj hTj
          go_wp2_with fail
          clear hc
          refine wp_region_take_X (InV vs) [0, 1, 2, 3, 4, 5, 6] (by decide) (by kernel_rfl) (by kernel_rfl) (by kernel_rfl) (by kernel_rfl) (fun _ _ d _ _ h => by cases d <;> exact h) ?_
          simp only [List.map_cons, List.map_nil, List.getD_cons_zero, List.getD_cons_succ, bar, readKind, List.size_toArray, List.length_cons, List.length_nil, Nat.zero_add, Nat.reduceAdd, if_true, if_false, Bool.false_eq_true]
          repeat (go_big_quiet_step (fail))
          refine wpQuiet_nil ?_
          clear e1
          refine tail_step (i := 7) (fuel := 2) (by kernel_rfl) rfl (by rfl) (fun K' hK => ?_)
          go_simp
          refine (HMK.out k j _ (by omega) (by omega)).mono ?_
          rintro e wx ⟨xs, rfl, hcel, hbx⟩
          have hAx : Below wr.heap.size wr wx := below_step (below_drew wr) hbx
          refine hK.out _ _ ⟨⟨wx, fun b hb _ => hAx.block b hb⟩, rfl⟩ (fun _ => ?_)
          clear hK K'
          have hRx := HRJ.out.below KT_ok hAx
          obtain ⟨hth, hR', hT'⟩ := RowsG.setF KT_ok hD hRx HV.out hjn hcel
          refine tail_step (i := 8) (fuel := 1) (by kernel_rfl) rfl (by rfl) (fun K' hK => ?_)
          go_simp
          refine hK.out _ _ ⟨⟨wx, fun b hb _ => hAx.block b hb⟩, rfl⟩ (fun _ => ?_)
          clear hK K'
          refine tail_step (i := 9) (fuel := 0) (by kernel_rfl) rfl (by rfl) (fun K' hK => ?_)
          refine wp_store_mid 26 _ _ rfl g (j * 5) xs.toArray rfl rfl (by rw [List.size_toArray, KT_ok.len _ _ _ hcel]; exact hth) (by rw [List.size_toArray, KT_ok.len _ _ _ hcel]; exact KT_sty.size) (all_oneCell_toArray (KT_ok.one _ _ _ hcel)) ?_
          refine hK.out _ _ ⟨⟨wx.setCells g (j * 5) xs, fun b hb hx => (hT'.block b (Nat.lt_of_lt_of_le hb hAx.size) hx).trans (hAx.block b hb)⟩, rfl⟩ (fun _ => ?_)
          clear hK K'
          refine wpAnyH_done (by kernel_rfl) ?_ _
          have HR' := Lib.hid hR'
          have HT' := Lib.hid (HTJ.out.trans ((Tn.of_below hAx).trans hT'))
          clear hth hR' hT' hRx hcel hAx hbx HRJ HTJ
          go_wp2_with fail
          go_roundw
          case rel => exact ⟨j + 1, by go_num, by omega, HR'.out, HT'.out⟩
          case measure => simp [intOf]; omega
        · have r2 : decide ((j : Int) < (n : Int)) = false := decide_eq_false (by omega)
          obtain rfl : j = n := by omega
          have HR' := Lib.hid (RowsG.dEnd HV.out hRj)
          have HT' := Lib.hid hTj
          clear hRj hTj hu
          go_wp2_with fail
          go_roundw
          case rel => exact ⟨k + 1, by omega, by go_num, HR'.out, HT'.out⟩
          case measure => simp [intOf]; omega
    · have r1 : decide ((k : Int) < (m : Int)) = false := decide_eq_false (by omega)
      obtain rfl : k = m := by omega
      have HF := Lib.hid (RowsG.full HM.out hRk)
      have HT := Lib.hid hTk
      clear hRk hTk
      obtain ⟨arr, hmk, harr⟩ := KTS_sty.make k (by omega) wr
      have hmk' : (Instr.makeSlice 38 (.int .i64 k) (.int .i64 k)).run Tryz.prog wr = .ok (.slice (some ⟨wr.heap.size, 0, none⟩) k k) (wr.alloc (.cells arr 22)) := hmk
      clear hmk
      go_wp2_with fail
      obtain ⟨w1, hw1⟩ : ∃ w1, wr.alloc (.cells arr 22) = w1 := ⟨_, rfl⟩
      obtain ⟨G, hG⟩ : ∃ G, wr.heap.size = G := ⟨_, rfl⟩
      have HGW : Hid (w.heap.size ≤ G) := Lib.hid (by rw [← hG]; exact HT.out.size)
      have HB1 : Below wr.heap.size wr w1 := by rw [← hw1]; exact below_alloc _ _
      have HF1 := Lib.hid (HF.out.below KT_ok HB1)
      have HT1 := Lib.hid (HT.out.trans (Tn.of_below HB1))
      have HG1 : Hid (Gsl KT 22 G w.heap.size w1 vs 64 64 0) := Lib.hid (by rw [← hw1, ← hG]; exact Gsl.new wr vs 64 64 (by rw [HM.out, harr]; show k * 1 = k; omega))
      rw [hw1, hG]
      clear HF HT HB1 hw1 hmk' harr
      go_loopw [6] (fun i wr => ∃ j : Nat, i = .int .i64 j ∧ j ≤ k ∧ Full KT 0 wr vs ∧ Gsl KT 22 G w.heap.size wr vs 64 64 j ∧ Tn KT.em (InV vs) w wr) (fun i _ => k - (intOf i).toNat)
      case atStart => exact ⟨0, rfl, Nat.zero_le _, HF1.out, HG1.out, HT1.out⟩
      case round =>
        clear HF1 HG1 HT1
        obtain ⟨j, rfl, hj, hF, hGs, hT⟩ := hrel
        by_cases hlt : j < k
        · have r1 : decide ((j : Int) < (k : Int)) = true := decide_eq_true (by omega)
          obtain ⟨v, hv⟩ : ∃ v, vs[j]? = some v := ⟨_, List.getElem?_eq_getElem (by have := HM.out; omega)⟩
          obtain ⟨p, n, c, rfl, hnc, hcc⟩ := (hF j v hv).isSlice
          unfold maxLen at hcc
          obtain ⟨rfl, hn⟩ := HL.out j _ hv
          replace hn : n ≤ 10000000 := hn
          have hc := U_cell (HC.out.2 _ hT j _ hv)
          have HV := Lib.hid hv
          have HF := Lib.hid hF
          have HGS := Lib.hid hGs
          have HT := Lib.hid hT
          clear hv hF hGs hT
          go_wp2_with fail
          obtain ⟨wk, hwk⟩ : ∃ wk : World, wk = wr := ⟨_, rfl⟩
          subst hwk
          go_loopw [7, 8] (fun g i wr => ∃ t : Nat, i = .int .i64 t ∧ t ≤ 64 ∧ RowI KT 0 wr (.slice p n c) n j ∧ Cur KT wk.heap.size wr (.slice p n c) g t j ∧ Tn KT.em (fun b => vb (.slice p n c) = some b) wk wr) (fun _ i _ => 64 - (intOf i).toNat)
          case atStart => exact ⟨0, rfl, by decide, HF.out j _ HV.out, .inl ⟨rfl, rfl⟩, Tn.refl _ _ _⟩
          case round =>
            obtain ⟨t, rfl, ht, hRq, hCq, hTq⟩ := hrel
            have hTv : Tn KT.em (InV vs) w wr := HT.out.trans (hTq.inV HV.out)
            have hcq := U_cell (HC.out.2 _ hTv j _ HV.out)
            have HR := Lib.hid hRq
            have HC1 := Lib.hid hCq
            have HTQ := Lib.hid hTq
            have HTV := Lib.hid hTv
            clear hRq hCq hTq hTv hc
            by_cases hlt64 : t < 64
            · have r2 : decide ((t : Int) < 64) = true := decide_eq_true (by omega)
              have HMJ : Hid (∀ W, Calls Tryz.prog 54 #[.int .i64 j, .int .i64 ((n : Int) + (t : Int))] W fun e w' => ∃ xs, e = .returned (.agg xs.toArray) ∧ KT.cel w' (mk j (n + t)) xs ∧ Below W.heap.size W w') := fun W => by
                have := HMK.out j (n + t) W (by omega) (by omega)
                rwa [Int.natCast_add] at this
              go_wp2_with fail
              refine (HMJ.out _).mono ?_
              rintro e wx ⟨xs, rfl, hcel, hbx⟩
              have hxs : xs = [.int .i64 0, .int .i64 (mk j (n + t)), .int .i64 0, .slice none 0 0, .slice none 0 0] := hcel
              obtain ⟨wy, hwy⟩ : ∃ wy, wx.alloc (.cells xs.toArray 26) = wy := ⟨_, rfl⟩
              have hby : Below wr.heap.size wr wy := by rw [← hwy]; exact below_step hbx (below_alloc _ _)
              have hnc : ∀ (i : Nat) (u : Value), xs[i]? = some u → wy.cell? ((⟨wx.heap.size, 0, none⟩ : Addr).add i) = some u := by rw [← hwy]; exact new_cells wx xs 26
              obtain ⟨g', wz, hrun, hRz, hCz, hTz⟩ := Cur.grow KT_ok KT_sty 22 (HR.out.on KT_ok (Tn.of_below (X := fun _ => False) hby) fun _ _ _ _ => id) (fun b hb => Nat.lt_of_lt_of_le (HIN.out b ⟨_, List.mem_of_getElem? HV.out, hb⟩) HT.out.size) (Nat.le_trans HTQ.out.size hby.size)
                (HC1.out.on KT_ok (Tn.of_below (X := fun _ => False) hby) fun _ _ _ _ => id) (c := 1) (by rw [← hwy]; exact KT_ok.below hcel (below_alloc _ _)) hnc (by show n + t + 1 ≤ _; omega)
              have HRZ := Lib.hid hRz
              have HCZ := Lib.hid hCz
              have HTZ := Lib.hid (HTQ.out.trans' ((Tn.of_below hby).trans hTz) fun b hb h => by
                rcases h with h | h
                · exact h
                · omega)
              clear hRz hCz hTz hcel hbx hby hnc HR HC1 HTQ HMJ
              subst hwy hxs
              go_wp2_with (at_builtin; refine wpList_append_run rfl _ _ 22 rfl _ _ _ rfl rfl hrun ?_)
              go_roundw
              case rel => exact ⟨t + 1, by go_num, by omega, HRZ.out, HCZ.out, HTZ.out⟩
              case measure => simp [intOf]; omega
            · have r2 : decide ((t : Int) < 64) = false := decide_eq_false (by omega)
              obtain rfl : t = 64 := by omega
              have hFq := Full.one KT_ok hD HF.out HV.out HTQ.out HR.out
              have hGq := Gsl.one KT_ok hD HGS.out HIN.out HGW.out HV.out HTQ.out
              obtain ⟨u, hgc, hgf⟩ := hGq.cell (k := j) (by have := HM.out; omega)
              obtain ⟨-, hG', hT'⟩ := hGq.put KT_ok (by decide) (by decide) HV.out ((HC1.out.ent (by decide)).less (Nat.le_refl _) HT.out.size)
              obtain ⟨h, cap, cur, e, -⟩ := HC1.out.ent (by decide)
              subst e
              have HG' := Lib.hid hG'
              have HF' := Lib.hid (hFq.put KT_ok HIN.out HGW.out hT')
              have HT' := Lib.hid (HTV.out.trans' hT' fun b hb e => by have := HGW.out; omega)
              clear hFq hGq hG' hT' HR HC1 HTQ HTV HF HGS HT hcq
              go_wp2_with fail
              go_roundw
              case rel => exact ⟨j + 1, by go_num, by omega, HF'.out, HG'.out, HT'.out⟩
              case measure => simp [intOf]; omega
        · have r1 : decide ((j : Int) < (k : Int)) = false := decide_eq_false (by omega)
          obtain rfl : j = k := by omega
          have HF := Lib.hid hF
          have HGS := Lib.hid hGs
          have HT := Lib.hid hT
          clear hF hGs hT
          go_wp2_with fail
          obtain ⟨w3, hw3⟩ : ∃ w3 : World, w3 = wr := ⟨_, rfl⟩
          subst hw3
          obtain ⟨m, hm⟩ : ∃ m : Nat, m = j := ⟨_, rfl⟩
          subst hm
          clear hlt
          go_loopw [9] (fun i wr => ∃ j : Nat, i = .int .i64 j ∧ j ≤ m ∧ Below w3.heap.size w3 wr) (fun i _ => m - (intOf i).toNat)
          case atStart => exact ⟨0, rfl, Nat.zero_le _, Below.refl _ _⟩
          case round =>
            obtain ⟨j, rfl, hj, hB⟩ := hrel
            by_cases hlt : j < m
            · have r1 : decide ((j : Int) < (m : Int)) = true := decide_eq_true (by omega)
              obtain ⟨v, hv⟩ : ∃ v, vs[j]? = some v := ⟨_, List.getElem?_eq_getElem (by have := HM.out; omega)⟩
              obtain ⟨p, n, c, rfl, hnc, hcc⟩ := (HF.out j v hv).isSlice
              unfold maxLen at hcc
              obtain ⟨rfl, hn⟩ := HL.out j _ hv
              replace hn : n ≤ 10000000 := hn
              have HV := Lib.hid hv
              have HB := Lib.hid hB
              clear hv hB
              obtain ⟨u, hgc, hgf, hE⟩ := HGS.out.get hlt HV.out
              obtain ⟨h, cap, cur, rfl, -, -, hq1, hq2, -⟩ := id hE
              unfold maxLen at hq2
              replace hq1 : n + 64 ≤ cap := hq1
              have HU : Hid (U w3 G j = some (.slice (some ⟨h, 0, none⟩) (n + 64) cap)) := Lib.hid (U_mk hgc hgf)
              have HE := Lib.hid hE
              clear hgc hgf hE
              go_wp2_with fail
              go_loopw [10] (fun i wr => ∃ t : Nat, i = .int .i64 t ∧ t ≤ n + 64 ∧ Below w3.heap.size w3 wr) (fun i _ => n + 64 - (intOf i).toNat)
              case atStart => exact ⟨0, rfl, Nat.zero_le _, HB.out⟩
              case round =>
                clear HB
                obtain ⟨t, rfl, ht, hB⟩ := hrel
                have hug := U_below hB _ _ _ (U_lt HU.out) HU.out
                have hgc := U_cell hug
                have hul := HC.out.2 _ (HT.out.trans (Tn.of_below hB)) j _ HV.out
                have HB := Lib.hid hB
                clear hB
                by_cases htn : t < n + 64
                · have r2 : decide ((t : Int) < (n : Int) + 64) = true := decide_eq_true (by omega)
                  have q1 : (0 : Int) ≤ (t : Int) := by omega
                  have q2 : (t : Int) < (n : Int) + 64 := by omega
                  obtain ⟨xs, hcel, hrg⟩ := HE.out.getU (show t < vn (.slice p n c) + 64 from htn)
                  have HCEL := Lib.hid hcel
                  have HRG := Lib.hid hrg
                  clear hcel hrg
                  have hxs : xs = [.int .i64 0, .int .i64 (mk j t), .int .i64 0, .slice none 0 0, .slice none 0 0] := HCEL.out
                  subst hxs
                  have c0 : ∀ n' : GrownB wr.heap.size wr, n'.it.cell? ⟨h, t * 5, none⟩ = some (.int .i64 0) := GrownB.cell (U_below HB.out _ _ _ (U_lt (HRG.out 0 _ rfl)) (HRG.out 0 _ rfl)) (Nat.lt_of_lt_of_le (U_lt (HRG.out 0 _ rfl)) HB.out.size)
                  have c1 : ∀ n' : GrownB wr.heap.size wr, n'.it.cell? ⟨h, t * 5 + 1, none⟩ = some (.int .i64 (mk j t)) := GrownB.cell (U_below HB.out _ _ _ (U_lt (HRG.out 1 _ rfl)) (HRG.out 1 _ rfl)) (Nat.lt_of_lt_of_le (U_lt (HRG.out 1 _ rfl)) HB.out.size)
                  have c2 : ∀ n' : GrownB wr.heap.size wr, n'.it.cell? ⟨h, t * 5 + 2, none⟩ = some (.int .i64 0) := GrownB.cell (U_below HB.out _ _ _ (U_lt (HRG.out 2 _ rfl)) (HRG.out 2 _ rfl)) (Nat.lt_of_lt_of_le (U_lt (HRG.out 2 _ rfl)) HB.out.size)
                  have c3 : ∀ n' : GrownB wr.heap.size wr, n'.it.cell? ⟨h, t * 5 + 3, none⟩ = some (.slice none 0 0) := GrownB.cell (U_below HB.out _ _ _ (U_lt (HRG.out 3 _ rfl)) (HRG.out 3 _ rfl)) (Nat.lt_of_lt_of_le (U_lt (HRG.out 3 _ rfl)) HB.out.size)
                  have c4 : ∀ n' : GrownB wr.heap.size wr, n'.it.cell? ⟨h, t * 5 + 4, none⟩ = some (.slice none 0 0) := GrownB.cell (U_below HB.out _ _ _ (U_lt (HRG.out 4 _ rfl)) (HRG.out 4 _ rfl)) (Nat.lt_of_lt_of_le (U_lt (HRG.out 4 _ rfl)) HB.out.size)
                  have hgB := GrownB.cell hug (U_lt hug)
                  have hlB := GrownB.cell hul (U_lt hul)
                  clear hug hul
                  go_wp2_with fail
                  refine wp_region_take_I wr.heap.size [0, 1, 2, 3, 4, 5, 6, 7, 8] (by decide) (by kernel_rfl) (by kernel_rfl) (by kernel_rfl) (by kernel_rfl) (fun _ _ d _ _ h => by cases d <;> exact h) ?_
                  simp only [List.map_cons, List.map_nil, List.getD_cons_zero, List.getD_cons_succ, bar, readKind, List.size_toArray, List.length_cons, List.length_nil, Nat.zero_add, Nat.reduceAdd, if_true, if_false, Bool.false_eq_true]
                  repeat (go_big_quiet_step (fail))
                  refine wpQuiet_nil ?_
                  refine tail_step (i := 9) (fuel := 25) (by kernel_rfl) rfl (by rfl) (fun K' hK => ?_)
                  go_simp
                  refine (HMK.out j t _ (by omega) (by omega)).mono ?_
                  rintro e wx ⟨ys, rfl, hcy, hbx⟩
                  have hAx : Below wr.heap.size wr wx := below_step (below_drew wr) hbx
                  refine hK.out _ _ ⟨⟨wx, hAx⟩, rfl⟩ (fun _ => ?_)
                  clear hK K'
                  refine tail_step (i := 10) (fuel := 24) (by kernel_rfl) rfl (by rfl) (fun K' hK => ?_)
                  go_simp
                  refine (HSM.out _ wx _ _ (KT_ok.below HCEL.out (below_step HB.out hAx)) hcy).mono ?_
                  rintro e wy ⟨rfl, hby⟩
                  have hAy : Below wr.heap.size wr wy := below_step hAx hby
                  refine hK.out _ _ ⟨⟨wy, hAy⟩, rfl⟩ (fun _ => ?_)
                  clear hK K' hcy hbx hby hAx hgB c0 c1 c2 c3 c4
                  by_cases htk : t < n
                  · have r3 : decide ((t : Int) < (n : Int)) = true := decide_eq_true (by omega)
                    have q3 : (t : Int) < (n : Int) := by omega
                    obtain ⟨g, rfl, -⟩ := (HF.out j _ HV.out).lies (by omega)
                    obtain ⟨xs, hcel, hrg⟩ := (HF.out j _ HV.out).getU (show t < vn (.slice (some ⟨g, 0, none⟩) n c) from htk)
                    have HCEL2 := Lib.hid hcel
                    have HRG2 := Lib.hid hrg
                    clear hcel hrg HCEL HRG
                    have hxs : xs = [.int .i64 0, .int .i64 (mk j t), .int .i64 0, .slice none 0 0, .slice none 0 0] := HCEL2.out
                    subst hxs
                    have d0 : ∀ n' : GrownB wr.heap.size wr, n'.it.cell? ⟨g, t * 5, none⟩ = some (.int .i64 0) := GrownB.cell (U_below HB.out _ _ _ (U_lt (HRG2.out 0 _ rfl)) (HRG2.out 0 _ rfl)) (Nat.lt_of_lt_of_le (U_lt (HRG2.out 0 _ rfl)) HB.out.size)
                    have d1 : ∀ n' : GrownB wr.heap.size wr, n'.it.cell? ⟨g, t * 5 + 1, none⟩ = some (.int .i64 (mk j t)) := GrownB.cell (U_below HB.out _ _ _ (U_lt (HRG2.out 1 _ rfl)) (HRG2.out 1 _ rfl)) (Nat.lt_of_lt_of_le (U_lt (HRG2.out 1 _ rfl)) HB.out.size)
                    have d2 : ∀ n' : GrownB wr.heap.size wr, n'.it.cell? ⟨g, t * 5 + 2, none⟩ = some (.int .i64 0) := GrownB.cell (U_below HB.out _ _ _ (U_lt (HRG2.out 2 _ rfl)) (HRG2.out 2 _ rfl)) (Nat.lt_of_lt_of_le (U_lt (HRG2.out 2 _ rfl)) HB.out.size)
                    have d3 : ∀ n' : GrownB wr.heap.size wr, n'.it.cell? ⟨g, t * 5 + 3, none⟩ = some (.slice none 0 0) := GrownB.cell (U_below HB.out _ _ _ (U_lt (HRG2.out 3 _ rfl)) (HRG2.out 3 _ rfl)) (Nat.lt_of_lt_of_le (U_lt (HRG2.out 3 _ rfl)) HB.out.size)
                    have d4 : ∀ n' : GrownB wr.heap.size wr, n'.it.cell? ⟨g, t * 5 + 4, none⟩ = some (.slice none 0 0) := GrownB.cell (U_below HB.out _ _ _ (U_lt (HRG2.out 4 _ rfl)) (HRG2.out 4 _ rfl)) (Nat.lt_of_lt_of_le (U_lt (HRG2.out 4 _ rfl)) HB.out.size)
                    refine takeReadsL (by kernel_rfl) (fun _ _ d _ _ h => by cases d <;> exact h) ⟨⟨wy, hAy⟩, rfl⟩ 5 [11, 12, 13, 14, 15, 16, 17, 18, 19, 20, 21, 22, 23, 24, 25, 26, 27, 28, 29] _ _ (by kernel_rfl) (by kernel_rfl) ?_
                    simp only [List.map_cons, List.map_nil, List.getD_cons_zero, List.getD_cons_succ, bar, readKind, List.size_toArray, List.length_cons, List.length_nil, Nat.zero_add, Nat.reduceAdd, if_true, if_false, Bool.false_eq_true]
                    repeat (go_big_quiet_step (fail))
                    refine wpQuiet_nil ?_
                    clear d0 d1 d2 d3 d4
                    refine tail_step (i := 30) (fuel := 4) (by kernel_rfl) rfl (by rfl) (fun K' hK => ?_)
                    go_simp
                    refine (HMK.out j t _ (by omega) (by omega)).mono ?_
                    rintro e wz ⟨ys, rfl, hcy, hbz⟩
                    have hAz : Below wr.heap.size wr wz := below_step hAy hbz
                    refine hK.out _ _ ⟨⟨wz, hAz⟩, rfl⟩ (fun _ => ?_)
                    clear hK K'
                    refine tail_step (i := 31) (fuel := 3) (by kernel_rfl) rfl (by rfl) (fun K' hK => ?_)
                    go_simp
                    refine (HSM.out _ wz _ _ (KT_ok.below HCEL2.out (below_step HB.out hAz)) hcy).mono ?_
                    rintro e wv ⟨rfl, hbv⟩
                    have hAv : Below wr.heap.size wr wv := below_step hAz hbv
                    refine hK.out _ _ ⟨⟨wv, hAv⟩, rfl⟩ (fun _ => ?_)
                    clear hK K' hcy hbz hbv hAz
                    refine takeReadsL (by kernel_rfl) (fun _ _ d _ _ h => by cases d <;> exact h) ⟨⟨wv, hAv⟩, rfl⟩ 0 [32, 33, 34] _ _ (by kernel_rfl) (by kernel_rfl) ?_
                    simp only [List.map_cons, List.map_nil, List.getD_cons_zero, List.getD_cons_succ, bar, readKind, List.size_toArray, List.length_cons, List.length_nil, Nat.zero_add, Nat.reduceAdd, if_true, if_false, Bool.false_eq_true]
                    repeat (go_big_quiet_step (fail))
                    refine wpQuiet_nil ?_
                    refine wpAnyH_done (by kernel_rfl) ?_ _
                    have HAV := Lib.hid hAv
                    clear hAv hAy
                    go_wp2_with fail
                    go_roundw
                    case rel => exact ⟨t + 1, by go_num, by omega, below_step HB.out HAV.out⟩
                    case measure => simp [intOf]; omega
                  · have r3 : decide ((t : Int) < (n : Int)) = false := decide_eq_false (by omega)
                    refine takeReadsL (by kernel_rfl) (fun _ _ d _ _ h => by cases d <;> exact h) ⟨⟨wy, hAy⟩, rfl⟩ 0 [11, 12, 13, 14, 15, 16, 17, 18, 19, 20, 21, 22, 23, 24, 25, 26, 27, 28, 29, 30, 31, 32, 33, 34] _ _ (by kernel_rfl) (by kernel_rfl) ?_
                    simp only [List.map_cons, List.map_nil, List.getD_cons_zero, List.getD_cons_succ, bar, readKind, List.size_toArray, List.length_cons, List.length_nil, Nat.zero_add, Nat.reduceAdd, if_true, if_false, Bool.false_eq_true]
                    repeat (go_big_quiet_step (fail))
                    refine wpQuiet_nil ?_
                    refine wpAnyH_done (by kernel_rfl) ?_ _
                    have HAY := Lib.hid hAy
                    clear hAy
                    go_wp2_with fail
                    go_roundw
                    case rel => exact ⟨t + 1, by go_num, by omega, below_step HB.out HAY.out⟩
                    case measure => simp [intOf]; omega
                · have r2 : decide ((t : Int) < (n : Int) + 64) = false := decide_eq_false (by omega)
                  clear hug hul
                  go_wp2_with fail
                  go_roundw
                  case rel => exact ⟨j + 1, by go_num, by omega, HB.out⟩
                  case measure => simp [intOf]; omega
            · have r1 : decide ((j : Int) < (m : Int)) = false := decide_eq_false (by omega)
              obtain rfl : j = m := by omega
              go_wp2_with fail
              obtain ⟨w4, hw4⟩ : ∃ w4 : World, w4 = wr := ⟨_, rfl⟩
              subst hw4
              obtain ⟨m, hm⟩ : ∃ m : Nat, m = j := ⟨_, rfl⟩
              subst hm
              have HF4 := Lib.hid (HF.out.below KT_ok hB)
              have HG4 := Lib.hid ((HGS.out.start (d' := 0) (x' := 64)).below KT_ok hB)
              have HT4 := Lib.hid (HT.out.trans (Tn.of_below hB))
              clear HF HGS HT hB hlt
              go_loopw [11] (fun i wr => ∃ j : Nat, i = .int .i64 j ∧ j ≤ m ∧ Full KT 0 wr vs ∧ Gsl KT 22 G w.heap.size wr vs 0 64 j ∧ Tn KT.em (InV vs) w wr) (fun i _ => m - (intOf i).toNat)
              case atStart => exact ⟨0, rfl, Nat.zero_le _, HF4.out, HG4.out, HT4.out⟩
              case round =>
                clear HF4 HG4 HT4
                obtain ⟨j, rfl, hj, hF, hGs, hT⟩ := hrel
                by_cases hlt : j < m
                · have r1 : decide ((j : Int) < (m : Int)) = true := decide_eq_true (by omega)
                  obtain ⟨v, hv⟩ : ∃ v, vs[j]? = some v := ⟨_, List.getElem?_eq_getElem (by have := HM.out; omega)⟩
                  obtain ⟨p, n, c, rfl, hnc, hcc⟩ := (hF j v hv).isSlice
                  unfold maxLen at hcc
                  obtain ⟨rfl, hn⟩ := HL.out j _ hv
                  replace hn : n ≤ 10000000 := hn
                  have HV := Lib.hid hv
                  have HF := Lib.hid hF
                  have HGS := Lib.hid hGs
                  have HT := Lib.hid hT
                  clear hv hF hGs hT
                  obtain ⟨arr2, hmk2, harr2⟩ := KT_sty.make 64 (by decide) wr
                  have hmk2' : (Instr.makeSlice 22 (.int .i64 64) (.int .i64 64)).run Tryz.prog wr = .ok (.slice (some ⟨wr.heap.size, 0, none⟩) 64 64) (wr.alloc (.cells arr2 26)) := hmk2
                  clear hmk2
                  go_wp2_with fail
                  obtain ⟨wk, hwk⟩ : ∃ wk : World, wk = wr := ⟨_, rfl⟩
                  subst hwk
                  obtain ⟨w5, hw5⟩ : ∃ w5, wk.alloc (.cells arr2 26) = w5 := ⟨_, rfl⟩
                  obtain ⟨B, hBq⟩ : ∃ B, wk.heap.size = B := ⟨_, rfl⟩
                  have HB5 : Hid (Below wk.heap.size wk w5) := Lib.hid (by rw [← hw5]; exact below_alloc _ _)
                  have HR5 : Hid (RowI KT B w5 (.slice (some ⟨B, 0, none⟩) 64 64) 0 (j + m)) := Lib.hid (by rw [← hw5, ← hBq]; exact RowI.new wk 64 (j + m) harr2 (by decide) (by decide))
                  have HBq := Lib.hid hBq
                  rw [hw5, hBq]
                  clear hw5 hmk2' harr2 hBq
                  go_loopw [13] (fun i wr => ∃ t : Nat, i = .int .i64 t ∧ t ≤ 64 ∧ RowI KT B wr (.slice (some ⟨B, 0, none⟩) 64 64) t (j + m) ∧ Below wk.heap.size wk wr) (fun i _ => 64 - (intOf i).toNat)
                  case atStart => exact ⟨0, rfl, by decide, HR5.out, HB5.out⟩
                  case round =>
                    clear HR5 HB5
                    obtain ⟨t, rfl, ht, hR5, hB⟩ := hrel
                    have HR5 := Lib.hid hR5
                    have HB := Lib.hid hB
                    clear hR5 hB
                    by_cases hlt64 : t < 64
                    · have r2 : decide ((t : Int) < 64) = true := decide_eq_true (by omega)
                      have HMJ : Hid (∀ W, Calls Tryz.prog 54 #[.int .i64 ((j : Int) + (m : Int)), .int .i64 t] W fun e w' => ∃ xs, e = .returned (.agg xs.toArray) ∧ KT.cel w' (mk (j + m) t) xs ∧ Below W.heap.size W w') := fun W => by
                        have := HMK.out (j + m) t W (by omega) (by omega)
                        rwa [Int.natCast_add] at this
                      go_wp2_with fail
                      refine (HMJ.out _).mono ?_
                      rintro e wx ⟨xs, rfl, hcel, hbx⟩
                      have hRx := HR5.out.on KT_ok (Tn.of_below (X := fun _ => False) hbx) fun _ _ _ _ => id
                      obtain ⟨hth, hR', hT'⟩ := hRx.set KT_ok hlt64 hcel
                      have hth' : wx.there B (t * 5) xs.toArray.size := by rw [List.size_toArray, KT_ok.len _ _ _ hcel]; exact hth
                      have hsz' : (Tryz.prog.info? 26).map (·.size) = some xs.toArray.size := by rw [List.size_toArray, KT_ok.len _ _ _ hcel]; exact KT_sty.size
                      have hon' := all_oneCell_toArray (KT_ok.one _ _ _ hcel)
                      have HR' := Lib.hid hR'
                      have HB' : Hid (Below wk.heap.size wk (wx.setCells B (t * 5) xs)) := Lib.hid (below_step' HB.out hbx hT' HBq.out)
                      clear hRx hth hR' hT' hcel hbx HR5 HB HMJ
                      go_wp2_with (refine wpList_store_mid rfl 26 _ _ rfl B (t * 5) xs.toArray rfl rfl hth' hsz' hon' ?_)
                      go_roundw
                      case rel => exact ⟨t + 1, by go_num, by omega, HR'.out, HB'.out⟩
                      case measure => simp [intOf]; omega
                    · have r2 : decide ((t : Int) < 64) = false := decide_eq_false (by omega)
                      obtain rfl : t = 64 := by omega
                      obtain ⟨news, hl, hnews, hone⟩ := HR5.out.all KT_ok (by decide)
                      have hc := U_cell (HC.out.2 _ (HT.out.trans (Tn.of_below HB.out)) j _ HV.out)
                      obtain ⟨g', w6, hrun, hR6, hE6, hT6⟩ := ((HF.out.below KT_ok HB.out) j _ HV.out).many KT_ok KT_sty 22 (c := 64) hl (by decide) hnews hone (by show n + 64 ≤ _; omega)
                      have hF6 := Full.one KT_ok hD (HF.out.below KT_ok HB.out) HV.out hT6 hR6
                      have hG6 := Gsl.one KT_ok hD (HGS.out.below KT_ok HB.out) HIN.out HGW.out HV.out hT6
                      obtain ⟨u, hgc, hgf⟩ := hG6.cell (k := j) (by have := HM.out; omega)
                      obtain ⟨-, hG', hT'⟩ := hG6.put KT_ok (by decide) (by decide) HV.out (hE6.less (Nat.le_refl _) (Nat.le_trans HT.out.size HB.out.size))
                      obtain ⟨h, cap, cur, e, -⟩ := hE6
                      subst e
                      have HG' := Lib.hid hG'
                      have HF' := Lib.hid (hF6.put KT_ok HIN.out HGW.out hT')
                      have HT' := Lib.hid ((((HT.out.trans (Tn.of_below HB.out)).trans (hT6.inV HV.out))).trans' hT' fun b hb e => by have := HGW.out; omega)
                      clear hF6 hG6 hG' hT' hT6 hR6 HR5 HB HF HGS HT hl hnews hone
                      go_wp2_with (at_builtin; refine wpList_append_run rfl _ _ 22 rfl _ _ _ rfl rfl hrun ?_)
                      go_roundw
                      case rel => exact ⟨j + 1, by go_num, by omega, HF'.out, HG'.out, HT'.out⟩
                      case measure => simp [intOf]; omega
                · have r1 : decide ((j : Int) < (m : Int)) = false := decide_eq_false (by omega)
                  obtain rfl : j = m := by omega
                  have HF := Lib.hid hF
                  have HGS := Lib.hid hGs
                  have HT := Lib.hid hT
                  clear hF hGs hT
                  go_wp2_with fail
                  obtain ⟨w7, hw7⟩ : ∃ w7 : World, w7 = wr := ⟨_, rfl⟩
                  subst hw7
                  obtain ⟨m, hm⟩ : ∃ m : Nat, m = j := ⟨_, rfl⟩
                  subst hm
                  clear hlt
                  go_loopw [14] (fun i wr => ∃ j : Nat, i = .int .i64 j ∧ j ≤ m ∧ Below w7.heap.size w7 wr) (fun i _ => m - (intOf i).toNat)
                  case atStart => exact ⟨0, rfl, Nat.zero_le _, Below.refl _ _⟩
                  case round =>
                    obtain ⟨j, rfl, hj, hB⟩ := hrel
                    by_cases hlt : j < m
                    · have r1 : decide ((j : Int) < (m : Int)) = true := decide_eq_true (by omega)
                      obtain ⟨v, hv⟩ : ∃ v, vs[j]? = some v := ⟨_, List.getElem?_eq_getElem (by have := HM.out; omega)⟩
                      obtain ⟨p, n, c, rfl, hnc, hcc⟩ := (HF.out j v hv).isSlice
                      unfold maxLen at hcc
                      obtain ⟨rfl, hn⟩ := HL.out j _ hv
                      replace hn : n ≤ 10000000 := hn
                      have HV := Lib.hid hv
                      have HB := Lib.hid hB
                      clear hv hB
                      obtain ⟨u, hgc, hgf, hE⟩ := HGS.out.get hlt HV.out
                      obtain ⟨h, cap, cur, rfl, -, -, hq1, hq2, -⟩ := id hE
                      unfold maxLen at hq2
                      replace hq1 : n + 64 ≤ cap := hq1
                      have HU : Hid (U w7 G j = some (.slice (some ⟨h, 0, none⟩) (n + 64) cap)) := Lib.hid (U_mk hgc hgf)
                      have HE := Lib.hid hE
                      clear hgc hgf hE
                      go_wp2_with fail
                      go_loopw [15] (fun i wr => ∃ t : Nat, i = .int .i64 t ∧ t ≤ n ∧ Below w7.heap.size w7 wr) (fun i _ => n - (intOf i).toNat)
                      case atStart => exact ⟨0, rfl, Nat.zero_le _, HB.out⟩
                      case round =>
                        clear HB
                        obtain ⟨t, rfl, ht, hB⟩ := hrel
                        have hug := U_below hB _ _ _ (U_lt HU.out) HU.out
                        have hul := HC.out.2 _ (HT.out.trans (Tn.of_below hB)) j _ HV.out
                        have hlc := U_cell hul
                        have HB := Lib.hid hB
                        clear hB
                        by_cases htn : t < n
                        · have r2 : decide ((t : Int) < (n : Int)) = true := decide_eq_true (by omega)
                          have q1 : (0 : Int) ≤ (t : Int) := by omega
                          have q2 : (t : Int) < (n : Int) + 64 := by omega
                          have q3 : (t : Int) < (n : Int) := by omega
                          obtain ⟨g, rfl, -⟩ := (HF.out j _ HV.out).lies (by omega)
                          obtain ⟨xs, hcel, hrg⟩ := (HF.out j _ HV.out).getU (show t < vn (.slice (some ⟨g, 0, none⟩) n c) from htn)
                          have HCEL := Lib.hid hcel
                          have HRG := Lib.hid hrg
                          clear hcel hrg
                          have hxs : xs = [.int .i64 0, .int .i64 (mk j t), .int .i64 0, .slice none 0 0, .slice none 0 0] := HCEL.out
                          subst hxs
                          have c0 : ∀ n' : GrownB wr.heap.size wr, n'.it.cell? ⟨g, t * 5, none⟩ = some (.int .i64 0) := GrownB.cell (U_below HB.out _ _ _ (U_lt (HRG.out 0 _ rfl)) (HRG.out 0 _ rfl)) (Nat.lt_of_lt_of_le (U_lt (HRG.out 0 _ rfl)) HB.out.size)
                          have c1 : ∀ n' : GrownB wr.heap.size wr, n'.it.cell? ⟨g, t * 5 + 1, none⟩ = some (.int .i64 (mk j t)) := GrownB.cell (U_below HB.out _ _ _ (U_lt (HRG.out 1 _ rfl)) (HRG.out 1 _ rfl)) (Nat.lt_of_lt_of_le (U_lt (HRG.out 1 _ rfl)) HB.out.size)
                          have c2 : ∀ n' : GrownB wr.heap.size wr, n'.it.cell? ⟨g, t * 5 + 2, none⟩ = some (.int .i64 0) := GrownB.cell (U_below HB.out _ _ _ (U_lt (HRG.out 2 _ rfl)) (HRG.out 2 _ rfl)) (Nat.lt_of_lt_of_le (U_lt (HRG.out 2 _ rfl)) HB.out.size)
                          have c3 : ∀ n' : GrownB wr.heap.size wr, n'.it.cell? ⟨g, t * 5 + 3, none⟩ = some (.slice none 0 0) := GrownB.cell (U_below HB.out _ _ _ (U_lt (HRG.out 3 _ rfl)) (HRG.out 3 _ rfl)) (Nat.lt_of_lt_of_le (U_lt (HRG.out 3 _ rfl)) HB.out.size)
                          have c4 : ∀ n' : GrownB wr.heap.size wr, n'.it.cell? ⟨g, t * 5 + 4, none⟩ = some (.slice none 0 0) := GrownB.cell (U_below HB.out _ _ _ (U_lt (HRG.out 4 _ rfl)) (HRG.out 4 _ rfl)) (Nat.lt_of_lt_of_le (U_lt (HRG.out 4 _ rfl)) HB.out.size)
                          obtain ⟨xs, hcel, hrg⟩ := HE.out.getU (show t < vn (.slice (some ⟨g, 0, none⟩) n c) + 0 from htn)
                          have HCEL2 := Lib.hid hcel
                          have HRG2 := Lib.hid hrg
                          clear hcel hrg
                          have hxs : xs = [.int .i64 0, .int .i64 (mk j t), .int .i64 0, .slice none 0 0, .slice none 0 0] := HCEL2.out
                          subst hxs
                          have d0 : ∀ n' : GrownB wr.heap.size wr, n'.it.cell? ⟨h, t * 5, none⟩ = some (.int .i64 0) := GrownB.cell (U_below HB.out _ _ _ (U_lt (HRG2.out 0 _ rfl)) (HRG2.out 0 _ rfl)) (Nat.lt_of_lt_of_le (U_lt (HRG2.out 0 _ rfl)) HB.out.size)
                          have d1 : ∀ n' : GrownB wr.heap.size wr, n'.it.cell? ⟨h, t * 5 + 1, none⟩ = some (.int .i64 (mk j t)) := GrownB.cell (U_below HB.out _ _ _ (U_lt (HRG2.out 1 _ rfl)) (HRG2.out 1 _ rfl)) (Nat.lt_of_lt_of_le (U_lt (HRG2.out 1 _ rfl)) HB.out.size)
                          have d2 : ∀ n' : GrownB wr.heap.size wr, n'.it.cell? ⟨h, t * 5 + 2, none⟩ = some (.int .i64 0) := GrownB.cell (U_below HB.out _ _ _ (U_lt (HRG2.out 2 _ rfl)) (HRG2.out 2 _ rfl)) (Nat.lt_of_lt_of_le (U_lt (HRG2.out 2 _ rfl)) HB.out.size)
                          have d3 : ∀ n' : GrownB wr.heap.size wr, n'.it.cell? ⟨h, t * 5 + 3, none⟩ = some (.slice none 0 0) := GrownB.cell (U_below HB.out _ _ _ (U_lt (HRG2.out 3 _ rfl)) (HRG2.out 3 _ rfl)) (Nat.lt_of_lt_of_le (U_lt (HRG2.out 3 _ rfl)) HB.out.size)
                          have d4 : ∀ n' : GrownB wr.heap.size wr, n'.it.cell? ⟨h, t * 5 + 4, none⟩ = some (.slice none 0 0) := GrownB.cell (U_below HB.out _ _ _ (U_lt (HRG2.out 4 _ rfl)) (HRG2.out 4 _ rfl)) (Nat.lt_of_lt_of_le (U_lt (HRG2.out 4 _ rfl)) HB.out.size)
                          have hgB := GrownB.cell hug (U_lt hug)
                          have hlB := GrownB.cell hul (U_lt hul)
                          clear hug hul
                          go_wp2_with fail
                          refine wp_region_take_I wr.heap.size [0, 1, 2, 3, 4, 5, 6, 7, 8] (by decide) (by kernel_rfl) (by kernel_rfl) (by kernel_rfl) (by kernel_rfl) (fun _ _ d _ _ h => by cases d <;> exact h) ?_
                          simp only [List.map_cons, List.map_nil, List.getD_cons_zero, List.getD_cons_succ, bar, readKind, List.size_toArray, List.length_cons, List.length_nil, Nat.zero_add, Nat.reduceAdd, if_true, if_false, Bool.false_eq_true]
                          repeat (go_big_quiet_step (fail))
                          refine wpQuiet_nil ?_
                          clear c0 c1 c2 c3 c4
                          refine tail_step (i := 9) (fuel := 16) (by kernel_rfl) rfl (by rfl) (fun K' hK => ?_)
                          go_simp
                          refine (HMK.out j t _ (by omega) (by omega)).mono ?_
                          rintro e wx ⟨ys, rfl, hcy, hbx⟩
                          have hAx : Below wr.heap.size wr wx := below_step (below_drew wr) hbx
                          refine hK.out _ _ ⟨⟨wx, hAx⟩, rfl⟩ (fun _ => ?_)
                          clear hK K'
                          refine tail_step (i := 10) (fuel := 15) (by kernel_rfl) rfl (by rfl) (fun K' hK => ?_)
                          go_simp
                          refine (HSM.out _ wx _ _ (KT_ok.below HCEL.out (below_step HB.out hAx)) hcy).mono ?_
                          rintro e wy ⟨rfl, hby⟩
                          have hAy : Below wr.heap.size wr wy := below_step hAx hby
                          refine hK.out _ _ ⟨⟨wy, hAy⟩, rfl⟩ (fun _ => ?_)
                          clear hK K' hcy hbx hby hAx
                          refine takeReadsL (by kernel_rfl) (fun _ _ d _ _ h => by cases d <;> exact h) ⟨⟨wy, hAy⟩, rfl⟩ 4 [11, 12, 13, 14, 15, 16, 17, 18, 19, 20, 21] _ _ (by kernel_rfl) (by kernel_rfl) ?_
                          simp only [List.map_cons, List.map_nil, List.getD_cons_zero, List.getD_cons_succ, bar, readKind, List.size_toArray, List.length_cons, List.length_nil, Nat.zero_add, Nat.reduceAdd, if_true, if_false, Bool.false_eq_true]
                          repeat (go_big_quiet_step (fail))
                          refine wpQuiet_nil ?_
                          clear d0 d1 d2 d3 d4 hgB
                          refine tail_step (i := 22) (fuel := 3) (by kernel_rfl) rfl (by rfl) (fun K' hK => ?_)
                          go_simp
                          refine (HMK.out j t _ (by omega) (by omega)).mono ?_
                          rintro e wz ⟨ys, rfl, hcy, hbz⟩
                          have hAz : Below wr.heap.size wr wz := below_step hAy hbz
                          refine hK.out _ _ ⟨⟨wz, hAz⟩, rfl⟩ (fun _ => ?_)
                          clear hK K'
                          refine tail_step (i := 23) (fuel := 2) (by kernel_rfl) rfl (by rfl) (fun K' hK => ?_)
                          go_simp
                          refine (HSM.out _ wz _ _ (KT_ok.below HCEL2.out (below_step HB.out hAz)) hcy).mono ?_
                          rintro e wv ⟨rfl, hbv⟩
                          have hAv : Below wr.heap.size wr wv := below_step hAz hbv
                          refine hK.out _ _ ⟨⟨wv, hAv⟩, rfl⟩ (fun _ => ?_)
                          clear hK K' hcy hbz hbv hAz
                          refine takeReadsL (by kernel_rfl) (fun _ _ d _ _ h => by cases d <;> exact h) ⟨⟨wv, hAv⟩, rfl⟩ 0 [24, 25] _ _ (by kernel_rfl) (by kernel_rfl) ?_
                          simp only [List.map_cons, List.map_nil, List.getD_cons_zero, List.getD_cons_succ, bar, readKind, List.size_toArray, List.length_cons, List.length_nil, Nat.zero_add, Nat.reduceAdd, if_true, if_false, Bool.false_eq_true]
                          repeat (go_big_quiet_step (fail))
                          refine wpQuiet_nil ?_
                          refine wpAnyH_done (by kernel_rfl) ?_ _
                          have HAV := Lib.hid hAv
                          clear hAv hAy
                          go_wp2_with fail
                          go_roundw
                          case rel => exact ⟨t + 1, by go_num, by omega, below_step HB.out HAV.out⟩
                          case measure => simp [intOf]; omega
                        · have r2 : decide ((t : Int) < (n : Int)) = false := decide_eq_false (by omega)
                          clear hug hul
                          go_wp2_with fail
                          go_roundw
                          case rel => exact ⟨j + 1, by go_num, by omega, HB.out⟩
                          case measure => simp [intOf]; omega
                    · have r1 : decide ((j : Int) < (m : Int)) = false := decide_eq_false (by omega)
                      have HB := Lib.hid hB
                      clear hB
                      go_wp2_with fail
                      go_ret
                      exact ⟨rfl, HT.out.trans (Tn.of_below HB.out)⟩
end Go.Proofs.YtkcmapimcgppmaaGreatDoor
end
section
namespace Go.Proofs.YtkcmapimcgppmaaGreatDoor
open Go.RowKit

/-- What lies below B0 is as F says. -/
def Lies (F : Mem) (B0 : Nat) (w : World) : Prop := ∀ b o u, b < B0 → F b o = some u → U w b o = some u
theorem Lies.on {F : Mem} {B0 : Nat} {w w' : World} (h : Lies F B0 w) (hb : Below B0 w w') : Lies F B0 w' := fun b o u hl hu => U_below hb b o u hl (h b o u hl hu)

set_option maxHeartbeats 1000000 in
theorem putParts_any (β B0 : Nat) (f : Nat → List Value) (p : Option Addr) (n c : Nat) (w : World) (h : BagAt w β B0 f) (hB : B0 ≤ w.heap.size) (hn : (f 7).length + 1 ≤ 1000000000) :
    Calls Tryz.prog 236 #[.pointer (some ⟨β, 0, none⟩), .slice p n c] w fun e w' => e = .returned (.tuple #[]) ∧ BagAt w' β B0 (fadd f [.slice p n c] [] []) ∧ PF B0 w w' := by
  obtain ⟨v, v', w2, hc1, hc2, hr, ⟨a, m, d, rfl⟩, ⟨u, hc3⟩, hf3, hbag, hbel⟩ := h.put (P := Tryz.prog) (i := 7) KPS_sty rfl rfl 105 (by decide) (.slice p n c) rfl hn hB
  rw [fadd7] at hbag
  have HBAG := Lib.hid hbag
  have HBEL := Lib.hid hbel
  clear hbag hbel h
  go_enter Tryz.func236, Tryz.ntmps236
  go_wp2_with (at_builtin; refine wpList_append_run rfl _ _ 105 rfl _ _ _ rfl rfl hr ?_)
  go_end0
  exact ⟨rfl, HBAG.out, HBEL.out⟩

set_option maxHeartbeats 1000000 in
theorem oneLevel_any (β B0 : Nat) (f : Nat → List Value) (p : Option Addr) (n c : Nat) (w : World) (h : BagAt w β B0 f) (hB : B0 ≤ w.heap.size) (hn : (f 7).length + 1 ≤ 1000000000) :
    Calls Tryz.prog 230 #[.pointer (some ⟨β, 0, none⟩), .agg #[.slice p n c]] w fun e w' => e = .returned (.tuple #[]) ∧ BagAt w' β B0 (fadd f [.slice p n c] [] []) ∧ PF B0 w w' := by
  have hb := below_alloc w (.cells #[.slice p n c] 43)
  have HP := Lib.hid (putParts_any β B0 f p n c (w.alloc (.cells #[.slice p n c] 43)) (h.below hb) (Nat.le_trans hB hb.size) hn)
  have HB := Lib.hid (PF.of_below hb hB)
  clear h hb
  go_enter Tryz.func230, Tryz.ntmps230
  go_wp2_with fail
  refine HP.out.mono ?_
  rintro e w1 ⟨rfl, h1, h2⟩
  have H1 := Lib.hid h1
  have H2 := Lib.hid (HB.out.trans h2)
  clear h1 h2
  go_wp2_with fail
  go_end0
  exact ⟨rfl, H1.out, H2.out⟩

set_option maxHeartbeats 2000000 in
theorem putLevels_any (β B0 : Nat) (F : Mem) (f : Nat → List Value) (v : Value) (us : List Value) (w : World) (h : BagAt w β B0 f) (hF : Lies F B0 w) (hB : B0 ≤ w.heap.size) (hv : GL F B0 v us) (hn : (f 7).length + us.length ≤ 100000000) (hn8 : (f 8).length + 1 ≤ 100000000) :
    Calls Tryz.prog 207 #[.pointer (some ⟨β, 0, none⟩), v] w fun e w' => e = .returned (.tuple #[]) ∧ BagAt w' β B0 (fadd f us [v] []) ∧ PF B0 w w' := by
  obtain ⟨p, c, rfl, hc1, hc2, hlie⟩ := hv
  unfold maxLen at hc2
  obtain ⟨v, v', w2, hc3, hc4, hr, ⟨a, m, d, rfl⟩, ⟨u, hc5⟩, hf3, hbag, hbel⟩ := h.put (P := Tryz.prog) (i := 8) KLS_sty rfl rfl 106 (by decide) (.slice p us.length c) rfl (by omega) hB
  rw [fadd8] at hbag
  obtain ⟨n, hus⟩ : ∃ n, us.length = n := ⟨_, rfl⟩
  have HN := Lib.hid hus
  rw [hus] at hr hbag hlie hc1 hn ⊢
  have HBAG := Lib.hid hbag
  have HBEL := Lib.hid hbel
  have HLIE := Lib.hid hlie
  have HF := Lib.hid (hF.on hbel.below)
  have hf7 : fadd f [] [.slice p n c] [] 7 = f 7 := by simp [fadd]
  have HF7 := Lib.hid hf7
  clear hbag hbel h hlie hF hus hf7
  obtain ⟨wb, hwb⟩ : ∃ wb, w2.setCell ⟨β, 8, none⟩ (.slice a m d) = wb := ⟨_, rfl⟩
  rw [hwb] at HBAG HBEL HF
  go_enter Tryz.func207, Tryz.ntmps207
  go_wp2_with (at_builtin; refine wpList_append_run rfl _ _ 106 rfl _ _ _ rfl rfl hr ?_)
  clear hwb hc3 hc4 hr hc5 hf3
  go_loopw [4] (fun i wr => ∃ j : Nat, i = .int .i64 j ∧ j ≤ n ∧ BagAt wr β B0 (fadd f (us.take j) [.slice p n c] []) ∧ PF B0 wb wr) (fun i _ => n - (intOf i).toNat)
  case atStart => exact ⟨0, rfl, Nat.zero_le _, HBAG.out, PF.refl _ _⟩
  case round =>
    clear HBAG
    obtain ⟨j, rfl, hj, hG, hL⟩ := hrel
    by_cases hlt : j < n
    · have r1 : decide ((j : Int) < (n : Int)) = true := decide_eq_true (by omega)
      obtain ⟨b, o, rfl, hb0, hcs⟩ := HLIE.out (by omega)
      obtain ⟨u, hu⟩ : ∃ u, us[j]? = some u := ⟨_, List.getElem?_eq_getElem (by have := HN.out; omega)⟩
      obtain ⟨hFu, p', n', c', rfl⟩ := hcs j u hu
      have hcu := U_cell (HF.out.on hL.below _ _ _ hb0 hFu)
      have HG := Lib.hid hG
      have HL := Lib.hid hL
      have HO := Lib.hid (oneLevel_any β B0 _ p' n' c' wr hG (Nat.le_trans hB (Nat.le_trans HBEL.out.below.size hL.below.size)) (by simp [fadd]; omega))
      rw [fadd_fadd] at HO
      have ht : us.take j ++ [.slice p' n' c'] = us.take (j + 1) := by rw [List.take_add_one, hu]; rfl
      rw [ht, List.append_nil, List.append_nil] at HO
      clear hG hL hcs hu hFu ht
      go_wp2_with fail
      refine HO.out.mono ?_
      rintro e w3 ⟨rfl, h1, h2⟩
      have H1 := Lib.hid h1
      have H2 := Lib.hid (HL.out.trans h2)
      clear h1 h2 HO HG HL hcu
      go_wp2_with fail
      go_roundw
      case rel => exact ⟨j + 1, by go_num, by omega, H1.out, H2.out⟩
      case measure => simp [intOf]; omega
    · have r1 : decide ((j : Int) < (n : Int)) = false := decide_eq_false (by omega)
      obtain rfl : j = n := by omega
      have HG := Lib.hid hG
      have HL := Lib.hid hL
      rw [show us.take j = us from by rw [← HN.out]; exact List.take_length] at HG
      clear hG hL
      go_wp2_with fail
      go_end0
      exact ⟨rfl, HG.out, HBEL.out.trans HL.out⟩

/-- A box of the call's own stays. -/
theorem PF.cell {B0 : Nat} {w w' : World} (h : PF B0 w w') {b : Nat} {cs : Array Value} {e : Nat} (he : e ≠ 114 ∧ ∀ i, i < 17 → e ≠ tyB i) (hb : w.heap[b]? = some (Obj.cells cs e (0, 0))) (o : Nat) : w'.cell? ⟨b, o, none⟩ = cs[o]? := by
  simp [World.cell?, h.keep b cs e he.1 he.2 hb]
theorem ty26 : (26 : Nat) ≠ 114 ∧ ∀ i, i < 17 → (26 : Nat) ≠ tyB i := by decide

set_option maxHeartbeats 1000000 in
theorem oneTerm_of (β B0 : Nat) (F : Mem) (f : Nat → List Value) (n0 n1 n2 : Int) (us : List Value) (p q : Option Addr) (n c m d : Nat) (y : VT) (w : World) (h : BagAt w β B0 f) (hF : Lies F B0 w) (hB : B0 ≤ w.heap.size) (hl : GL F B0 (.slice p n c) us) (hn7 : (f 7).length + us.length ≤ 100000000) (hn8 : (f 8).length + 1 ≤ 100000000)
    (hk : ∀ w', BagAt w' β B0 (fadd f us [.slice p n c] []) → Lies F B0 w' → B0 ≤ w'.heap.size → Calls Tryz.prog 68 #[.pointer (some ⟨β, 0, none⟩), .slice q m d] w' fun e w2 => e = .returned (.tuple #[]) ∧ BagAt w2 β B0 (fadd (fadd f us [.slice p n c] []) y.P y.L (.slice q m d :: y.T)) ∧ PF B0 w' w2) :
    Calls Tryz.prog 130 #[.pointer (some ⟨β, 0, none⟩), .agg #[.int .i64 n0, .int .i64 n1, .int .i64 n2, .slice p n c, .slice q m d]] w fun e w' => e = .returned (.tuple #[]) ∧ BagAt w' β B0 (fadd f (us ++ y.P) (.slice p n c :: y.L) (.slice q m d :: y.T)) ∧ PF B0 w w' := by
  have hb := below_alloc w (.cells #[.int .i64 n0, .int .i64 n1, .int .i64 n2, .slice p n c, .slice q m d] 26)
  have hg := heap_alloc_new w (.cells #[.int .i64 n0, .int .i64 n1, .int .i64 n2, .slice p n c, .slice q m d] 26)
  obtain ⟨W, hW⟩ : ∃ W, w.alloc (.cells #[.int .i64 n0, .int .i64 n1, .int .i64 n2, .slice p n c, .slice q m d] 26) = W := ⟨_, rfl⟩
  obtain ⟨g, hgs⟩ : ∃ g, w.heap.size = g := ⟨_, rfl⟩
  have HW := Lib.hid hW
  rw [hW] at hb hg
  rw [hgs] at hg
  have hc : W.cell? ⟨g, 3, none⟩ = some (.slice p n c) := by simp [World.cell?, hg]
  have HP := Lib.hid (putLevels_any β B0 F f _ us W (h.below hb) (hF.on (hb.mono hB)) (Nat.le_trans hB hb.size) hl hn7 hn8)
  have HB := Lib.hid (PF.of_below hb hB)
  have HG := Lib.hid hg
  have HF := Lib.hid hF
  have HK := Lib.hid hk
  have HBS := Lib.hid hB
  clear h hb hg hl hF hk hB hn7 hn8
  go_enter Tryz.func130, Tryz.ntmps130
  go_wp2_with fail
  refine HP.out.mono ?_
  rintro e w1 ⟨rfl, h1, h2⟩
  have hc4 : w1.cell? ⟨g, 4, none⟩ = some (.slice q m d) := by rw [h2.cell ty26 HG.out]; rfl
  have H2 := HB.out.trans h2
  have HKK := Lib.hid (HK.out w1 h1 (HF.out.on H2.below) (Nat.le_trans HBS.out H2.below.size))
  have HH2 := Lib.hid H2
  clear h1 h2 H2 hc
  go_wp2_with fail
  refine HKK.out.mono ?_
  rintro e w3 ⟨rfl, h3, h4⟩
  rw [fadd_fadd] at h3
  have H3 := Lib.hid h3
  have H4 := Lib.hid (HH2.out.trans h4)
  clear h3 h4
  go_wp2_with fail
  go_end0
  exact ⟨rfl, H3.out, H4.out⟩

set_option maxHeartbeats 4000000 in
theorem putTerms_any (β B0 : Nat) (F : Mem) (M : Nat) : ∀ (x : VT) (f : Nat → List Value) (v : Value) (w : World), x.size < M → BagAt w β B0 f → Lies F B0 w → B0 ≤ w.heap.size → GK F B0 v x → (f 7).length + x.size ≤ 10000000 → (f 8).length + x.size ≤ 10000000 → (f 9).length + x.size + 1 ≤ 10000000 →
    Calls Tryz.prog 68 #[.pointer (some ⟨β, 0, none⟩), v] w fun e w' => e = .returned (.tuple #[]) ∧ BagAt w' β B0 (fadd f x.P x.L (v :: x.T)) ∧ PF B0 w w' := by
  induction M with
  | zero => intro x f v w hM; omega
  | succ M ih =>
    intro x f v w hM h hF hB hv hn7 hn8 hn9
    obtain ⟨p, c, rfl, hc1, hc2, hlie⟩ := hv
    unfold maxLen at hc2
    have hx := x.len_le
    obtain ⟨v, v', w2, hc3, hc4, hr, ⟨a, m, d, rfl⟩, ⟨u, hc5⟩, hf3, hbag, hbel⟩ := h.put (P := Tryz.prog) (i := 9) KTS_sty rfl rfl 38 (by decide) (.slice p x.len c) rfl (by omega) hB
    rw [fadd9] at hbag
    obtain ⟨n, hus⟩ : ∃ n, x.len = n := ⟨_, rfl⟩
    have HN := Lib.hid hus
    rw [hus] at hr hbag hlie hc1 hx ⊢
    have HBAG := Lib.hid hbag
    have HBEL := Lib.hid hbel
    have HLIE := Lib.hid hlie
    have HF := Lib.hid (hF.on hbel.below)
    have HM := Lib.hid hM
    have HIH := Lib.hid ih
    clear hbag hbel h hlie hF hus hM ih
    obtain ⟨wb, hwb⟩ : ∃ wb, w2.setCell ⟨β, 9, none⟩ (.slice a m d) = wb := ⟨_, rfl⟩
    rw [hwb] at HBAG HBEL HF
    go_enter Tryz.func68, Tryz.ntmps68
    go_wp2_with (at_builtin; refine wpList_append_run rfl _ _ 38 rfl _ _ _ rfl rfl hr ?_)
    clear hwb hc3 hc4 hr hc5 hf3
    go_loopw [4] (fun i wr => ∃ x1 x2 : VT, x1.app x2 = x ∧ i = .int .i64 x1.len ∧ BagAt wr β B0 (fadd f x1.P x1.L (.slice p n c :: x1.T)) ∧ PF B0 wb wr) (fun i _ => n - (intOf i).toNat)
    case atStart => exact ⟨.nil, x, rfl, rfl, HBAG.out, PF.refl _ _⟩
    case round =>
      clear HBAG
      obtain ⟨x1, x2, hxx, rfl, hG, hL⟩ := hrel
      obtain ⟨j, hj⟩ : ∃ j, x1.len = j := ⟨_, rfl⟩
      rw [hj]
      have hlen : x1.len + x2.len = n := by rw [← VT.app_len, hxx]; exact HN.out
      have HX := Lib.hid hxx
      have HJ := Lib.hid hj
      cases x2 with
      | nil =>
        obtain rfl : j = n := by rw [← hj]; simpa [VT.len] using hlen
        have r1 : decide ((j : Int) < (j : Int)) = false := decide_eq_false (by omega)
        have HG := Lib.hid hG
        have HL := Lib.hid hL
        rw [show x1 = x from by rw [← hxx]; exact (VT.app_nil x1).symm] at HG
        clear hG hL hxx hj hlen
        go_wp2_with fail
        go_end0
        exact ⟨rfl, HG.out, HBEL.out.trans HL.out⟩
      | cons us vl vk y r =>
        have hlt : j < n := by rw [← hj]; simp [VT.len] at hlen; omega
        have r1 : decide ((j : Int) < (n : Int)) = true := decide_eq_true (by omega)
        obtain ⟨b, o, rfl, hb0, hGT⟩ := HLIE.out (by omega)
        rw [← hxx, GTs.app, hj] at hGT
        obtain ⟨-, ⟨n0, n1, n2, k0, k1, k2⟩, k3, k4, hgl, hgk, -⟩ := hGT
        obtain ⟨pl, cl, rfl, -⟩ := id hgl
        obtain ⟨pk, ck, rfl, -⟩ := id hgk
        have hsz : x1.size + (us.length + y.size + r.size + 2) = x.size := by rw [← hxx, VT.app_size]; rfl
        have hln := x1.lens
        have hFl := HF.out.on hL.below
        have e0 := U_cell (hFl _ _ _ hb0 k0)
        have e1 := U_cell (hFl _ _ _ hb0 k1)
        have e2 := U_cell (hFl _ _ _ hb0 k2)
        have e3 := U_cell (hFl _ _ _ hb0 k3)
        have e4 := U_cell (hFl _ _ _ hb0 k4)
        have hBr : B0 ≤ wr.heap.size := Nat.le_trans hB (Nat.le_trans HBEL.out.below.size hL.below.size)
        have HO := Lib.hid (oneTerm_of β B0 F _ n0 n1 n2 us pl pk us.length cl y.len ck y wr hG hFl hBr hgl (by simp [fadd]; omega) (by simp [fadd]; omega) fun w' g1 g2 g3 =>
          HIH.out y _ _ w' (by have := HM.out; omega) g1 g2 g3 hgk (by simp [fadd]; omega) (by simp [fadd]; omega) (by simp [fadd]; omega))
        rw [fadd_fadd] at HO
        have hP : x1.P ++ (us ++ y.P) = (x1.app (.cons us (.slice pl us.length cl) (.slice pk y.len ck) y .nil)).P := by rw [VT.app_P]; simp [VT.P]
        have hL2 : x1.L ++ (.slice pl us.length cl :: y.L) = (x1.app (.cons us (.slice pl us.length cl) (.slice pk y.len ck) y .nil)).L := by rw [VT.app_L]; simp [VT.L]
        have hT : .slice (some ⟨b, o, none⟩) n c :: x1.T ++ (.slice pk y.len ck :: y.T) = Value.slice (some ⟨b, o, none⟩) n c :: (x1.app (.cons us (.slice pl us.length cl) (.slice pk y.len ck) y .nil)).T := by rw [VT.app_T]; simp [VT.T]
        rw [hP, hL2, hT] at HO
        have hj1 : (x1.app (.cons us (.slice pl us.length cl) (.slice pk y.len ck) y .nil)).len = j + 1 := by rw [VT.app_len, hj]; rfl
        have hx2 : (x1.app (.cons us (.slice pl us.length cl) (.slice pk y.len ck) y .nil)).app r = x := by rw [VT.app_assoc]; exact hxx
        have HX2 := Lib.hid hx2
        have HJ1 := Lib.hid hj1
        have HLL := Lib.hid hL
        obtain ⟨z, hz⟩ : ∃ z, x1.app (.cons us (.slice pl us.length cl) (.slice pk y.len ck) y .nil) = z := ⟨_, rfl⟩
        obtain ⟨u1, hu1⟩ : ∃ u1, us.length = u1 := ⟨_, rfl⟩
        obtain ⟨u2, hu2⟩ : ∃ u2, y.len = u2 := ⟨_, rfl⟩
        rw [hz] at HO HX2 HJ1
        rw [hu1] at e3 HO
        rw [hu2] at e4 HO
        clear k0 k1 k2 k3 k4 hgl hgk hFl hBr hP hL2 hT hj1 hx2 hL hG hxx hsz hln hz hu1 hu2 hj HX HJ
        go_wp2_with fail
        refine HO.out.mono ?_
        rintro e w3 ⟨rfl, h1, h2⟩
        have H1 := Lib.hid h1
        have H2 := Lib.hid (HLL.out.trans h2)
        clear h1 h2 HO HLL e0 e1 e2 e3 e4
        go_wp2_with fail
        go_roundw
        case rel => exact ⟨z, r, HX2.out, by rw [HJ1.out]; go_num, H1.out, H2.out⟩
        case measure => simp [intOf]; omega
end Go.Proofs.YtkcmapimcgppmaaGreatDoor
end
