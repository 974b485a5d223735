/-
  Lists of levels that lie apart, written over, grown, looked at: they are found apart. Conditions: no more than 10000000 lists, of no more than 10000000 elements each.
-/
import Derived.Test.YtkcmapimcgppmaaGreatDoorM23
import Derived.Test.YtkcmapimcgppmaaGreatDoorM02
import Derived.Test.YtkcmapimcgppmaaGreatDoorM17
import Derived.Test.YtkcmapimcgppmaaGreatDoorM11
set_option linter.all false
set_option linter.unusedVariables false
set_option linter.unusedSimpArgs false
set_option linter.unnecessarySimpa false
namespace Go.Proofs.YtkcmapimcgppmaaGreatDoor
open Go.RowKit

/-- The kind of levels: a mark is a level of one part. -/
def KL : Kd := { e := 43, sz := 1, em := 77, cel := fun w M xs => ∃ pb c, xs = [.slice (some ⟨pb, 0, none⟩) 1 c] ∧ 1 ≤ c ∧ c ≤ maxLen ∧ ∃ cur, w.heap[pb]? = some (Obj.cells cur 77 (0, 0)) ∧ cur[0]? = some (.int .i64 0) ∧ cur[1]? = some (.int .i64 M) ∧ cur.size = c * 2 }
theorem KL_ok : KL.Ok := ⟨by decide, by decide, fun _ _ _ h => by obtain ⟨pb, c, rfl, -⟩ := h; rfl, fun _ _ _ h u hu => by obtain ⟨pb, c, rfl, -⟩ := h; simp at hu; subst hu; rfl, fun _ _ _ _ hk h => by
  obtain ⟨pb, c, e, h1, h2, cur, h3, h4⟩ := h
  exact ⟨pb, c, e, h1, h2, cur, hk _ _ _ h3, h4⟩⟩
theorem KL_sty : Sty Tryz.prog KL 24 := by
  refine ⟨Tryz.underlying24, ?_⟩
  have h := info43
  cases hi : Tryz.prog.info? 43 with
  | none => rw [hi] at h; cases h
  | some i =>
    rw [hi] at h
    simp only [Option.map_some, Option.some.injEq, Prod.mk.injEq] at h
    exact ⟨i, _, hi, h.1, h.2.1, rfl, by omega⟩
/-- The type of the list of rows. -/
def KLS : Kd := { e := 24, sz := 1, em := 0, cel := fun _ _ _ => False }
theorem info24 : (Tryz.prog.info? 24).map (fun i => (i.zero, i.size, i.bytes)) = some (some (.slice none 0 0), 1, 24) := by kernel_rfl
theorem KLS_sty : Sty Tryz.prog KLS 106 := by
  refine ⟨Tryz.underlying106, ?_⟩
  have h := info24
  cases hi : Tryz.prog.info? 24 with
  | none => rw [hi] at h; cases h
  | some i =>
    rw [hi] at h
    simp only [Option.map_some, Option.some.injEq, Prod.mk.injEq] at h
    exact ⟨i, _, hi, h.1, h.2.1, rfl, by omega⟩
theorem KL_mark : MarkOk Tryz.prog KL 121 := fun k i w hk hi => (markLevel_any k i w hk hi).mono fun _ _ h => by
  obtain ⟨xs, S, rfl, hb, ho, -⟩ := h
  obtain ⟨v, ys, zs, us, B, S1, S2, S3, rfl, h1, h2, h3, ⟨rfl, -⟩, -⟩ := ho
  obtain ⟨rfl, -⟩ := h3
  obtain ⟨_, rfl, _, rfl, rfl, -⟩ := h2
  rcases h1 with ⟨p, -, h4, -⟩ | ⟨g, n, cap, cur, -, rfl, -, h5, h6, h7, h8, h9, h10, h11, h12⟩
  · cases h4
  · have h9 : 2 = n * 2 := h9
    obtain rfl : n = 1 := by omega
    have h11 : 2 ≤ cap * 2 := h11
    have h12 : cur.toList.take 2 = [.int .i64 0, .int .i64 (mark k i)] := h12
    refine ⟨_, rfl, ⟨g, cap, rfl, h6, h7, cur, h5, ?_, ?_, h8⟩, hb⟩
    · have := congrArg (fun l : List Value => l[0]?) h12
      simpa using this
    · have := congrArg (fun l : List Value => l[1]?) h12
      simp at this
      exact this
theorem KL_same : SameOk Tryz.prog KL 127 := fun M w xs ys hx hy => by
  have rd : ∀ pb c cur, 1 ≤ c → c ≤ maxLen → w.heap[pb]? = some (Obj.cells cur 77 (0, 0)) → cur[0]? = some (.int .i64 0) → cur[1]? = some (.int .i64 M) → cur.size = c * 2 → RP w (.slice (some ⟨pb, 0, none⟩) 1 c) [(0, M)] := fun pb c cur h1 h2 h3 h4 h5 h6 =>
    ⟨_, 1, c, rfl, rfl, h1, h2, by show 2 + 0 ≤ c * 2; omega, .inr (.inr ⟨pb, 0, rfl, heap_lt h3, ⟨U_mk (by simp [World.cell?, h3, h4]) (by simp [World.frozen?, h3]), U_mk (by simp [World.cell?, h3, h5]) (by simp [World.frozen?, h3]), trivial⟩, trivial⟩)⟩
  obtain ⟨pb, c, rfl, h1, h2, cur, h3, h4, h5, h6⟩ := hx
  obtain ⟨qb, d, rfl, g1, g2, cur2, g3, g4, g5, g6⟩ := hy
  exact sameLevel_any [(0, M)] _ _ _ _ _ _ w (rd pb c cur h1 h2 h3 h4 h5 h6) (rd qb d cur2 g1 g2 g3 g4 g5 g6)
set_option maxRecDepth 100000 in
set_option maxHeartbeats 4000000 in
theorem flat139_any (vs : List Value) (L : Nat) (ql : Option Addr) (cl : Nat) (w : World) (hvs : vs.length ≤ 10000000) (hcl : vs.length ≤ cl) (hcm : cl ≤ maxLen) (hL : ∀ (k : Nat) (v : Value), vs[k]? = some v → ql = some ⟨L, 0, none⟩ ∧ vn v ≤ 10000000)
    (hC : ¬ InV vs L ∧ ∀ W, Tn KL.em (InV vs) w W → ∀ (k : Nat) (v : Value), vs[k]? = some v → U W L k = some v) (hR : RowsG KL 0 w vs (fun _ => 0)) (hD : Dist vs) :
    Calls Tryz.prog 139 #[.slice ql vs.length cl] w fun e w' => e = .returned (.bool true) ∧ Tn KL.em (InV vs) w w' := by
  obtain ⟨m, hm⟩ : ∃ m, vs.length = m := ⟨_, rfl⟩
  have HM := Lib.hid hm
  have HC := Lib.hid hC
  have HL := Lib.hid hL
  have HMK := Lib.hid KL_mark
  have HSM := Lib.hid KL_same
  have HIN : Hid (∀ b, InV vs b → b < w.heap.size) := fun b hb => by obtain ⟨-, cur, e⟩ := hR.typed hb; exact heap_lt e
  rw [hm] at hvs hcl ⊢
  clear hm hC hL
  unfold maxLen at hcm
  go_enter Tryz.func139, Tryz.ntmps139
  go_wp2_with fail
  go_loopw [3] (fun i wr => ∃ k : Nat, k ≤ m ∧ i = .int .i64 k ∧ RowsG KL 0 wr vs (dF vs k 0) ∧ Tn KL.em (InV vs) w wr) (fun i _ => m - (intOf i).toNat)
  case atStart => exact ⟨0, Nat.zero_le _, rfl, hR.cong fun k v _ => by simp [dF], Tn.refl _ _ _⟩
  case round =>
    obtain ⟨k, hk, rfl, hRk, hTk⟩ := hrel
    clear hR
    by_cases hlt : k < m
    · have r1 : decide ((k : Int) < (m : Int)) = true := decide_eq_true (by omega)
      obtain ⟨v, hv⟩ : ∃ v, vs[k]? = some v := ⟨_, List.getElem?_eq_getElem (by have := HM.out; omega)⟩
      obtain ⟨p, n, c, rfl, hnc, hcc⟩ := (hRk k v hv).isSlice
      unfold maxLen at hcc
      obtain ⟨rfl, hn⟩ := HL.out k _ hv
      replace hn : n ≤ 10000000 := hn
      have HV := Lib.hid hv
      have HRK := Lib.hid hRk
      have HTK := Lib.hid hTk
      clear hv hRk hTk
      go_wp2_with fail
      go_loopw [4] (fun i wr => ∃ j : Nat, i = .int .i64 j ∧ j ≤ n ∧ RowsG KL 0 wr vs (dF vs k j) ∧ Tn KL.em (InV vs) w wr) (fun i _ => n - (intOf i).toNat)
      case atStart => exact ⟨0, rfl, Nat.zero_le _, HRK.out, HTK.out⟩
      case round =>
        clear HRK HTK
        obtain ⟨j, rfl, hj, hRj, hTj⟩ := hrel
        have hu := HC.out.2 _ hTj k _ HV.out
        have hc := U_cell hu
        by_cases hjn : j < n
        · have r2 : decide ((j : Int) < (n : Int)) = true := decide_eq_true (by omega)
          obtain ⟨g, rfl, hc0⟩ := (hRj k _ HV.out).lies (by omega)
          have e1 : ∀ n' : GrownX (InV vs) wr, n'.it.cell? ⟨L, k, none⟩ = some (.slice (some ⟨g, 0, none⟩) n c) := GrownX.cell hu HC.out.1
          have HRJ := Lib.hid hRj
          have HTJ := Lib.hid hTj
          clear hu hRj hTj
          go_wp2_with fail
          clear hc
          refine wp_region_take_X (InV vs) [0, 1, 2, 3, 4, 5, 6] (by decide) (by kernel_rfl) (by kernel_rfl) (by kernel_rfl) (by kernel_rfl) (fun _ _ d _ _ h => by cases d <;> exact h) ?_
          simp only [List.map_cons, List.map_nil, List.getD_cons_zero, List.getD_cons_succ, bar, readKind, List.size_toArray, List.length_cons, List.length_nil, Nat.zero_add, Nat.reduceAdd, if_true, if_false, Bool.false_eq_true]
          repeat (go_big_quiet_step (fail))
          refine wpQuiet_nil ?_
          clear e1
          refine tail_step (i := 7) (fuel := 2) (by kernel_rfl) rfl (by rfl) (fun K' hK => ?_)
          go_simp
          refine (HMK.out k j _ (by omega) (by omega)).mono ?_
          rintro e wx ⟨xs, rfl, hcel, hbx⟩
          have hAx : Below wr.heap.size wr wx := below_step (below_drew wr) hbx
          refine hK.out _ _ ⟨⟨wx, fun b hb _ => hAx.block b hb⟩, rfl⟩ (fun _ => ?_)
          clear hK K'
          have hRx := HRJ.out.below KL_ok hAx
          obtain ⟨hth, hR', hT'⟩ := RowsG.setF KL_ok hD hRx HV.out hjn hcel
          rw [show j * KL.sz = j from Nat.mul_one j] at hth hR' hT'
          refine tail_step (i := 8) (fuel := 1) (by kernel_rfl) rfl (by rfl) (fun K' hK => ?_)
          go_simp
          refine hK.out _ _ ⟨⟨wx, fun b hb _ => hAx.block b hb⟩, rfl⟩ (fun _ => ?_)
          clear hK K'
          refine tail_step (i := 9) (fuel := 0) (by kernel_rfl) rfl (by rfl) (fun K' hK => ?_)
          refine wp_store_mid 43 _ _ rfl g (j) xs.toArray rfl rfl (by rw [List.size_toArray, KL_ok.len _ _ _ hcel]; exact hth) (by rw [List.size_toArray, KL_ok.len _ _ _ hcel]; exact KL_sty.size) (all_oneCell_toArray (KL_ok.one _ _ _ hcel)) ?_
          refine hK.out _ _ ⟨⟨wx.setCells g (j) xs, fun b hb hx => (hT'.block b (Nat.lt_of_lt_of_le hb hAx.size) hx).trans (hAx.block b hb)⟩, rfl⟩ (fun _ => ?_)
          clear hK K'
          refine wpAnyH_done (by kernel_rfl) ?_ _
          have HR' := Lib.hid hR'
          have HT' := Lib.hid (HTJ.out.trans ((Tn.of_below hAx).trans hT'))
          clear hth hR' hT' hRx hcel hAx hbx HRJ HTJ
          go_wp2_with fail
          go_roundw
          case rel => exact ⟨j + 1, by go_num, by omega, HR'.out, HT'.out⟩
          case measure => simp [intOf]; omega
        · have r2 : decide ((j : Int) < (n : Int)) = false := decide_eq_false (by omega)
          obtain rfl : j = n := by omega
          have HR' := Lib.hid (RowsG.dEnd HV.out hRj)
          have HT' := Lib.hid hTj
          clear hRj hTj hu
          go_wp2_with fail
          go_roundw
          case rel => exact ⟨k + 1, by omega, by go_num, HR'.out, HT'.out⟩
          case measure => simp [intOf]; omega
    · have r1 : decide ((k : Int) < (m : Int)) = false := decide_eq_false (by omega)
      obtain rfl : k = m := by omega
      have HF := Lib.hid (RowsG.full HM.out hRk)
      have HT := Lib.hid hTk
      clear hRk hTk
      obtain ⟨arr, hmk, harr⟩ := KLS_sty.make k (by omega) wr
      have hmk' : (Instr.makeSlice 106 (.int .i64 k) (.int .i64 k)).run Tryz.prog wr = .ok (.slice (some ⟨wr.heap.size, 0, none⟩) k k) (wr.alloc (.cells arr 24)) := hmk
      clear hmk
      go_wp2_with fail
      obtain ⟨w1, hw1⟩ : ∃ w1, wr.alloc (.cells arr 24) = w1 := ⟨_, rfl⟩
      obtain ⟨G, hG⟩ : ∃ G, wr.heap.size = G := ⟨_, rfl⟩
      have HGW : Hid (w.heap.size ≤ G) := Lib.hid (by rw [← hG]; exact HT.out.size)
      have HB1 : Below wr.heap.size wr w1 := by rw [← hw1]; exact below_alloc _ _
      have HF1 := Lib.hid (HF.out.below KL_ok HB1)
      have HT1 := Lib.hid (HT.out.trans (Tn.of_below HB1))
      have HG1 : Hid (Gsl KL 24 G w.heap.size w1 vs 64 64 0) := Lib.hid (by rw [← hw1, ← hG]; exact Gsl.new wr vs 64 64 (by rw [HM.out, harr]; show k * 1 = k; omega))
      rw [hw1, hG]
      clear HF HT HB1 hw1 hmk' harr
      go_loopw [6] (fun i wr => ∃ j : Nat, i = .int .i64 j ∧ j ≤ k ∧ Full KL 0 wr vs ∧ Gsl KL 24 G w.heap.size wr vs 64 64 j ∧ Tn KL.em (InV vs) w wr) (fun i _ => k - (intOf i).toNat)
      case atStart => exact ⟨0, rfl, Nat.zero_le _, HF1.out, HG1.out, HT1.out⟩
      case round =>
        clear HF1 HG1 HT1
        obtain ⟨j, rfl, hj, hF, hGs, hT⟩ := hrel
        by_cases hlt : j < k
        · have r1 : decide ((j : Int) < (k : Int)) = true := decide_eq_true (by omega)
          obtain ⟨v, hv⟩ : ∃ v, vs[j]? = some v := ⟨_, List.getElem?_eq_getElem (by have := HM.out; omega)⟩
          obtain ⟨p, n, c, rfl, hnc, hcc⟩ := (hF j v hv).isSlice
          unfold maxLen at hcc
          obtain ⟨rfl, hn⟩ := HL.out j _ hv
          replace hn : n ≤ 10000000 := hn
          have hc := U_cell (HC.out.2 _ hT j _ hv)
          have HV := Lib.hid hv
          have HF := Lib.hid hF
          have HGS := Lib.hid hGs
          have HT := Lib.hid hT
          clear hv hF hGs hT
          go_wp2_with fail
          obtain ⟨wk, hwk⟩ : ∃ wk : World, wk = wr := ⟨_, rfl⟩
          subst hwk
          go_loopw [7, 8] (fun g i wr => ∃ t : Nat, i = .int .i64 t ∧ t ≤ 64 ∧ RowI KL 0 wr (.slice p n c) n j ∧ Cur KL wk.heap.size wr (.slice p n c) g t j ∧ Tn KL.em (fun b => vb (.slice p n c) = some b) wk wr) (fun _ i _ => 64 - (intOf i).toNat)
          case atStart => exact ⟨0, rfl, by decide, HF.out j _ HV.out, .inl ⟨rfl, rfl⟩, Tn.refl _ _ _⟩
          case round =>
            obtain ⟨t, rfl, ht, hRq, hCq, hTq⟩ := hrel
            have hTv : Tn KL.em (InV vs) w wr := HT.out.trans (hTq.inV HV.out)
            have hcq := U_cell (HC.out.2 _ hTv j _ HV.out)
            have HR := Lib.hid hRq
            have HC1 := Lib.hid hCq
            have HTQ := Lib.hid hTq
            have HTV := Lib.hid hTv
            clear hRq hCq hTq hTv hc
            by_cases hlt64 : t < 64
            · have r2 : decide ((t : Int) < 64) = true := decide_eq_true (by omega)
              have HMJ : Hid (∀ W, Calls Tryz.prog 121 #[.int .i64 j, .int .i64 ((n : Int) + (t : Int))] W fun e w' => ∃ xs, e = .returned (.agg xs.toArray) ∧ KL.cel w' (mk j (n + t)) xs ∧ Below W.heap.size W w') := fun W => by
                have := HMK.out j (n + t) W (by omega) (by omega)
                rwa [Int.natCast_add] at this
              go_wp2_with fail
              refine (HMJ.out _).mono ?_
              rintro e wx ⟨xs, rfl, hcel, hbx⟩
              obtain ⟨pb, pbc, hxs, -⟩ := id hcel
              obtain ⟨wy, hwy⟩ : ∃ wy, wx.alloc (.cells xs.toArray 43) = wy := ⟨_, rfl⟩
              have hby : Below wr.heap.size wr wy := by rw [← hwy]; exact below_step hbx (below_alloc _ _)
              have hnc : ∀ (i : Nat) (u : Value), xs[i]? = some u → wy.cell? ((⟨wx.heap.size, 0, none⟩ : Addr).add i) = some u := by rw [← hwy]; exact new_cells wx xs 43
              obtain ⟨g', wz, hrun, hRz, hCz, hTz⟩ := Cur.grow KL_ok KL_sty 24 (HR.out.on KL_ok (Tn.of_below (X := fun _ => False) hby) fun _ _ _ _ => id) (fun b hb => Nat.lt_of_lt_of_le (HIN.out b ⟨_, List.mem_of_getElem? HV.out, hb⟩) HT.out.size) (Nat.le_trans HTQ.out.size hby.size)
                (HC1.out.on KL_ok (Tn.of_below (X := fun _ => False) hby) fun _ _ _ _ => id) (c := 1) (by rw [← hwy]; exact KL_ok.below hcel (below_alloc _ _)) hnc (by show n + t + 1 ≤ _; omega)
              have HRZ := Lib.hid hRz
              have HCZ := Lib.hid hCz
              have HTZ := Lib.hid (HTQ.out.trans' ((Tn.of_below hby).trans hTz) fun b hb h => by
                rcases h with h | h
                · exact h
                · omega)
              clear hRz hCz hTz hcel hbx hby hnc HR HC1 HTQ HMJ
              subst hwy hxs
              go_wp2_with (at_builtin; refine wpList_append_run rfl _ _ 24 rfl _ _ _ rfl rfl hrun ?_)
              go_roundw
              case rel => exact ⟨t + 1, by go_num, by omega, HRZ.out, HCZ.out, HTZ.out⟩
              case measure => simp [intOf]; omega
            · have r2 : decide ((t : Int) < 64) = false := decide_eq_false (by omega)
              obtain rfl : t = 64 := by omega
              have hFq := Full.one KL_ok hD HF.out HV.out HTQ.out HR.out
              have hGq := Gsl.one KL_ok hD HGS.out HIN.out HGW.out HV.out HTQ.out
              obtain ⟨u, hgc, hgf⟩ := hGq.cell (k := j) (by have := HM.out; omega)
              obtain ⟨-, hG', hT'⟩ := hGq.put KL_ok (by decide) (by decide) HV.out ((HC1.out.ent (by decide)).less (Nat.le_refl _) HT.out.size)
              obtain ⟨h, cap, cur, e, -⟩ := HC1.out.ent (by decide)
              subst e
              have HG' := Lib.hid hG'
              have HF' := Lib.hid (hFq.put KL_ok HIN.out HGW.out hT')
              have HT' := Lib.hid (HTV.out.trans' hT' fun b hb e => by have := HGW.out; omega)
              clear hFq hGq hG' hT' HR HC1 HTQ HTV HF HGS HT hcq
              go_wp2_with fail
              go_roundw
              case rel => exact ⟨j + 1, by go_num, by omega, HF'.out, HG'.out, HT'.out⟩
              case measure => simp [intOf]; omega
        · have r1 : decide ((j : Int) < (k : Int)) = false := decide_eq_false (by omega)
          obtain rfl : j = k := by omega
          have HF := Lib.hid hF
          have HGS := Lib.hid hGs
          have HT := Lib.hid hT
          clear hF hGs hT
          go_wp2_with fail
          obtain ⟨w3, hw3⟩ : ∃ w3 : World, w3 = wr := ⟨_, rfl⟩
          subst hw3
          obtain ⟨m, hm⟩ : ∃ m : Nat, m = j := ⟨_, rfl⟩
          subst hm
          clear hlt
          go_loopw [9] (fun i wr => ∃ j : Nat, i = .int .i64 j ∧ j ≤ m ∧ Below w3.heap.size w3 wr) (fun i _ => m - (intOf i).toNat)
          case atStart => exact ⟨0, rfl, Nat.zero_le _, Below.refl _ _⟩
          case round =>
            obtain ⟨j, rfl, hj, hB⟩ := hrel
            by_cases hlt : j < m
            · have r1 : decide ((j : Int) < (m : Int)) = true := decide_eq_true (by omega)
              obtain ⟨v, hv⟩ : ∃ v, vs[j]? = some v := ⟨_, List.getElem?_eq_getElem (by have := HM.out; omega)⟩
              obtain ⟨p, n, c, rfl, hnc, hcc⟩ := (HF.out j v hv).isSlice
              unfold maxLen at hcc
              obtain ⟨rfl, hn⟩ := HL.out j _ hv
              replace hn : n ≤ 10000000 := hn
              have HV := Lib.hid hv
              have HB := Lib.hid hB
              clear hv hB
              obtain ⟨u, hgc, hgf, hE⟩ := HGS.out.get hlt HV.out
              obtain ⟨h, cap, cur, rfl, -, -, hq1, hq2, -⟩ := id hE
              unfold maxLen at hq2
              replace hq1 : n + 64 ≤ cap := hq1
              have HU : Hid (U w3 G j = some (.slice (some ⟨h, 0, none⟩) (n + 64) cap)) := Lib.hid (U_mk hgc hgf)
              have HE := Lib.hid hE
              clear hgc hgf hE
              go_wp2_with fail
              go_loopw [10] (fun i wr => ∃ t : Nat, i = .int .i64 t ∧ t ≤ n + 64 ∧ Below w3.heap.size w3 wr) (fun i _ => n + 64 - (intOf i).toNat)
              case atStart => exact ⟨0, rfl, Nat.zero_le _, HB.out⟩
              case round =>
                clear HB
                obtain ⟨t, rfl, ht, hB⟩ := hrel
                have hug := U_below hB _ _ _ (U_lt HU.out) HU.out
                have hgc := U_cell hug
                have hul := HC.out.2 _ (HT.out.trans (Tn.of_below hB)) j _ HV.out
                have HB := Lib.hid hB
                clear hB
                by_cases htn : t < n + 64
                · have r2 : decide ((t : Int) < (n : Int) + 64) = true := decide_eq_true (by omega)
                  have q1 : (0 : Int) ≤ (t : Int) := by omega
                  have q2 : (t : Int) < (n : Int) + 64 := by omega
                  obtain ⟨xs, hcel, hrg⟩ := HE.out.getU (show t < vn (.slice p n c) + 64 from htn)
                  have HCEL := Lib.hid hcel
                  simp only [show KL.sz = 1 from rfl, Nat.mul_one] at hrg
                  have HRG := Lib.hid hrg
                  clear hcel hrg
                  obtain ⟨pb, pbc, hxs, -⟩ := id HCEL.out
                  subst hxs
                  have c0 : ∀ n' : GrownB wr.heap.size wr, n'.it.cell? ⟨h, t, none⟩ = some (.slice (some ⟨pb, 0, none⟩) 1 pbc) := GrownB.cell (U_below HB.out _ _ _ (U_lt (HRG.out 0 _ rfl)) (HRG.out 0 _ rfl)) (Nat.lt_of_lt_of_le (U_lt (HRG.out 0 _ rfl)) HB.out.size)
                  have hgB := GrownB.cell hug (U_lt hug)
                  have hlB := GrownB.cell hul (U_lt hul)
                  clear hug hul
                  go_wp2_with fail
                  refine wp_region_take_I wr.heap.size [0, 1, 2, 3, 4, 5, 6, 7, 8] (by decide) (by kernel_rfl) (by kernel_rfl) (by kernel_rfl) (by kernel_rfl) (fun _ _ d _ _ h => by cases d <;> exact h) ?_
                  simp only [List.map_cons, List.map_nil, List.getD_cons_zero, List.getD_cons_succ, bar, readKind, List.size_toArray, List.length_cons, List.length_nil, Nat.zero_add, Nat.reduceAdd, if_true, if_false, Bool.false_eq_true]
                  repeat (go_big_quiet_step (fail))
                  refine wpQuiet_nil ?_
                  refine tail_step (i := 9) (fuel := 25) (by kernel_rfl) rfl (by rfl) (fun K' hK => ?_)
                  go_simp
                  refine (HMK.out j t _ (by omega) (by omega)).mono ?_
                  rintro e wx ⟨ys, rfl, hcy, hbx⟩
                  have hAx : Below wr.heap.size wr wx := below_step (below_drew wr) hbx
                  refine hK.out _ _ ⟨⟨wx, hAx⟩, rfl⟩ (fun _ => ?_)
                  clear hK K'
                  refine tail_step (i := 10) (fuel := 24) (by kernel_rfl) rfl (by rfl) (fun K' hK => ?_)
                  go_simp
                  refine (HSM.out _ wx _ _ (KL_ok.below HCEL.out (below_step HB.out hAx)) hcy).mono ?_
                  rintro e wy ⟨rfl, hby⟩
                  have hAy : Below wr.heap.size wr wy := below_step hAx hby
                  refine hK.out _ _ ⟨⟨wy, hAy⟩, rfl⟩ (fun _ => ?_)
                  clear hK K' hcy hbx hby hAx hgB c0
                  by_cases htk : t < n
                  · have r3 : decide ((t : Int) < (n : Int)) = true := decide_eq_true (by omega)
                    have q3 : (t : Int) < (n : Int) := by omega
                    obtain ⟨g, rfl, -⟩ := (HF.out j _ HV.out).lies (by omega)
                    obtain ⟨xs, hcel, hrg⟩ := (HF.out j _ HV.out).getU (show t < vn (.slice (some ⟨g, 0, none⟩) n c) from htk)
                    have HCEL2 := Lib.hid hcel
                    simp only [show KL.sz = 1 from rfl, Nat.mul_one] at hrg
                    have HRG2 := Lib.hid hrg
                    clear hcel hrg HCEL HRG
                    obtain ⟨pd, pdc, hxs, -⟩ := id HCEL2.out
                    subst hxs
                    have d0 : ∀ n' : GrownB wr.heap.size wr, n'.it.cell? ⟨g, t, none⟩ = some (.slice (some ⟨pd, 0, none⟩) 1 pdc) := GrownB.cell (U_below HB.out _ _ _ (U_lt (HRG2.out 0 _ rfl)) (HRG2.out 0 _ rfl)) (Nat.lt_of_lt_of_le (U_lt (HRG2.out 0 _ rfl)) HB.out.size)
                    refine takeReadsL (by kernel_rfl) (fun _ _ d _ _ h => by cases d <;> exact h) ⟨⟨wy, hAy⟩, rfl⟩ 5 [11, 12, 13, 14, 15, 16, 17, 18, 19, 20, 21, 22, 23, 24, 25, 26, 27, 28, 29] _ _ (by kernel_rfl) (by kernel_rfl) ?_
                    simp only [List.map_cons, List.map_nil, List.getD_cons_zero, List.getD_cons_succ, bar, readKind, List.size_toArray, List.length_cons, List.length_nil, Nat.zero_add, Nat.reduceAdd, if_true, if_false, Bool.false_eq_true]
                    repeat (go_big_quiet_step (fail))
                    refine wpQuiet_nil ?_
                    clear d0
                    refine tail_step (i := 30) (fuel := 4) (by kernel_rfl) rfl (by rfl) (fun K' hK => ?_)
                    go_simp
                    refine (HMK.out j t _ (by omega) (by omega)).mono ?_
                    rintro e wz ⟨ys, rfl, hcy, hbz⟩
                    have hAz : Below wr.heap.size wr wz := below_step hAy hbz
                    refine hK.out _ _ ⟨⟨wz, hAz⟩, rfl⟩ (fun _ => ?_)
                    clear hK K'
                    refine tail_step (i := 31) (fuel := 3) (by kernel_rfl) rfl (by rfl) (fun K' hK => ?_)
                    go_simp
                    refine (HSM.out _ wz _ _ (KL_ok.below HCEL2.out (below_step HB.out hAz)) hcy).mono ?_
                    rintro e wv ⟨rfl, hbv⟩
                    have hAv : Below wr.heap.size wr wv := below_step hAz hbv
                    refine hK.out _ _ ⟨⟨wv, hAv⟩, rfl⟩ (fun _ => ?_)
                    clear hK K' hcy hbz hbv hAz
                    refine takeReadsL (by kernel_rfl) (fun _ _ d _ _ h => by cases d <;> exact h) ⟨⟨wv, hAv⟩, rfl⟩ 0 [32, 33, 34] _ _ (by kernel_rfl) (by kernel_rfl) ?_
                    simp only [List.map_cons, List.map_nil, List.getD_cons_zero, List.getD_cons_succ, bar, readKind, List.size_toArray, List.length_cons, List.length_nil, Nat.zero_add, Nat.reduceAdd, if_true, if_false, Bool.false_eq_true]
                    repeat (go_big_quiet_step (fail))
                    refine wpQuiet_nil ?_
                    refine wpAnyH_done (by kernel_rfl) ?_ _
                    have HAV := Lib.hid hAv
                    clear hAv hAy
                    go_wp2_with fail
                    go_roundw
                    case rel => exact ⟨t + 1, by go_num, by omega, below_step HB.out HAV.out⟩
                    case measure => simp [intOf]; omega
                  · have r3 : decide ((t : Int) < (n : Int)) = false := decide_eq_false (by omega)
                    refine takeReadsL (by kernel_rfl) (fun _ _ d _ _ h => by cases d <;> exact h) ⟨⟨wy, hAy⟩, rfl⟩ 0 [11, 12, 13, 14, 15, 16, 17, 18, 19, 20, 21, 22, 23, 24, 25, 26, 27, 28, 29, 30, 31, 32, 33, 34] _ _ (by kernel_rfl) (by kernel_rfl) ?_
                    simp only [List.map_cons, List.map_nil, List.getD_cons_zero, List.getD_cons_succ, bar, readKind, List.size_toArray, List.length_cons, List.length_nil, Nat.zero_add, Nat.reduceAdd, if_true, if_false, Bool.false_eq_true]
                    repeat (go_big_quiet_step (fail))
                    refine wpQuiet_nil ?_
                    refine wpAnyH_done (by kernel_rfl) ?_ _
                    have HAY := Lib.hid hAy
                    clear hAy
                    go_wp2_with fail
                    go_roundw
                    case rel => exact ⟨t + 1, by go_num, by omega, below_step HB.out HAY.out⟩
                    case measure => simp [intOf]; omega
                · have r2 : decide ((t : Int) < (n : Int) + 64) = false := decide_eq_false (by omega)
                  clear hug hul
                  go_wp2_with fail
                  go_roundw
                  case rel => exact ⟨j + 1, by go_num, by omega, HB.out⟩
                  case measure => simp [intOf]; omega
            · have r1 : decide ((j : Int) < (m : Int)) = false := decide_eq_false (by omega)
              obtain rfl : j = m := by omega
              go_wp2_with fail
              obtain ⟨w4, hw4⟩ : ∃ w4 : World, w4 = wr := ⟨_, rfl⟩
              subst hw4
              obtain ⟨m, hm⟩ : ∃ m : Nat, m = j := ⟨_, rfl⟩
              subst hm
              have HF4 := Lib.hid (HF.out.below KL_ok hB)
              have HG4 := Lib.hid ((HGS.out.start (d' := 0) (x' := 64)).below KL_ok hB)
              have HT4 := Lib.hid (HT.out.trans (Tn.of_below hB))
              clear HF HGS HT hB hlt
              go_loopw [11] (fun i wr => ∃ j : Nat, i = .int .i64 j ∧ j ≤ m ∧ Full KL 0 wr vs ∧ Gsl KL 24 G w.heap.size wr vs 0 64 j ∧ Tn KL.em (InV vs) w wr) (fun i _ => m - (intOf i).toNat)
              case atStart => exact ⟨0, rfl, Nat.zero_le _, HF4.out, HG4.out, HT4.out⟩
              case round =>
                clear HF4 HG4 HT4
                obtain ⟨j, rfl, hj, hF, hGs, hT⟩ := hrel
                by_cases hlt : j < m
                · have r1 : decide ((j : Int) < (m : Int)) = true := decide_eq_true (by omega)
                  obtain ⟨v, hv⟩ : ∃ v, vs[j]? = some v := ⟨_, List.getElem?_eq_getElem (by have := HM.out; omega)⟩
                  obtain ⟨p, n, c, rfl, hnc, hcc⟩ := (hF j v hv).isSlice
                  unfold maxLen at hcc
                  obtain ⟨rfl, hn⟩ := HL.out j _ hv
                  replace hn : n ≤ 10000000 := hn
                  have HV := Lib.hid hv
                  have HF := Lib.hid hF
                  have HGS := Lib.hid hGs
                  have HT := Lib.hid hT
                  clear hv hF hGs hT
                  obtain ⟨arr2, hmk2, harr2⟩ := KL_sty.make 64 (by decide) wr
                  have hmk2' : (Instr.makeSlice 24 (.int .i64 64) (.int .i64 64)).run Tryz.prog wr = .ok (.slice (some ⟨wr.heap.size, 0, none⟩) 64 64) (wr.alloc (.cells arr2 43)) := hmk2
                  clear hmk2
                  go_wp2_with fail
                  obtain ⟨wk, hwk⟩ : ∃ wk : World, wk = wr := ⟨_, rfl⟩
                  subst hwk
                  obtain ⟨w5, hw5⟩ : ∃ w5, wk.alloc (.cells arr2 43) = w5 := ⟨_, rfl⟩
                  obtain ⟨B, hBq⟩ : ∃ B, wk.heap.size = B := ⟨_, rfl⟩
                  have HB5 : Hid (Below wk.heap.size wk w5) := Lib.hid (by rw [← hw5]; exact below_alloc _ _)
                  have HR5 : Hid (RowI KL B w5 (.slice (some ⟨B, 0, none⟩) 64 64) 0 (j + m)) := Lib.hid (by rw [← hw5, ← hBq]; exact RowI.new wk 64 (j + m) harr2 (by decide) (by decide))
                  have HBq := Lib.hid hBq
                  rw [hw5, hBq]
                  clear hw5 hmk2' harr2 hBq
                  go_loopw [13] (fun i wr => ∃ t : Nat, i = .int .i64 t ∧ t ≤ 64 ∧ RowI KL B wr (.slice (some ⟨B, 0, none⟩) 64 64) t (j + m) ∧ Below wk.heap.size wk wr) (fun i _ => 64 - (intOf i).toNat)
                  case atStart => exact ⟨0, rfl, by decide, HR5.out, HB5.out⟩
                  case round =>
                    clear HR5 HB5
                    obtain ⟨t, rfl, ht, hR5, hB⟩ := hrel
                    have HR5 := Lib.hid hR5
                    have HB := Lib.hid hB
                    clear hR5 hB
                    by_cases hlt64 : t < 64
                    · have r2 : decide ((t : Int) < 64) = true := decide_eq_true (by omega)
                      have HMJ : Hid (∀ W, Calls Tryz.prog 121 #[.int .i64 ((j : Int) + (m : Int)), .int .i64 t] W fun e w' => ∃ xs, e = .returned (.agg xs.toArray) ∧ KL.cel w' (mk (j + m) t) xs ∧ Below W.heap.size W w') := fun W => by
                        have := HMK.out (j + m) t W (by omega) (by omega)
                        rwa [Int.natCast_add] at this
                      go_wp2_with fail
                      refine (HMJ.out _).mono ?_
                      rintro e wx ⟨xs, rfl, hcel, hbx⟩
                      have hRx := HR5.out.on KL_ok (Tn.of_below (X := fun _ => False) hbx) fun _ _ _ _ => id
                      obtain ⟨hth, hR', hT'⟩ := hRx.set KL_ok hlt64 hcel
                      rw [show t * KL.sz = t from Nat.mul_one t] at hth hR' hT'
                      have hth' : wx.there B (t) xs.toArray.size := by rw [List.size_toArray, KL_ok.len _ _ _ hcel]; exact hth
                      have hsz' : (Tryz.prog.info? 43).map (·.size) = some xs.toArray.size := by rw [List.size_toArray, KL_ok.len _ _ _ hcel]; exact KL_sty.size
                      have hon' := all_oneCell_toArray (KL_ok.one _ _ _ hcel)
                      have HR' := Lib.hid hR'
                      have HB' : Hid (Below wk.heap.size wk (wx.setCells B (t) xs)) := Lib.hid (below_step' HB.out hbx hT' HBq.out)
                      clear hRx hth hR' hT' hcel hbx HR5 HB HMJ
                      go_wp2_with (refine wpList_store_mid rfl 43 _ _ rfl B (t) xs.toArray rfl rfl hth' hsz' hon' ?_)
                      go_roundw
                      case rel => exact ⟨t + 1, by go_num, by omega, HR'.out, HB'.out⟩
                      case measure => simp [intOf]; omega
                    · have r2 : decide ((t : Int) < 64) = false := decide_eq_false (by omega)
                      obtain rfl : t = 64 := by omega
                      obtain ⟨news, hl, hnews, hone⟩ := HR5.out.all KL_ok (by decide)
                      have hc := U_cell (HC.out.2 _ (HT.out.trans (Tn.of_below HB.out)) j _ HV.out)
                      obtain ⟨g', w6, hrun, hR6, hE6, hT6⟩ := ((HF.out.below KL_ok HB.out) j _ HV.out).many KL_ok KL_sty 24 (c := 64) hl (by decide) hnews hone (by show n + 64 ≤ _; omega)
                      have hF6 := Full.one KL_ok hD (HF.out.below KL_ok HB.out) HV.out hT6 hR6
                      have hG6 := Gsl.one KL_ok hD (HGS.out.below KL_ok HB.out) HIN.out HGW.out HV.out hT6
                      obtain ⟨u, hgc, hgf⟩ := hG6.cell (k := j) (by have := HM.out; omega)
                      obtain ⟨-, hG', hT'⟩ := hG6.put KL_ok (by decide) (by decide) HV.out (hE6.less (Nat.le_refl _) (Nat.le_trans HT.out.size HB.out.size))
                      obtain ⟨h, cap, cur, e, -⟩ := hE6
                      subst e
                      have HG' := Lib.hid hG'
                      have HF' := Lib.hid (hF6.put KL_ok HIN.out HGW.out hT')
                      have HT' := Lib.hid ((((HT.out.trans (Tn.of_below HB.out)).trans (hT6.inV HV.out))).trans' hT' fun b hb e => by have := HGW.out; omega)
                      clear hF6 hG6 hG' hT' hT6 hR6 HR5 HB HF HGS HT hl hnews hone
                      go_wp2_with (at_builtin; refine wpList_append_run rfl _ _ 24 rfl _ _ _ rfl rfl hrun ?_)
                      go_roundw
                      case rel => exact ⟨j + 1, by go_num, by omega, HF'.out, HG'.out, HT'.out⟩
                      case measure => simp [intOf]; omega
                · have r1 : decide ((j : Int) < (m : Int)) = false := decide_eq_false (by omega)
                  obtain rfl : j = m := by omega
                  have HF := Lib.hid hF
                  have HGS := Lib.hid hGs
                  have HT := Lib.hid hT
                  clear hF hGs hT
                  go_wp2_with fail
                  obtain ⟨w7, hw7⟩ : ∃ w7 : World, w7 = wr := ⟨_, rfl⟩
                  subst hw7
                  obtain ⟨m, hm⟩ : ∃ m : Nat, m = j := ⟨_, rfl⟩
                  subst hm
                  clear hlt
                  go_loopw [14] (fun i wr => ∃ j : Nat, i = .int .i64 j ∧ j ≤ m ∧ Below w7.heap.size w7 wr) (fun i _ => m - (intOf i).toNat)
                  case atStart => exact ⟨0, rfl, Nat.zero_le _, Below.refl _ _⟩
                  case round =>
                    obtain ⟨j, rfl, hj, hB⟩ := hrel
                    by_cases hlt : j < m
                    · have r1 : decide ((j : Int) < (m : Int)) = true := decide_eq_true (by omega)
                      obtain ⟨v, hv⟩ : ∃ v, vs[j]? = some v := ⟨_, List.getElem?_eq_getElem (by have := HM.out; omega)⟩
                      obtain ⟨p, n, c, rfl, hnc, hcc⟩ := (HF.out j v hv).isSlice
                      unfold maxLen at hcc
                      obtain ⟨rfl, hn⟩ := HL.out j _ hv
                      replace hn : n ≤ 10000000 := hn
                      have HV := Lib.hid hv
                      have HB := Lib.hid hB
                      clear hv hB
                      obtain ⟨u, hgc, hgf, hE⟩ := HGS.out.get hlt HV.out
                      obtain ⟨h, cap, cur, rfl, -, -, hq1, hq2, -⟩ := id hE
                      unfold maxLen at hq2
                      replace hq1 : n + 64 ≤ cap := hq1
                      have HU : Hid (U w7 G j = some (.slice (some ⟨h, 0, none⟩) (n + 64) cap)) := Lib.hid (U_mk hgc hgf)
                      have HE := Lib.hid hE
                      clear hgc hgf hE
                      go_wp2_with fail
                      go_loopw [15] (fun i wr => ∃ t : Nat, i = .int .i64 t ∧ t ≤ n ∧ Below w7.heap.size w7 wr) (fun i _ => n - (intOf i).toNat)
                      case atStart => exact ⟨0, rfl, Nat.zero_le _, HB.out⟩
                      case round =>
                        clear HB
                        obtain ⟨t, rfl, ht, hB⟩ := hrel
                        have hug := U_below hB _ _ _ (U_lt HU.out) HU.out
                        have hul := HC.out.2 _ (HT.out.trans (Tn.of_below hB)) j _ HV.out
                        have hlc := U_cell hul
                        have HB := Lib.hid hB
                        clear hB
                        by_cases htn : t < n
                        · have r2 : decide ((t : Int) < (n : Int)) = true := decide_eq_true (by omega)
                          have q1 : (0 : Int) ≤ (t : Int) := by omega
                          have q2 : (t : Int) < (n : Int) + 64 := by omega
                          have q3 : (t : Int) < (n : Int) := by omega
                          obtain ⟨g, rfl, -⟩ := (HF.out j _ HV.out).lies (by omega)
                          obtain ⟨xs, hcel, hrg⟩ := (HF.out j _ HV.out).getU (show t < vn (.slice (some ⟨g, 0, none⟩) n c) from htn)
                          have HCEL := Lib.hid hcel
                          simp only [show KL.sz = 1 from rfl, Nat.mul_one] at hrg
                          have HRG := Lib.hid hrg
                          clear hcel hrg
                          obtain ⟨pb, pbc, hxs, -⟩ := id HCEL.out
                          subst hxs
                          have c0 : ∀ n' : GrownB wr.heap.size wr, n'.it.cell? ⟨g, t, none⟩ = some (.slice (some ⟨pb, 0, none⟩) 1 pbc) := GrownB.cell (U_below HB.out _ _ _ (U_lt (HRG.out 0 _ rfl)) (HRG.out 0 _ rfl)) (Nat.lt_of_lt_of_le (U_lt (HRG.out 0 _ rfl)) HB.out.size)
                          obtain ⟨xs, hcel, hrg⟩ := HE.out.getU (show t < vn (.slice (some ⟨g, 0, none⟩) n c) + 0 from htn)
                          have HCEL2 := Lib.hid hcel
                          simp only [show KL.sz = 1 from rfl, Nat.mul_one] at hrg
                          have HRG2 := Lib.hid hrg
                          clear hcel hrg
                          obtain ⟨pd, pdc, hxs, -⟩ := id HCEL2.out
                          subst hxs
                          have d0 : ∀ n' : GrownB wr.heap.size wr, n'.it.cell? ⟨h, t, none⟩ = some (.slice (some ⟨pd, 0, none⟩) 1 pdc) := GrownB.cell (U_below HB.out _ _ _ (U_lt (HRG2.out 0 _ rfl)) (HRG2.out 0 _ rfl)) (Nat.lt_of_lt_of_le (U_lt (HRG2.out 0 _ rfl)) HB.out.size)
                          have hgB := GrownB.cell hug (U_lt hug)
                          have hlB := GrownB.cell hul (U_lt hul)
                          clear hug hul
                          go_wp2_with fail
                          refine wp_region_take_I wr.heap.size [0, 1, 2, 3, 4, 5, 6, 7, 8] (by decide) (by kernel_rfl) (by kernel_rfl) (by kernel_rfl) (by kernel_rfl) (fun _ _ d _ _ h => by cases d <;> exact h) ?_
                          simp only [List.map_cons, List.map_nil, List.getD_cons_zero, List.getD_cons_succ, bar, readKind, List.size_toArray, List.length_cons, List.length_nil, Nat.zero_add, Nat.reduceAdd, if_true, if_false, Bool.false_eq_true]
                          repeat (go_big_quiet_step (fail))
                          refine wpQuiet_nil ?_
                          clear c0
                          refine tail_step (i := 9) (fuel := 16) (by kernel_rfl) rfl (by rfl) (fun K' hK => ?_)
                          go_simp
                          refine (HMK.out j t _ (by omega) (by omega)).mono ?_
                          rintro e wx ⟨ys, rfl, hcy, hbx⟩
                          have hAx : Below wr.heap.size wr wx := below_step (below_drew wr) hbx
                          refine hK.out _ _ ⟨⟨wx, hAx⟩, rfl⟩ (fun _ => ?_)
                          clear hK K'
                          refine tail_step (i := 10) (fuel := 15) (by kernel_rfl) rfl (by rfl) (fun K' hK => ?_)
                          go_simp
                          refine (HSM.out _ wx _ _ (KL_ok.below HCEL.out (below_step HB.out hAx)) hcy).mono ?_
                          rintro e wy ⟨rfl, hby⟩
                          have hAy : Below wr.heap.size wr wy := below_step hAx hby
                          refine hK.out _ _ ⟨⟨wy, hAy⟩, rfl⟩ (fun _ => ?_)
                          clear hK K' hcy hbx hby hAx
                          refine takeReadsL (by kernel_rfl) (fun _ _ d _ _ h => by cases d <;> exact h) ⟨⟨wy, hAy⟩, rfl⟩ 4 [11, 12, 13, 14, 15, 16, 17, 18, 19, 20, 21] _ _ (by kernel_rfl) (by kernel_rfl) ?_
                          simp only [List.map_cons, List.map_nil, List.getD_cons_zero, List.getD_cons_succ, bar, readKind, List.size_toArray, List.length_cons, List.length_nil, Nat.zero_add, Nat.reduceAdd, if_true, if_false, Bool.false_eq_true]
                          repeat (go_big_quiet_step (fail))
                          refine wpQuiet_nil ?_
                          clear d0 hgB
                          refine tail_step (i := 22) (fuel := 3) (by kernel_rfl) rfl (by rfl) (fun K' hK => ?_)
                          go_simp
                          refine (HMK.out j t _ (by omega) (by omega)).mono ?_
                          rintro e wz ⟨ys, rfl, hcy, hbz⟩
                          have hAz : Below wr.heap.size wr wz := below_step hAy hbz
                          refine hK.out _ _ ⟨⟨wz, hAz⟩, rfl⟩ (fun _ => ?_)
                          clear hK K'
                          refine tail_step (i := 23) (fuel := 2) (by kernel_rfl) rfl (by rfl) (fun K' hK => ?_)
                          go_simp
                          refine (HSM.out _ wz _ _ (KL_ok.below HCEL2.out (below_step HB.out hAz)) hcy).mono ?_
                          rintro e wv ⟨rfl, hbv⟩
                          have hAv : Below wr.heap.size wr wv := below_step hAz hbv
                          refine hK.out _ _ ⟨⟨wv, hAv⟩, rfl⟩ (fun _ => ?_)
                          clear hK K' hcy hbz hbv hAz
                          refine takeReadsL (by kernel_rfl) (fun _ _ d _ _ h => by cases d <;> exact h) ⟨⟨wv, hAv⟩, rfl⟩ 0 [24, 25] _ _ (by kernel_rfl) (by kernel_rfl) ?_
                          simp only [List.map_cons, List.map_nil, List.getD_cons_zero, List.getD_cons_succ, bar, readKind, List.size_toArray, List.length_cons, List.length_nil, Nat.zero_add, Nat.reduceAdd, if_true, if_false, Bool.false_eq_true]
                          repeat (go_big_quiet_step (fail))
                          refine wpQuiet_nil ?_
                          refine wpAnyH_done (by kernel_rfl) ?_ _
                          have HAV := Lib.hid hAv
                          clear hAv hAy
                          go_wp2_with fail
                          go_roundw
                          case rel => exact ⟨t + 1, by go_num, by omega, below_step HB.out HAV.out⟩
                          case measure => simp [intOf]; omega
                        · have r2 : decide ((t : Int) < (n : Int)) = false := decide_eq_false (by omega)
                          clear hug hul
                          go_wp2_with fail
                          go_roundw
                          case rel => exact ⟨j + 1, by go_num, by omega, HB.out⟩
                          case measure => simp [intOf]; omega
                    · have r1 : decide ((j : Int) < (m : Int)) = false := decide_eq_false (by omega)
                      have HB := Lib.hid hB
                      clear hB
                      go_wp2_with fail
                      go_ret
                      exact ⟨rfl, HT.out.trans (Tn.of_below HB.out)⟩
end Go.Proofs.YtkcmapimcgppmaaGreatDoor
