/-
  The document's lift. Conditions: no more than 2000000 nodes, levels, parts; numbers that a word holds.
-/
import Derived.Test.YtkcmapimcgppmaaGreatDoorN09
import Derived.Test.YtkcmapimcgppmaaGreatDoorN01
set_option linter.all false
set_option linter.unusedVariables false
set_option linter.unusedSimpArgs false
set_option linter.unnecessarySimpa false
namespace Go.Proofs.YtkcmapimcgppmaaGreatDoor
open Go.RowKit

theorem lift_cases (h : Hd) (n f : Int) (d : Nat) : ((h.k = 1 ∧ (d : Int) ≤ h.n ∧ f ≤ h.n - d) ∧ (h.lift n f d) = { h with n := IntKind.i64.wrap (h.n + n) }) ∨ (¬(h.k = 1 ∧ (d : Int) ≤ h.n ∧ f ≤ h.n - d) ∧ h.lift n f d = h) := by
  unfold Hd.lift
  split
  · exact .inl ⟨by assumption, rfl⟩
  · exact .inr ⟨by assumption, rfl⟩

set_option maxRecDepth 100000 in
set_option maxHeartbeats 8000000 in
theorem refLift_of (h : Hd) (x : Ts) (va : Value) (n f : Int) (d : Nat) (w : World) (ha : RM ty w va h x) (hf : h.fits) (hs : lvSize h.l ≤ 2000000) (hd : d ≤ 2000000000) (hxl : x.len ≤ 2000000)
    (hk : ∀ (k : Nat) (W : World) (v : Value) (e : Nat), k < x.len → RM ty W v (x.hd k) (x.kd k) → e ≤ d + 1 → Calls Tryz.prog 128 #[v, .int .i64 n, .int .i64 f, .int .i64 e] W (Makes (tDs ty (.cons ((x.hd k).lift n f e) ((x.kd k).lift n f (x.hd k).k 0 e) .nil)) W)) :
    Calls Tryz.prog 128 #[va, .int .i64 n, .int .i64 f, .int .i64 d] w (Makes (tDs ty (.cons (h.lift n f d) (x.lift n f h.k 0 d) .nil)) w) := by
  obtain ⟨q, c, r, m, rfl, -, -, -, -, hl, hx⟩ := ha.agg
  obtain ⟨w2, hw2⟩ : ∃ w2, (w.alloc (.cells #[.int .i64 h.k, .int .i64 h.n, .int .i64 h.a, .slice q h.l.length c, .slice r x.len m] 26)).alloc (.cells #[.int .i64 0, .int .i64 0, .int .i64 0, .slice none 0 0, .slice none 0 0] 26) = w2 := ⟨_, rfl⟩
  have hb2 : Below w.heap.size w w2 := by rw [← hw2]; exact below_step (below_alloc _ _) (below_alloc _ _)
  have hs2 : w2.heap.size = w.heap.size + 2 := by rw [← hw2]; simp
  have p1 : ∀ o v, (#[.int .i64 h.k, .int .i64 h.n, .int .i64 h.a, .slice q h.l.length c, .slice r x.len m] : Array Value)[o]? = some v → U w2 w.heap.size o = some v := fun o v hv => by
    rw [← hw2]; exact U_below (below_alloc _ _) _ _ _ (by simp) (laid_cell hv)
  have p2 : ∀ o v, (#[.int .i64 0, .int .i64 0, .int .i64 0, .slice none 0 0, .slice none 0 0] : Array Value)[o]? = some v → U w2 (w.heap.size + 1) o = some v := fun o v hv => by
    have := laid_cell (w := w.alloc (.cells #[.int .i64 h.k, .int .i64 h.n, .int .i64 h.a, .slice q h.l.length c, .slice r x.len m] 26)) (ty := 26) hv
    rw [World.size_alloc, hw2] at this
    exact this
  have c0 := U_cell (p1 0 _ rfl)
  have c1 := U_cell (p1 1 _ rfl)
  have f1 := U_frozen (p1 1 _ rfl)
  have HL := Lib.hid hl
  have HX := Lib.hid hx
  have HK := Lib.hid hk
  have HF := Lib.hid hf
  have HSZ := Lib.hid hs
  have HB2 := Lib.hid hb2
  have HS2 := Lib.hid hs2
  have P1 := Lib.hid p1
  have P2 := Lib.hid p2
  have hn1 := hf.2.1
  clear hl hx hk hf hs hb2 hs2 p1 p2 ha
  go_enter Tryz.func128, Tryz.ntmps128
  rcases lift_cases h n f d with ⟨⟨g1, g2, g3⟩, hlift⟩ | ⟨hno, hlift⟩
  · have b1 : (h.k == 1) = true := by simpa using g1
    have b2 : decide ((d : Int) ≤ h.n) = true := decide_eq_true g2
    have b3 : decide (f ≤ h.n - (d : Int)) = true := decide_eq_true g3
    have b4 : IntKind.i64.wrap (h.n - (d : Int)) = h.n - (d : Int) := by rw [IntKind.wrap_i64]; omega
    have HLF := Lib.hid hlift
    clear hlift g1 g2 g3
    go_wp2_with fail
    clear b1 b2 b3 b4 hn1
    obtain ⟨nn, hnn⟩ : ∃ nn, wrap64 (h.n + n) = nn := ⟨_, rfl⟩
    rw [hnn]
    obtain ⟨W1, hW1⟩ : ∃ W1, w2.setCell ⟨w.heap.size, 1, none⟩ (.int .i64 nn) = W1 := ⟨_, rfl⟩
    have HNN : Hid ((h.lift n f d).n = nn) := Lib.hid (by rw [HLF.out, ← hnn]; show IntKind.i64.wrap (h.n + n) = wrap64 (h.n + n); rw [IntKind.wrap_i64]; first | rfl | (unfold wrap64; rfl))
    have PB : Hid (Below w.heap.size w W1) := Lib.hid (by rw [← hW1]; exact HB2.out.setCell (p := ⟨w.heap.size, 1, none⟩) (Nat.le_refl _) _)
    have PS : Hid (W1.heap.size = w.heap.size + 2) := Lib.hid (by rw [← hW1]; simpa using HS2.out)
    have R1 : Hid (∀ o v, (#[.int .i64 h.k, .int .i64 nn, .int .i64 h.a, .slice q h.l.length c, .slice r x.len m] : Array Value)[o]? = some v → U W1 w.heap.size o = some v) := fun o v hv => by
      rw [← hW1]
      by_cases h1 : o = 1
      · subst h1
        cases hv
        exact U_set_same (P1.out 1 _ rfl)
      · refine U_set_other (P1.out o v ?_) (ne_off (Ne.symm h1))
        match o, h1, hv with
        | 0, _, hv => exact hv
        | 2, _, hv => exact hv
        | 3, _, hv => exact hv
        | 4, _, hv => exact hv
        | 1, h1, _ => exact absurd rfl h1
    have R2 : Hid (∀ o v, (#[.int .i64 0, .int .i64 0, .int .i64 0, .slice none 0 0, .slice none 0 0] : Array Value)[o]? = some v → U W1 (w.heap.size + 1) o = some v) := fun o v hv => by
      rw [← hW1]; exact U_set_other (P2.out o v hv) (ne_blk (by omega))
    rw [hW1]
    clear hW1 P1 P2 HB2 HS2 hnn c0 c1 f1
    clear hw2
    obtain ⟨B, hB⟩ : ∃ B, W1.heap.size = B := ⟨_, rfl⟩
    have HBS := Lib.hid hB
    clear hB
    go_loopw [9, 10] (fun v i wr => ∃ (k : Nat) (S : List Nat), k ≤ x.len ∧ i = .int .i64 k ∧ Below B W1 wr ∧ RowG wr B 5 26 v k (tDs ty ((x.take k).lift n f h.k 0 d)) S) (fun _ i _ => x.len - (intOf i).toNat)
    case atStart => exact ⟨0, [], Nat.zero_le _, rfl, Below.refl _ _, by rw [show Ts.lift n f h.k 0 d (Ts.take 0 x) = .nil from rfl]; exact RowG.nil _ _ _ _⟩
    case round =>
      obtain ⟨k, S, hk, rfl, hB1, hR1⟩ := hrel
      have HB1 := Lib.hid hB1
      have HR1 := Lib.hid hR1
      have hb1 : w.heap.size + 2 = B := by rw [← HBS.out]; exact PS.out.symm
      have HBB := Lib.hid hb1
      have q4 := U_cell (U_below hB1 _ _ _ (by omega) (R1.out 4 _ rfl))
      clear hB1 hR1 hb1
      by_cases hlt : k < x.len
      · have r1 : decide ((k : Int) < (x.len : Int)) = true := decide_eq_true (by omega)
        have i1 : (k : Int) < (x.len : Int) := by omega
        obtain ⟨b, o, rfl, hb, hu1, hu2, hu3, ⟨r2, d2, hu4, hd1, hd2, hRL⟩, ⟨r3, d3, hu5, hd3, hd4, hRT⟩⟩ := HX.out.at_ hlt
        have hbB : b < B := by have := HBB.out; omega
        have hwB : w.heap.size < B := by have := HBB.out; omega
        have hbw : Below w.heap.size w wr := PB.out.trans (HB1.out.mono (by omega))
        have HRM : Hid (∀ W, Below w.heap.size w W → RM ty W (.agg #[.int .i64 (x.hd k).k, .int .i64 (x.hd k).n, .int .i64 (x.hd k).a, .slice r2 (x.hd k).l.length d2, .slice r3 (x.kd k).len d3]) (x.hd k) (x.kd k)) := fun W hW => ⟨r2, _, d2, r3, _, d3, rfl, hRL.on hW, hRT.on hW⟩
        have up : ∀ {b o : Nat} {v : Value}, U W1 b o = some v → b < B → ∀ n : GrownB B wr, n.it.cell? ⟨b, o, none⟩ = some v := fun h hb => GrownB.cell (U_below HB1.out _ _ _ hb h) hb
        have up2 : ∀ {b o : Nat} {v : Value}, U w b o = some v → b < w.heap.size → U W1 b o = some v := fun h hb => U_below PB.out _ _ _ hb h
        have e1 := up (up2 hu1 hb) hbB
        have e2 := up (up2 hu2 hb) hbB
        have e3 := up (up2 hu3 hb) hbB
        have e4 := up (up2 hu4 hb) hbB
        have e5 := up (up2 hu5 hb) hbB
        have j0 := up (R1.out 0 _ rfl) hwB
        have j1 := up (R1.out 1 _ rfl) hwB
        have j2 := up (R1.out 2 _ rfl) hwB
        have j3 := up (R1.out 3 _ rfl) hwB
        have j4 := up (R1.out 4 _ rfl) hwB
        have HBW := Lib.hid hbw
        have HLT := Lib.hid (Ts.lift_take (n := n) (from_ := f) (t := x) (k := k) h.k 0 d hlt)
        obtain ⟨z1, hz1⟩ : ∃ z, (x.hd k).l.length = z := ⟨_, rfl⟩
        obtain ⟨z2, hz2⟩ : ∃ z, (x.kd k).len = z := ⟨_, rfl⟩
        obtain ⟨z3, hz3⟩ : ∃ z, h.l.length = z := ⟨_, rfl⟩
        obtain ⟨X, hX⟩ : ∃ X, x.len = X := ⟨_, rfl⟩
        rw [hz1] at e4 HRM
        rw [hz2] at e5 HRM
        clear hu1 hu2 hu3 hu4 hu5 hd1 hd2 hd3 hd4 hRL hRT up up2 hbw hz1 hz2 hz3 hX
        go_wp2_with fail
        refine wp_region_take_B B 11 (by decide) (by kernel_rfl) (by kernel_rfl) (by kernel_rfl) (fun _ _ d _ _ h => by cases d <;> exact h) ?_
        simp only [List.take_succ_cons, List.take_zero, List.map_cons, List.map_nil, bar, readKind, List.size_toArray, List.length_cons, List.length_nil, Nat.zero_add, Nat.reduceAdd, if_true, if_false, Bool.false_eq_true]
        repeat (go_big_quiet_step (fail))
        refine wpQuiet_nil ?_
        clear e1 e2 e3 e4 e5 j0 j1 j2 j3 j4
        obtain ⟨dd, hdd⟩ : ∃ dd, deeper h.k k d = dd := ⟨_, rfl⟩
        have hdd1 : dd ≤ d + 1 := by rw [← hdd]; unfold deeper; split <;> omega
        have hBw : B ≤ wr.heap.size := by have := HB1.out.size; rw [HBS.out] at this; exact this
        refine tail_step (i := 11) (fuel := 4) (by kernel_rfl) rfl (by rfl) (fun K' hK => ?_)
        go_simp
        refine (refBelow_any ⟨h.k, nn, h.a, []⟩ _ _ k d wr.drew (by omega) ⟨_, _, _, rfl⟩ ⟨_, _, _, rfl⟩).mono ?_
        rintro e wx ⟨rfl, hbx⟩
        rw [show deeper (Hd.k ⟨h.k, nn, h.a, []⟩) k d = dd from hdd]
        have hBx : Below wr.heap.size wr wx := below_step (below_drew wr) hbx
        refine hK.out _ _ ⟨⟨wx, hBx.mono hBw⟩, rfl⟩ (fun _ => ?_)
        clear hK K'
        have HC := Lib.hid ((HK.out k wx _ dd hlt (HRM.out wx (below_step HBW.out hBx)) hdd1).mono fun _ _ h => Makes.tm h)
        have HHD : Hid (((x.hd k).lift n f dd).k = (x.hd k).k ∧ ((x.hd k).lift n f dd).a = (x.hd k).a) := ⟨Hd.lift_k _ _ _ _, Hd.lift_a _ _ _ _⟩
        refine tail_step (i := 12) (fuel := 3) (by kernel_rfl) rfl (by rfl) (fun K' hK => ?_)
        go_simp
        refine HC.out.mono ?_
        rintro e wy ⟨s1, m1, c1, s2, m2, c2, S2, rfl, hby, hown, hnd⟩
        have hBy : Below wr.heap.size wr wy := below_step hBx hby
        refine hK.out _ _ ⟨⟨wy, hBy.mono hBw⟩, rfl⟩ (fun _ => ?_)
        clear hK K' HC
        obtain ⟨k1, hk1⟩ : ∃ z, ((x.hd k).lift n f dd).k = z := ⟨_, rfl⟩
        obtain ⟨k2, hk2⟩ : ∃ z, ((x.hd k).lift n f dd).n = z := ⟨_, rfl⟩
        obtain ⟨k3, hk3⟩ : ∃ z, ((x.hd k).lift n f dd).a = z := ⟨_, rfl⟩
        obtain ⟨cs, hcs⟩ : ∃ cs : List Value, [.int .i64 k1, .int .i64 k2, .int .i64 k3, .slice s1 m1 c1, .slice s2 m2 c2] = cs := ⟨_, rfl⟩
        rw [hk1, hk2, hk3] at hown ⊢
        rw [hcs] at hown
        have hBz := below_step hBy (below_alloc wy (.cells cs.toArray 26))
        have hRz := HR1.out.below hBz
        have hOz := (hown.below (below_alloc wy (.cells cs.toArray 26))).lower (Nat.le_trans hBw hBx.size)
        have hones : Ds.ones (.lit (.int .i64 k1) (.lit (.int .i64 k2) (.lit (.int .i64 k3) (.row 1 ty.l (lvDs ty ((x.hd k).lift n f dd).l) .nil (.row 5 ty.t (tDs ty ((x.kd k).lift n f (x.hd k).k 0 dd)) .nil .nil))))) := ⟨rfl, rfl, rfl, trivial⟩
        obtain ⟨v', w4, hrun4, hR5, hg, -⟩ := RowG.append (ty := 22) (k := 1) elT hRz HR1.out.lt_of hOz hnd (fun b hb => by have := (hown.mem b hb).1; have := hBx.size; omega) hones ⟨wy.heap.size, 0, none⟩ 1 (by rw [← hcs]; rfl) (new_cells _ _ 26) (by omega) (Nat.le_trans hBw hBz.size)
        have hB4 : Below B wr w4 := (hBz.mono hBw).grown hg (Nat.le_trans hBw hBz.size) hRz.ge
        have HR4 : Hid (RowG w4 B 5 26 v' (k + 1) (tDs ty ((x.take (k + 1)).lift n f h.k 0 d)) (S ++ S2)) := Lib.hid (by
          rw [HLT.out, tDs_snoc, show deeper h.k (0 + k) d = dd by rw [Nat.zero_add]; exact hdd]
          have : tDs ty (.cons ((x.hd k).lift n f dd) ((x.kd k).lift n f (x.hd k).k 0 dd) .nil) = (.lit (.int .i64 k1) (.lit (.int .i64 k2) (.lit (.int .i64 k3) (.row 1 ty.l (lvDs ty ((x.hd k).lift n f dd).l) .nil (.row 5 ty.t (tDs ty ((x.kd k).lift n f (x.hd k).k 0 dd)) .nil .nil))))) := by
            rw [← hk1, ← hk2, ← hk3]; rfl
          rw [this]
          exact hR5)
        rw [← hcs] at hrun4 hBz
        clear hcs hk1 hk2 hk3
        refine tail_step (i := 13) (fuel := 2) (by kernel_rfl) rfl (by rfl) (fun K' hK => ?_)
        go_simp
        refine hK.out _ _ ⟨⟨_, hBz.mono hBw⟩, rfl⟩ (fun _ => ?_)
        clear hK K'
        refine tail_step (i := 14) (fuel := 1) (by kernel_rfl) rfl (by rfl) (fun K' hK => ?_)
        refine wp_append_run _ _ 22 rfl _ _ _ rfl rfl hrun4 ?_
        refine hK.out _ _ ⟨⟨w4, hB4⟩, rfl⟩ (fun _ => ?_)
        clear hK K'
        refine tail_step (i := 15) (fuel := 0) (by kernel_rfl) rfl (by rfl) (fun K' hK => ?_)
        go_simp
        refine hK.out _ _ ⟨⟨w4, hB4⟩, rfl⟩ (fun _ => ?_)
        clear hK K'
        refine wpAnyH_done (by kernel_rfl) ?_ _
        have HB4 := Lib.hid (HB1.out.trans hB4)
        clear hrun4 hB4 hR5 hg hones hOz hRz hBz hown hnd hby hBy hbx hBx hdd hdd1 q4
        go_wp2_with fail
        go_roundw
        case rel => exact ⟨k + 1, _, by omega, by go_num, HB4.out, HR4.out⟩
        case measure => simp [intOf]; omega
      · obtain rfl : k = x.len := by omega
        have r1 : decide ((x.len : Int) < (x.len : Int)) = false := decide_eq_false (by omega)
        obtain ⟨p, cc, rfl, -, -⟩ := HR1.out.cap
        have HR2 : Hid (RowG wr B 5 26 (.slice p x.len cc) x.len (tDs ty (x.lift n f h.k 0 d)) S) := Lib.hid (by have := HR1.out; rw [Ts.take_len] at this; exact this)
        have hwB : w.heap.size + 1 < B := by have := HBB.out; omega
        have up : ∀ {b o : Nat} {v : Value}, U W1 b o = some v → b < B → U wr b o = some v := fun h hb => U_below HB1.out _ _ _ hb h
        have j0 := U_cell (up (R1.out 0 _ rfl) (by omega))
        have j1 := U_cell (up (R1.out 1 _ rfl) (by omega))
        have j2 := U_cell (up (R1.out 2 _ rfl) (by omega))
        have j3 := U_cell (up (R1.out 3 _ rfl) (by omega))
        have HBW : Hid (Below w.heap.size w wr) := Lib.hid (PB.out.trans (HB1.out.mono (by omega)))
        have hBw : B ≤ wr.heap.size := by have := HB1.out.size; rw [HBS.out] at this; exact this
        have HWI := Lib.hid (refWith_any ⟨h.k, nn, h.a, h.l⟩ q r p h.l.length c x.len m x.len cc wr (HL.out.on HBW.out) HSZ.out)
        have Z : Hid (∀ o v, (#[.int .i64 0, .int .i64 0, .int .i64 0, .slice none 0 0, .slice none 0 0] : Array Value)[o]? = some v → U wr (w.heap.size + 1) o = some v) := fun o v hv => up (R2.out o v hv) hwB
        clear HR1 up
        go_wp2_with fail
        refine HWI.out.mono ?_
        rintro e wy ⟨q', n', c', S1, rfl, hby, ho, hn⟩
        have z2 : ∀ o v, (#[.int .i64 0, .int .i64 0, .int .i64 0, .slice none 0 0, .slice none 0 0] : Array Value)[o]? = some v → U wy (w.heap.size + 1) o = some v := fun o v hv => U_below hby _ _ _ (by omega) (Z.out o v hv)
        have m0 := U_cell (z2 0 _ rfl)
        have m1 := U_cell (z2 1 _ rfl)
        have m2 := U_cell (z2 2 _ rfl)
        have m3 := U_cell (z2 3 _ rfl)
        have m4 := U_cell (z2 4 _ rfl)
        have o0 := U_frozen (z2 0 _ rfl)
        have o1 := U_frozen (z2 1 _ rfl)
        have o2 := U_frozen (z2 2 _ rfl)
        have o3 := U_frozen (z2 3 _ rfl)
        have o4 := U_frozen (z2 4 _ rfl)
        have HBY := Lib.hid (below_step HBW.out hby)
        have HO := Lib.hid ho
        have HN := Lib.hid hn
        have HRY := Lib.hid (HR2.out.below hby)
        have HM := Lib.hid HR2.out.lt_of
        have Z2 := Lib.hid z2
        clear hby ho hn z2 j0 j1 j2 j3 q4
        go_wp2_with fail
        obtain ⟨W, hW⟩ : ∃ W, ((((wy.setCell ⟨w.heap.size + 1, 0, none⟩ (.int .i64 h.k)).setCell ⟨w.heap.size + 1, 1, none⟩ (.int .i64 nn)).setCell ⟨w.heap.size + 1, 2, none⟩ (.int .i64 h.a)).setCell ⟨w.heap.size + 1, 3, none⟩ (.slice q' n' c')).setCell ⟨w.heap.size + 1, 4, none⟩ (.slice p x.len cc) = W := ⟨_, rfl⟩
        obtain ⟨x0, x1, x2, x3, x4, hkW⟩ := five_set (Z2.out 0 _ rfl) (Z2.out 1 _ rfl) (Z2.out 2 _ rfl) (Z2.out 3 _ rfl) (Z2.out 4 _ rfl) hW
        have hBF : Below w.heap.size w W := by
          rw [← hW]
          exact ((((HBY.out.setCell (p := ⟨w.heap.size + 1, 0, none⟩) (Nat.le_succ _) _).setCell (p := ⟨w.heap.size + 1, 1, none⟩) (Nat.le_succ _) _).setCell (p := ⟨w.heap.size + 1, 2, none⟩) (Nat.le_succ _) _).setCell (p := ⟨w.heap.size + 1, 3, none⟩) (Nat.le_succ _) _).setCell (p := ⟨w.heap.size + 1, 4, none⟩) (Nat.le_succ _) _
        rw [hW]
        have hd0 : tDs ty (.cons (h.lift n f d) (x.lift n f h.k 0 d) .nil) = .lit (.int .i64 h.k) (.lit (.int .i64 nn) (.lit (.int .i64 h.a) (.row 1 43 (lvDs ty h.l) .nil (.row 5 26 (tDs ty (x.lift n f h.k 0 d)) .nil .nil)))) := by
          show Ds.lit (.int .i64 (h.lift n f d).k) (.lit (.int .i64 (h.lift n f d).n) (.lit (.int .i64 (h.lift n f d).a) (.row 1 43 (lvDs ty (h.lift n f d).l) .nil (.row 5 26 (tDs ty (x.lift n f h.k 0 d)) .nil .nil)))) = _
          rw [Hd.lift_k, Hd.lift_a, Hd.lift_l, HNN.out]
        have hown : Own wy w.heap.size (.lit (.int .i64 h.k) (.lit (.int .i64 nn) (.lit (.int .i64 h.a) (.row 1 43 (lvDs ty h.l) .nil (.row 5 26 (tDs ty (x.lift n f h.k 0 d)) .nil .nil))))) [.int .i64 h.k, .int .i64 nn, .int .i64 h.a, .slice q' n' c', .slice p x.len cc] (S1 ++ ((Value.slice p x.len cc).ownBlock.toList ++ S)) :=
          ⟨_, rfl, _, rfl, _, rfl, Own.app (HRY.out.own.lower (by omega)) (HO.out.lower (by have := HBW.out.size; omega))⟩
        have hge : ∀ b ∈ S1 ++ ((Value.slice p x.len cc).ownBlock.toList ++ S), w.heap.size + 2 ≤ b := by
          intro b hb
          rcases List.mem_append.1 hb with hb | hb
          · have := (HO.out.mem b hb).1; omega
          · have := (HR2.out.mem b hb).1; have := HBB.out; omega
        rw [hd0]
        refine bodyPost_ret (v := .agg #[.int .i64 h.k, .int .i64 nn, .int .i64 h.a, .slice q' n' c', .slice p x.len cc]) (by simp [results, Tryz.results128, go_sem, U_cell x0, U_cell x1, U_cell x2, U_cell x3, U_cell x4]) rfl ⟨[.int .i64 h.k, .int .i64 nn, .int .i64 h.a, .slice q' n' c', .slice p x.len cc], _, rfl, hBF, hown.kept (fun b hb => hkW b (by have := hge b hb; omega)), ?_⟩
        refine List.nodup_append.2 ⟨HN.out, HR2.out.nodup, fun a ha b hb e1 => ?_⟩
        have h1 := (HO.out.mem a ha).1
        have h2 := HM.out b hb
        omega
  have HLF := Lib.hid hlift
  clear hlift
  by_cases g1 : h.k = 1
  · have b1 : (h.k == 1) = true := by simpa using g1
    by_cases g2 : (d : Int) ≤ h.n
    · have b2 : decide ((d : Int) ≤ h.n) = true := decide_eq_true g2
      have g3 : ¬ f ≤ h.n - d := fun g3 => hno ⟨g1, g2, g3⟩
      have b3 : decide (f ≤ h.n - (d : Int)) = false := decide_eq_false g3
      have b4 : IntKind.i64.wrap (h.n - (d : Int)) = h.n - (d : Int) := by rw [IntKind.wrap_i64]; omega
      clear hno g1 g2 g3
      go_wp2_with fail
      clear b1 b2 b3 b4 hn1
      obtain ⟨nn, hnn⟩ : ∃ nn, h.n = nn := ⟨_, rfl⟩
      obtain ⟨W1, hW1⟩ : ∃ W1, w2 = W1 := ⟨_, rfl⟩
      have HNN : Hid ((h.lift n f d).n = nn) := Lib.hid (by rw [HLF.out, ← hnn])
      have PB : Hid (Below w.heap.size w W1) := Lib.hid (by rw [← hW1]; exact HB2.out)
      have PS : Hid (W1.heap.size = w.heap.size + 2) := Lib.hid (by rw [← hW1]; exact HS2.out)
      have R1 : Hid (∀ o v, (#[.int .i64 h.k, .int .i64 nn, .int .i64 h.a, .slice q h.l.length c, .slice r x.len m] : Array Value)[o]? = some v → U W1 w.heap.size o = some v) := Lib.hid (by rw [← hW1, ← hnn]; exact P1.out)
      have R2 : Hid (∀ o v, (#[.int .i64 0, .int .i64 0, .int .i64 0, .slice none 0 0, .slice none 0 0] : Array Value)[o]? = some v → U W1 (w.heap.size + 1) o = some v) := Lib.hid (by rw [← hW1]; exact P2.out)
      rw [hW1]
      clear hW1 P1 P2 HB2 HS2 hnn c0 c1 f1
      clear hw2
      obtain ⟨B, hB⟩ : ∃ B, W1.heap.size = B := ⟨_, rfl⟩
      have HBS := Lib.hid hB
      clear hB
      go_loopw [9, 10] (fun v i wr => ∃ (k : Nat) (S : List Nat), k ≤ x.len ∧ i = .int .i64 k ∧ Below B W1 wr ∧ RowG wr B 5 26 v k (tDs ty ((x.take k).lift n f h.k 0 d)) S) (fun _ i _ => x.len - (intOf i).toNat)
      case atStart => exact ⟨0, [], Nat.zero_le _, rfl, Below.refl _ _, by rw [show Ts.lift n f h.k 0 d (Ts.take 0 x) = .nil from rfl]; exact RowG.nil _ _ _ _⟩
      case round =>
        obtain ⟨k, S, hk, rfl, hB1, hR1⟩ := hrel
        have HB1 := Lib.hid hB1
        have HR1 := Lib.hid hR1
        have hb1 : w.heap.size + 2 = B := by rw [← HBS.out]; exact PS.out.symm
        have HBB := Lib.hid hb1
        have q4 := U_cell (U_below hB1 _ _ _ (by omega) (R1.out 4 _ rfl))
        clear hB1 hR1 hb1
        by_cases hlt : k < x.len
        · have r1 : decide ((k : Int) < (x.len : Int)) = true := decide_eq_true (by omega)
          have i1 : (k : Int) < (x.len : Int) := by omega
          obtain ⟨b, o, rfl, hb, hu1, hu2, hu3, ⟨r2, d2, hu4, hd1, hd2, hRL⟩, ⟨r3, d3, hu5, hd3, hd4, hRT⟩⟩ := HX.out.at_ hlt
          have hbB : b < B := by have := HBB.out; omega
          have hwB : w.heap.size < B := by have := HBB.out; omega
          have hbw : Below w.heap.size w wr := PB.out.trans (HB1.out.mono (by omega))
          have HRM : Hid (∀ W, Below w.heap.size w W → RM ty W (.agg #[.int .i64 (x.hd k).k, .int .i64 (x.hd k).n, .int .i64 (x.hd k).a, .slice r2 (x.hd k).l.length d2, .slice r3 (x.kd k).len d3]) (x.hd k) (x.kd k)) := fun W hW => ⟨r2, _, d2, r3, _, d3, rfl, hRL.on hW, hRT.on hW⟩
          have up : ∀ {b o : Nat} {v : Value}, U W1 b o = some v → b < B → ∀ n : GrownB B wr, n.it.cell? ⟨b, o, none⟩ = some v := fun h hb => GrownB.cell (U_below HB1.out _ _ _ hb h) hb
          have up2 : ∀ {b o : Nat} {v : Value}, U w b o = some v → b < w.heap.size → U W1 b o = some v := fun h hb => U_below PB.out _ _ _ hb h
          have e1 := up (up2 hu1 hb) hbB
          have e2 := up (up2 hu2 hb) hbB
          have e3 := up (up2 hu3 hb) hbB
          have e4 := up (up2 hu4 hb) hbB
          have e5 := up (up2 hu5 hb) hbB
          have j0 := up (R1.out 0 _ rfl) hwB
          have j1 := up (R1.out 1 _ rfl) hwB
          have j2 := up (R1.out 2 _ rfl) hwB
          have j3 := up (R1.out 3 _ rfl) hwB
          have j4 := up (R1.out 4 _ rfl) hwB
          have HBW := Lib.hid hbw
          have HLT := Lib.hid (Ts.lift_take (n := n) (from_ := f) (t := x) (k := k) h.k 0 d hlt)
          obtain ⟨z1, hz1⟩ : ∃ z, (x.hd k).l.length = z := ⟨_, rfl⟩
          obtain ⟨z2, hz2⟩ : ∃ z, (x.kd k).len = z := ⟨_, rfl⟩
          obtain ⟨z3, hz3⟩ : ∃ z, h.l.length = z := ⟨_, rfl⟩
          obtain ⟨X, hX⟩ : ∃ X, x.len = X := ⟨_, rfl⟩
          rw [hz1] at e4 HRM
          rw [hz2] at e5 HRM
          clear hu1 hu2 hu3 hu4 hu5 hd1 hd2 hd3 hd4 hRL hRT up up2 hbw hz1 hz2 hz3 hX
          go_wp2_with fail
          refine wp_region_take_B B 11 (by decide) (by kernel_rfl) (by kernel_rfl) (by kernel_rfl) (fun _ _ d _ _ h => by cases d <;> exact h) ?_
          simp only [List.take_succ_cons, List.take_zero, List.map_cons, List.map_nil, bar, readKind, List.size_toArray, List.length_cons, List.length_nil, Nat.zero_add, Nat.reduceAdd, if_true, if_false, Bool.false_eq_true]
          repeat (go_big_quiet_step (fail))
          refine wpQuiet_nil ?_
          clear e1 e2 e3 e4 e5 j0 j1 j2 j3 j4
          obtain ⟨dd, hdd⟩ : ∃ dd, deeper h.k k d = dd := ⟨_, rfl⟩
          have hdd1 : dd ≤ d + 1 := by rw [← hdd]; unfold deeper; split <;> omega
          have hBw : B ≤ wr.heap.size := by have := HB1.out.size; rw [HBS.out] at this; exact this
          refine tail_step (i := 11) (fuel := 4) (by kernel_rfl) rfl (by rfl) (fun K' hK => ?_)
          go_simp
          refine (refBelow_any ⟨h.k, nn, h.a, []⟩ _ _ k d wr.drew (by omega) ⟨_, _, _, rfl⟩ ⟨_, _, _, rfl⟩).mono ?_
          rintro e wx ⟨rfl, hbx⟩
          rw [show deeper (Hd.k ⟨h.k, nn, h.a, []⟩) k d = dd from hdd]
          have hBx : Below wr.heap.size wr wx := below_step (below_drew wr) hbx
          refine hK.out _ _ ⟨⟨wx, hBx.mono hBw⟩, rfl⟩ (fun _ => ?_)
          clear hK K'
          have HC := Lib.hid ((HK.out k wx _ dd hlt (HRM.out wx (below_step HBW.out hBx)) hdd1).mono fun _ _ h => Makes.tm h)
          have HHD : Hid (((x.hd k).lift n f dd).k = (x.hd k).k ∧ ((x.hd k).lift n f dd).a = (x.hd k).a) := ⟨Hd.lift_k _ _ _ _, Hd.lift_a _ _ _ _⟩
          refine tail_step (i := 12) (fuel := 3) (by kernel_rfl) rfl (by rfl) (fun K' hK => ?_)
          go_simp
          refine HC.out.mono ?_
          rintro e wy ⟨s1, m1, c1, s2, m2, c2, S2, rfl, hby, hown, hnd⟩
          have hBy : Below wr.heap.size wr wy := below_step hBx hby
          refine hK.out _ _ ⟨⟨wy, hBy.mono hBw⟩, rfl⟩ (fun _ => ?_)
          clear hK K' HC
          obtain ⟨k1, hk1⟩ : ∃ z, ((x.hd k).lift n f dd).k = z := ⟨_, rfl⟩
          obtain ⟨k2, hk2⟩ : ∃ z, ((x.hd k).lift n f dd).n = z := ⟨_, rfl⟩
          obtain ⟨k3, hk3⟩ : ∃ z, ((x.hd k).lift n f dd).a = z := ⟨_, rfl⟩
          obtain ⟨cs, hcs⟩ : ∃ cs : List Value, [.int .i64 k1, .int .i64 k2, .int .i64 k3, .slice s1 m1 c1, .slice s2 m2 c2] = cs := ⟨_, rfl⟩
          rw [hk1, hk2, hk3] at hown ⊢
          rw [hcs] at hown
          have hBz := below_step hBy (below_alloc wy (.cells cs.toArray 26))
          have hRz := HR1.out.below hBz
          have hOz := (hown.below (below_alloc wy (.cells cs.toArray 26))).lower (Nat.le_trans hBw hBx.size)
          have hones : Ds.ones (.lit (.int .i64 k1) (.lit (.int .i64 k2) (.lit (.int .i64 k3) (.row 1 ty.l (lvDs ty ((x.hd k).lift n f dd).l) .nil (.row 5 ty.t (tDs ty ((x.kd k).lift n f (x.hd k).k 0 dd)) .nil .nil))))) := ⟨rfl, rfl, rfl, trivial⟩
          obtain ⟨v', w4, hrun4, hR5, hg, -⟩ := RowG.append (ty := 22) (k := 1) elT hRz HR1.out.lt_of hOz hnd (fun b hb => by have := (hown.mem b hb).1; have := hBx.size; omega) hones ⟨wy.heap.size, 0, none⟩ 1 (by rw [← hcs]; rfl) (new_cells _ _ 26) (by omega) (Nat.le_trans hBw hBz.size)
          have hB4 : Below B wr w4 := (hBz.mono hBw).grown hg (Nat.le_trans hBw hBz.size) hRz.ge
          have HR4 : Hid (RowG w4 B 5 26 v' (k + 1) (tDs ty ((x.take (k + 1)).lift n f h.k 0 d)) (S ++ S2)) := Lib.hid (by
            rw [HLT.out, tDs_snoc, show deeper h.k (0 + k) d = dd by rw [Nat.zero_add]; exact hdd]
            have : tDs ty (.cons ((x.hd k).lift n f dd) ((x.kd k).lift n f (x.hd k).k 0 dd) .nil) = (.lit (.int .i64 k1) (.lit (.int .i64 k2) (.lit (.int .i64 k3) (.row 1 ty.l (lvDs ty ((x.hd k).lift n f dd).l) .nil (.row 5 ty.t (tDs ty ((x.kd k).lift n f (x.hd k).k 0 dd)) .nil .nil))))) := by
              rw [← hk1, ← hk2, ← hk3]; rfl
            rw [this]
            exact hR5)
          rw [← hcs] at hrun4 hBz
          clear hcs hk1 hk2 hk3
          refine tail_step (i := 13) (fuel := 2) (by kernel_rfl) rfl (by rfl) (fun K' hK => ?_)
          go_simp
          refine hK.out _ _ ⟨⟨_, hBz.mono hBw⟩, rfl⟩ (fun _ => ?_)
          clear hK K'
          refine tail_step (i := 14) (fuel := 1) (by kernel_rfl) rfl (by rfl) (fun K' hK => ?_)
          refine wp_append_run _ _ 22 rfl _ _ _ rfl rfl hrun4 ?_
          refine hK.out _ _ ⟨⟨w4, hB4⟩, rfl⟩ (fun _ => ?_)
          clear hK K'
          refine tail_step (i := 15) (fuel := 0) (by kernel_rfl) rfl (by rfl) (fun K' hK => ?_)
          go_simp
          refine hK.out _ _ ⟨⟨w4, hB4⟩, rfl⟩ (fun _ => ?_)
          clear hK K'
          refine wpAnyH_done (by kernel_rfl) ?_ _
          have HB4 := Lib.hid (HB1.out.trans hB4)
          clear hrun4 hB4 hR5 hg hones hOz hRz hBz hown hnd hby hBy hbx hBx hdd hdd1 q4
          go_wp2_with fail
          go_roundw
          case rel => exact ⟨k + 1, _, by omega, by go_num, HB4.out, HR4.out⟩
          case measure => simp [intOf]; omega
        · obtain rfl : k = x.len := by omega
          have r1 : decide ((x.len : Int) < (x.len : Int)) = false := decide_eq_false (by omega)
          obtain ⟨p, cc, rfl, -, -⟩ := HR1.out.cap
          have HR2 : Hid (RowG wr B 5 26 (.slice p x.len cc) x.len (tDs ty (x.lift n f h.k 0 d)) S) := Lib.hid (by have := HR1.out; rw [Ts.take_len] at this; exact this)
          have hwB : w.heap.size + 1 < B := by have := HBB.out; omega
          have up : ∀ {b o : Nat} {v : Value}, U W1 b o = some v → b < B → U wr b o = some v := fun h hb => U_below HB1.out _ _ _ hb h
          have j0 := U_cell (up (R1.out 0 _ rfl) (by omega))
          have j1 := U_cell (up (R1.out 1 _ rfl) (by omega))
          have j2 := U_cell (up (R1.out 2 _ rfl) (by omega))
          have j3 := U_cell (up (R1.out 3 _ rfl) (by omega))
          have HBW : Hid (Below w.heap.size w wr) := Lib.hid (PB.out.trans (HB1.out.mono (by omega)))
          have hBw : B ≤ wr.heap.size := by have := HB1.out.size; rw [HBS.out] at this; exact this
          have HWI := Lib.hid (refWith_any ⟨h.k, nn, h.a, h.l⟩ q r p h.l.length c x.len m x.len cc wr (HL.out.on HBW.out) HSZ.out)
          have Z : Hid (∀ o v, (#[.int .i64 0, .int .i64 0, .int .i64 0, .slice none 0 0, .slice none 0 0] : Array Value)[o]? = some v → U wr (w.heap.size + 1) o = some v) := fun o v hv => up (R2.out o v hv) hwB
          clear HR1 up
          go_wp2_with fail
          refine HWI.out.mono ?_
          rintro e wy ⟨q', n', c', S1, rfl, hby, ho, hn⟩
          have z2 : ∀ o v, (#[.int .i64 0, .int .i64 0, .int .i64 0, .slice none 0 0, .slice none 0 0] : Array Value)[o]? = some v → U wy (w.heap.size + 1) o = some v := fun o v hv => U_below hby _ _ _ (by omega) (Z.out o v hv)
          have m0 := U_cell (z2 0 _ rfl)
          have m1 := U_cell (z2 1 _ rfl)
          have m2 := U_cell (z2 2 _ rfl)
          have m3 := U_cell (z2 3 _ rfl)
          have m4 := U_cell (z2 4 _ rfl)
          have o0 := U_frozen (z2 0 _ rfl)
          have o1 := U_frozen (z2 1 _ rfl)
          have o2 := U_frozen (z2 2 _ rfl)
          have o3 := U_frozen (z2 3 _ rfl)
          have o4 := U_frozen (z2 4 _ rfl)
          have HBY := Lib.hid (below_step HBW.out hby)
          have HO := Lib.hid ho
          have HN := Lib.hid hn
          have HRY := Lib.hid (HR2.out.below hby)
          have HM := Lib.hid HR2.out.lt_of
          have Z2 := Lib.hid z2
          clear hby ho hn z2 j0 j1 j2 j3 q4
          go_wp2_with fail
          obtain ⟨W, hW⟩ : ∃ W, ((((wy.setCell ⟨w.heap.size + 1, 0, none⟩ (.int .i64 h.k)).setCell ⟨w.heap.size + 1, 1, none⟩ (.int .i64 nn)).setCell ⟨w.heap.size + 1, 2, none⟩ (.int .i64 h.a)).setCell ⟨w.heap.size + 1, 3, none⟩ (.slice q' n' c')).setCell ⟨w.heap.size + 1, 4, none⟩ (.slice p x.len cc) = W := ⟨_, rfl⟩
          obtain ⟨x0, x1, x2, x3, x4, hkW⟩ := five_set (Z2.out 0 _ rfl) (Z2.out 1 _ rfl) (Z2.out 2 _ rfl) (Z2.out 3 _ rfl) (Z2.out 4 _ rfl) hW
          have hBF : Below w.heap.size w W := by
            rw [← hW]
            exact ((((HBY.out.setCell (p := ⟨w.heap.size + 1, 0, none⟩) (Nat.le_succ _) _).setCell (p := ⟨w.heap.size + 1, 1, none⟩) (Nat.le_succ _) _).setCell (p := ⟨w.heap.size + 1, 2, none⟩) (Nat.le_succ _) _).setCell (p := ⟨w.heap.size + 1, 3, none⟩) (Nat.le_succ _) _).setCell (p := ⟨w.heap.size + 1, 4, none⟩) (Nat.le_succ _) _
          rw [hW]
          have hd0 : tDs ty (.cons (h.lift n f d) (x.lift n f h.k 0 d) .nil) = .lit (.int .i64 h.k) (.lit (.int .i64 nn) (.lit (.int .i64 h.a) (.row 1 43 (lvDs ty h.l) .nil (.row 5 26 (tDs ty (x.lift n f h.k 0 d)) .nil .nil)))) := by
            show Ds.lit (.int .i64 (h.lift n f d).k) (.lit (.int .i64 (h.lift n f d).n) (.lit (.int .i64 (h.lift n f d).a) (.row 1 43 (lvDs ty (h.lift n f d).l) .nil (.row 5 26 (tDs ty (x.lift n f h.k 0 d)) .nil .nil)))) = _
            rw [Hd.lift_k, Hd.lift_a, Hd.lift_l, HNN.out]
          have hown : Own wy w.heap.size (.lit (.int .i64 h.k) (.lit (.int .i64 nn) (.lit (.int .i64 h.a) (.row 1 43 (lvDs ty h.l) .nil (.row 5 26 (tDs ty (x.lift n f h.k 0 d)) .nil .nil))))) [.int .i64 h.k, .int .i64 nn, .int .i64 h.a, .slice q' n' c', .slice p x.len cc] (S1 ++ ((Value.slice p x.len cc).ownBlock.toList ++ S)) :=
            ⟨_, rfl, _, rfl, _, rfl, Own.app (HRY.out.own.lower (by omega)) (HO.out.lower (by have := HBW.out.size; omega))⟩
          have hge : ∀ b ∈ S1 ++ ((Value.slice p x.len cc).ownBlock.toList ++ S), w.heap.size + 2 ≤ b := by
            intro b hb
            rcases List.mem_append.1 hb with hb | hb
            · have := (HO.out.mem b hb).1; omega
            · have := (HR2.out.mem b hb).1; have := HBB.out; omega
          rw [hd0]
          refine bodyPost_ret (v := .agg #[.int .i64 h.k, .int .i64 nn, .int .i64 h.a, .slice q' n' c', .slice p x.len cc]) (by simp [results, Tryz.results128, go_sem, U_cell x0, U_cell x1, U_cell x2, U_cell x3, U_cell x4]) rfl ⟨[.int .i64 h.k, .int .i64 nn, .int .i64 h.a, .slice q' n' c', .slice p x.len cc], _, rfl, hBF, hown.kept (fun b hb => hkW b (by have := hge b hb; omega)), ?_⟩
          refine List.nodup_append.2 ⟨HN.out, HR2.out.nodup, fun a ha b hb e1 => ?_⟩
          have h1 := (HO.out.mem a ha).1
          have h2 := HM.out b hb
          omega
    · have b2 : decide ((d : Int) ≤ h.n) = false := decide_eq_false g2
      clear hno g1 g2
      go_wp2_with fail
      clear b1 b2 hn1
      obtain ⟨nn, hnn⟩ : ∃ nn, h.n = nn := ⟨_, rfl⟩
      obtain ⟨W1, hW1⟩ : ∃ W1, w2 = W1 := ⟨_, rfl⟩
      have HNN : Hid ((h.lift n f d).n = nn) := Lib.hid (by rw [HLF.out, ← hnn])
      have PB : Hid (Below w.heap.size w W1) := Lib.hid (by rw [← hW1]; exact HB2.out)
      have PS : Hid (W1.heap.size = w.heap.size + 2) := Lib.hid (by rw [← hW1]; exact HS2.out)
      have R1 : Hid (∀ o v, (#[.int .i64 h.k, .int .i64 nn, .int .i64 h.a, .slice q h.l.length c, .slice r x.len m] : Array Value)[o]? = some v → U W1 w.heap.size o = some v) := Lib.hid (by rw [← hW1, ← hnn]; exact P1.out)
      have R2 : Hid (∀ o v, (#[.int .i64 0, .int .i64 0, .int .i64 0, .slice none 0 0, .slice none 0 0] : Array Value)[o]? = some v → U W1 (w.heap.size + 1) o = some v) := Lib.hid (by rw [← hW1]; exact P2.out)
      rw [hW1]
      clear hW1 P1 P2 HB2 HS2 hnn c0 c1 f1
      clear hw2
      obtain ⟨B, hB⟩ : ∃ B, W1.heap.size = B := ⟨_, rfl⟩
      have HBS := Lib.hid hB
      clear hB
      go_loopw [9, 10] (fun v i wr => ∃ (k : Nat) (S : List Nat), k ≤ x.len ∧ i = .int .i64 k ∧ Below B W1 wr ∧ RowG wr B 5 26 v k (tDs ty ((x.take k).lift n f h.k 0 d)) S) (fun _ i _ => x.len - (intOf i).toNat)
      case atStart => exact ⟨0, [], Nat.zero_le _, rfl, Below.refl _ _, by rw [show Ts.lift n f h.k 0 d (Ts.take 0 x) = .nil from rfl]; exact RowG.nil _ _ _ _⟩
      case round =>
        obtain ⟨k, S, hk, rfl, hB1, hR1⟩ := hrel
        have HB1 := Lib.hid hB1
        have HR1 := Lib.hid hR1
        have hb1 : w.heap.size + 2 = B := by rw [← HBS.out]; exact PS.out.symm
        have HBB := Lib.hid hb1
        have q4 := U_cell (U_below hB1 _ _ _ (by omega) (R1.out 4 _ rfl))
        clear hB1 hR1 hb1
        by_cases hlt : k < x.len
        · have r1 : decide ((k : Int) < (x.len : Int)) = true := decide_eq_true (by omega)
          have i1 : (k : Int) < (x.len : Int) := by omega
          obtain ⟨b, o, rfl, hb, hu1, hu2, hu3, ⟨r2, d2, hu4, hd1, hd2, hRL⟩, ⟨r3, d3, hu5, hd3, hd4, hRT⟩⟩ := HX.out.at_ hlt
          have hbB : b < B := by have := HBB.out; omega
          have hwB : w.heap.size < B := by have := HBB.out; omega
          have hbw : Below w.heap.size w wr := PB.out.trans (HB1.out.mono (by omega))
          have HRM : Hid (∀ W, Below w.heap.size w W → RM ty W (.agg #[.int .i64 (x.hd k).k, .int .i64 (x.hd k).n, .int .i64 (x.hd k).a, .slice r2 (x.hd k).l.length d2, .slice r3 (x.kd k).len d3]) (x.hd k) (x.kd k)) := fun W hW => ⟨r2, _, d2, r3, _, d3, rfl, hRL.on hW, hRT.on hW⟩
          have up : ∀ {b o : Nat} {v : Value}, U W1 b o = some v → b < B → ∀ n : GrownB B wr, n.it.cell? ⟨b, o, none⟩ = some v := fun h hb => GrownB.cell (U_below HB1.out _ _ _ hb h) hb
          have up2 : ∀ {b o : Nat} {v : Value}, U w b o = some v → b < w.heap.size → U W1 b o = some v := fun h hb => U_below PB.out _ _ _ hb h
          have e1 := up (up2 hu1 hb) hbB
          have e2 := up (up2 hu2 hb) hbB
          have e3 := up (up2 hu3 hb) hbB
          have e4 := up (up2 hu4 hb) hbB
          have e5 := up (up2 hu5 hb) hbB
          have j0 := up (R1.out 0 _ rfl) hwB
          have j1 := up (R1.out 1 _ rfl) hwB
          have j2 := up (R1.out 2 _ rfl) hwB
          have j3 := up (R1.out 3 _ rfl) hwB
          have j4 := up (R1.out 4 _ rfl) hwB
          have HBW := Lib.hid hbw
          have HLT := Lib.hid (Ts.lift_take (n := n) (from_ := f) (t := x) (k := k) h.k 0 d hlt)
          obtain ⟨z1, hz1⟩ : ∃ z, (x.hd k).l.length = z := ⟨_, rfl⟩
          obtain ⟨z2, hz2⟩ : ∃ z, (x.kd k).len = z := ⟨_, rfl⟩
          obtain ⟨z3, hz3⟩ : ∃ z, h.l.length = z := ⟨_, rfl⟩
          obtain ⟨X, hX⟩ : ∃ X, x.len = X := ⟨_, rfl⟩
          rw [hz1] at e4 HRM
          rw [hz2] at e5 HRM
          clear hu1 hu2 hu3 hu4 hu5 hd1 hd2 hd3 hd4 hRL hRT up up2 hbw hz1 hz2 hz3 hX
          go_wp2_with fail
          refine wp_region_take_B B 11 (by decide) (by kernel_rfl) (by kernel_rfl) (by kernel_rfl) (fun _ _ d _ _ h => by cases d <;> exact h) ?_
          simp only [List.take_succ_cons, List.take_zero, List.map_cons, List.map_nil, bar, readKind, List.size_toArray, List.length_cons, List.length_nil, Nat.zero_add, Nat.reduceAdd, if_true, if_false, Bool.false_eq_true]
          repeat (go_big_quiet_step (fail))
          refine wpQuiet_nil ?_
          clear e1 e2 e3 e4 e5 j0 j1 j2 j3 j4
          obtain ⟨dd, hdd⟩ : ∃ dd, deeper h.k k d = dd := ⟨_, rfl⟩
          have hdd1 : dd ≤ d + 1 := by rw [← hdd]; unfold deeper; split <;> omega
          have hBw : B ≤ wr.heap.size := by have := HB1.out.size; rw [HBS.out] at this; exact this
          refine tail_step (i := 11) (fuel := 4) (by kernel_rfl) rfl (by rfl) (fun K' hK => ?_)
          go_simp
          refine (refBelow_any ⟨h.k, nn, h.a, []⟩ _ _ k d wr.drew (by omega) ⟨_, _, _, rfl⟩ ⟨_, _, _, rfl⟩).mono ?_
          rintro e wx ⟨rfl, hbx⟩
          rw [show deeper (Hd.k ⟨h.k, nn, h.a, []⟩) k d = dd from hdd]
          have hBx : Below wr.heap.size wr wx := below_step (below_drew wr) hbx
          refine hK.out _ _ ⟨⟨wx, hBx.mono hBw⟩, rfl⟩ (fun _ => ?_)
          clear hK K'
          have HC := Lib.hid ((HK.out k wx _ dd hlt (HRM.out wx (below_step HBW.out hBx)) hdd1).mono fun _ _ h => Makes.tm h)
          have HHD : Hid (((x.hd k).lift n f dd).k = (x.hd k).k ∧ ((x.hd k).lift n f dd).a = (x.hd k).a) := ⟨Hd.lift_k _ _ _ _, Hd.lift_a _ _ _ _⟩
          refine tail_step (i := 12) (fuel := 3) (by kernel_rfl) rfl (by rfl) (fun K' hK => ?_)
          go_simp
          refine HC.out.mono ?_
          rintro e wy ⟨s1, m1, c1, s2, m2, c2, S2, rfl, hby, hown, hnd⟩
          have hBy : Below wr.heap.size wr wy := below_step hBx hby
          refine hK.out _ _ ⟨⟨wy, hBy.mono hBw⟩, rfl⟩ (fun _ => ?_)
          clear hK K' HC
          obtain ⟨k1, hk1⟩ : ∃ z, ((x.hd k).lift n f dd).k = z := ⟨_, rfl⟩
          obtain ⟨k2, hk2⟩ : ∃ z, ((x.hd k).lift n f dd).n = z := ⟨_, rfl⟩
          obtain ⟨k3, hk3⟩ : ∃ z, ((x.hd k).lift n f dd).a = z := ⟨_, rfl⟩
          obtain ⟨cs, hcs⟩ : ∃ cs : List Value, [.int .i64 k1, .int .i64 k2, .int .i64 k3, .slice s1 m1 c1, .slice s2 m2 c2] = cs := ⟨_, rfl⟩
          rw [hk1, hk2, hk3] at hown ⊢
          rw [hcs] at hown
          have hBz := below_step hBy (below_alloc wy (.cells cs.toArray 26))
          have hRz := HR1.out.below hBz
          have hOz := (hown.below (below_alloc wy (.cells cs.toArray 26))).lower (Nat.le_trans hBw hBx.size)
          have hones : Ds.ones (.lit (.int .i64 k1) (.lit (.int .i64 k2) (.lit (.int .i64 k3) (.row 1 ty.l (lvDs ty ((x.hd k).lift n f dd).l) .nil (.row 5 ty.t (tDs ty ((x.kd k).lift n f (x.hd k).k 0 dd)) .nil .nil))))) := ⟨rfl, rfl, rfl, trivial⟩
          obtain ⟨v', w4, hrun4, hR5, hg, -⟩ := RowG.append (ty := 22) (k := 1) elT hRz HR1.out.lt_of hOz hnd (fun b hb => by have := (hown.mem b hb).1; have := hBx.size; omega) hones ⟨wy.heap.size, 0, none⟩ 1 (by rw [← hcs]; rfl) (new_cells _ _ 26) (by omega) (Nat.le_trans hBw hBz.size)
          have hB4 : Below B wr w4 := (hBz.mono hBw).grown hg (Nat.le_trans hBw hBz.size) hRz.ge
          have HR4 : Hid (RowG w4 B 5 26 v' (k + 1) (tDs ty ((x.take (k + 1)).lift n f h.k 0 d)) (S ++ S2)) := Lib.hid (by
            rw [HLT.out, tDs_snoc, show deeper h.k (0 + k) d = dd by rw [Nat.zero_add]; exact hdd]
            have : tDs ty (.cons ((x.hd k).lift n f dd) ((x.kd k).lift n f (x.hd k).k 0 dd) .nil) = (.lit (.int .i64 k1) (.lit (.int .i64 k2) (.lit (.int .i64 k3) (.row 1 ty.l (lvDs ty ((x.hd k).lift n f dd).l) .nil (.row 5 ty.t (tDs ty ((x.kd k).lift n f (x.hd k).k 0 dd)) .nil .nil))))) := by
              rw [← hk1, ← hk2, ← hk3]; rfl
            rw [this]
            exact hR5)
          rw [← hcs] at hrun4 hBz
          clear hcs hk1 hk2 hk3
          refine tail_step (i := 13) (fuel := 2) (by kernel_rfl) rfl (by rfl) (fun K' hK => ?_)
          go_simp
          refine hK.out _ _ ⟨⟨_, hBz.mono hBw⟩, rfl⟩ (fun _ => ?_)
          clear hK K'
          refine tail_step (i := 14) (fuel := 1) (by kernel_rfl) rfl (by rfl) (fun K' hK => ?_)
          refine wp_append_run _ _ 22 rfl _ _ _ rfl rfl hrun4 ?_
          refine hK.out _ _ ⟨⟨w4, hB4⟩, rfl⟩ (fun _ => ?_)
          clear hK K'
          refine tail_step (i := 15) (fuel := 0) (by kernel_rfl) rfl (by rfl) (fun K' hK => ?_)
          go_simp
          refine hK.out _ _ ⟨⟨w4, hB4⟩, rfl⟩ (fun _ => ?_)
          clear hK K'
          refine wpAnyH_done (by kernel_rfl) ?_ _
          have HB4 := Lib.hid (HB1.out.trans hB4)
          clear hrun4 hB4 hR5 hg hones hOz hRz hBz hown hnd hby hBy hbx hBx hdd hdd1 q4
          go_wp2_with fail
          go_roundw
          case rel => exact ⟨k + 1, _, by omega, by go_num, HB4.out, HR4.out⟩
          case measure => simp [intOf]; omega
        · obtain rfl : k = x.len := by omega
          have r1 : decide ((x.len : Int) < (x.len : Int)) = false := decide_eq_false (by omega)
          obtain ⟨p, cc, rfl, -, -⟩ := HR1.out.cap
          have HR2 : Hid (RowG wr B 5 26 (.slice p x.len cc) x.len (tDs ty (x.lift n f h.k 0 d)) S) := Lib.hid (by have := HR1.out; rw [Ts.take_len] at this; exact this)
          have hwB : w.heap.size + 1 < B := by have := HBB.out; omega
          have up : ∀ {b o : Nat} {v : Value}, U W1 b o = some v → b < B → U wr b o = some v := fun h hb => U_below HB1.out _ _ _ hb h
          have j0 := U_cell (up (R1.out 0 _ rfl) (by omega))
          have j1 := U_cell (up (R1.out 1 _ rfl) (by omega))
          have j2 := U_cell (up (R1.out 2 _ rfl) (by omega))
          have j3 := U_cell (up (R1.out 3 _ rfl) (by omega))
          have HBW : Hid (Below w.heap.size w wr) := Lib.hid (PB.out.trans (HB1.out.mono (by omega)))
          have hBw : B ≤ wr.heap.size := by have := HB1.out.size; rw [HBS.out] at this; exact this
          have HWI := Lib.hid (refWith_any ⟨h.k, nn, h.a, h.l⟩ q r p h.l.length c x.len m x.len cc wr (HL.out.on HBW.out) HSZ.out)
          have Z : Hid (∀ o v, (#[.int .i64 0, .int .i64 0, .int .i64 0, .slice none 0 0, .slice none 0 0] : Array Value)[o]? = some v → U wr (w.heap.size + 1) o = some v) := fun o v hv => up (R2.out o v hv) hwB
          clear HR1 up
          go_wp2_with fail
          refine HWI.out.mono ?_
          rintro e wy ⟨q', n', c', S1, rfl, hby, ho, hn⟩
          have z2 : ∀ o v, (#[.int .i64 0, .int .i64 0, .int .i64 0, .slice none 0 0, .slice none 0 0] : Array Value)[o]? = some v → U wy (w.heap.size + 1) o = some v := fun o v hv => U_below hby _ _ _ (by omega) (Z.out o v hv)
          have m0 := U_cell (z2 0 _ rfl)
          have m1 := U_cell (z2 1 _ rfl)
          have m2 := U_cell (z2 2 _ rfl)
          have m3 := U_cell (z2 3 _ rfl)
          have m4 := U_cell (z2 4 _ rfl)
          have o0 := U_frozen (z2 0 _ rfl)
          have o1 := U_frozen (z2 1 _ rfl)
          have o2 := U_frozen (z2 2 _ rfl)
          have o3 := U_frozen (z2 3 _ rfl)
          have o4 := U_frozen (z2 4 _ rfl)
          have HBY := Lib.hid (below_step HBW.out hby)
          have HO := Lib.hid ho
          have HN := Lib.hid hn
          have HRY := Lib.hid (HR2.out.below hby)
          have HM := Lib.hid HR2.out.lt_of
          have Z2 := Lib.hid z2
          clear hby ho hn z2 j0 j1 j2 j3 q4
          go_wp2_with fail
          obtain ⟨W, hW⟩ : ∃ W, ((((wy.setCell ⟨w.heap.size + 1, 0, none⟩ (.int .i64 h.k)).setCell ⟨w.heap.size + 1, 1, none⟩ (.int .i64 nn)).setCell ⟨w.heap.size + 1, 2, none⟩ (.int .i64 h.a)).setCell ⟨w.heap.size + 1, 3, none⟩ (.slice q' n' c')).setCell ⟨w.heap.size + 1, 4, none⟩ (.slice p x.len cc) = W := ⟨_, rfl⟩
          obtain ⟨x0, x1, x2, x3, x4, hkW⟩ := five_set (Z2.out 0 _ rfl) (Z2.out 1 _ rfl) (Z2.out 2 _ rfl) (Z2.out 3 _ rfl) (Z2.out 4 _ rfl) hW
          have hBF : Below w.heap.size w W := by
            rw [← hW]
            exact ((((HBY.out.setCell (p := ⟨w.heap.size + 1, 0, none⟩) (Nat.le_succ _) _).setCell (p := ⟨w.heap.size + 1, 1, none⟩) (Nat.le_succ _) _).setCell (p := ⟨w.heap.size + 1, 2, none⟩) (Nat.le_succ _) _).setCell (p := ⟨w.heap.size + 1, 3, none⟩) (Nat.le_succ _) _).setCell (p := ⟨w.heap.size + 1, 4, none⟩) (Nat.le_succ _) _
          rw [hW]
          have hd0 : tDs ty (.cons (h.lift n f d) (x.lift n f h.k 0 d) .nil) = .lit (.int .i64 h.k) (.lit (.int .i64 nn) (.lit (.int .i64 h.a) (.row 1 43 (lvDs ty h.l) .nil (.row 5 26 (tDs ty (x.lift n f h.k 0 d)) .nil .nil)))) := by
            show Ds.lit (.int .i64 (h.lift n f d).k) (.lit (.int .i64 (h.lift n f d).n) (.lit (.int .i64 (h.lift n f d).a) (.row 1 43 (lvDs ty (h.lift n f d).l) .nil (.row 5 26 (tDs ty (x.lift n f h.k 0 d)) .nil .nil)))) = _
            rw [Hd.lift_k, Hd.lift_a, Hd.lift_l, HNN.out]
          have hown : Own wy w.heap.size (.lit (.int .i64 h.k) (.lit (.int .i64 nn) (.lit (.int .i64 h.a) (.row 1 43 (lvDs ty h.l) .nil (.row 5 26 (tDs ty (x.lift n f h.k 0 d)) .nil .nil))))) [.int .i64 h.k, .int .i64 nn, .int .i64 h.a, .slice q' n' c', .slice p x.len cc] (S1 ++ ((Value.slice p x.len cc).ownBlock.toList ++ S)) :=
            ⟨_, rfl, _, rfl, _, rfl, Own.app (HRY.out.own.lower (by omega)) (HO.out.lower (by have := HBW.out.size; omega))⟩
          have hge : ∀ b ∈ S1 ++ ((Value.slice p x.len cc).ownBlock.toList ++ S), w.heap.size + 2 ≤ b := by
            intro b hb
            rcases List.mem_append.1 hb with hb | hb
            · have := (HO.out.mem b hb).1; omega
            · have := (HR2.out.mem b hb).1; have := HBB.out; omega
          rw [hd0]
          refine bodyPost_ret (v := .agg #[.int .i64 h.k, .int .i64 nn, .int .i64 h.a, .slice q' n' c', .slice p x.len cc]) (by simp [results, Tryz.results128, go_sem, U_cell x0, U_cell x1, U_cell x2, U_cell x3, U_cell x4]) rfl ⟨[.int .i64 h.k, .int .i64 nn, .int .i64 h.a, .slice q' n' c', .slice p x.len cc], _, rfl, hBF, hown.kept (fun b hb => hkW b (by have := hge b hb; omega)), ?_⟩
          refine List.nodup_append.2 ⟨HN.out, HR2.out.nodup, fun a ha b hb e1 => ?_⟩
          have h1 := (HO.out.mem a ha).1
          have h2 := HM.out b hb
          omega
  · have b1 : (h.k == 1) = false := by simpa using g1
    clear hno g1
    go_wp2_with fail
    clear b1 hn1
    obtain ⟨nn, hnn⟩ : ∃ nn, h.n = nn := ⟨_, rfl⟩
    obtain ⟨W1, hW1⟩ : ∃ W1, w2 = W1 := ⟨_, rfl⟩
    have HNN : Hid ((h.lift n f d).n = nn) := Lib.hid (by rw [HLF.out, ← hnn])
    have PB : Hid (Below w.heap.size w W1) := Lib.hid (by rw [← hW1]; exact HB2.out)
    have PS : Hid (W1.heap.size = w.heap.size + 2) := Lib.hid (by rw [← hW1]; exact HS2.out)
    have R1 : Hid (∀ o v, (#[.int .i64 h.k, .int .i64 nn, .int .i64 h.a, .slice q h.l.length c, .slice r x.len m] : Array Value)[o]? = some v → U W1 w.heap.size o = some v) := Lib.hid (by rw [← hW1, ← hnn]; exact P1.out)
    have R2 : Hid (∀ o v, (#[.int .i64 0, .int .i64 0, .int .i64 0, .slice none 0 0, .slice none 0 0] : Array Value)[o]? = some v → U W1 (w.heap.size + 1) o = some v) := Lib.hid (by rw [← hW1]; exact P2.out)
    rw [hW1]
    clear hW1 P1 P2 HB2 HS2 hnn c0 c1 f1
    clear hw2
    obtain ⟨B, hB⟩ : ∃ B, W1.heap.size = B := ⟨_, rfl⟩
    have HBS := Lib.hid hB
    clear hB
    go_loopw [9, 10] (fun v i wr => ∃ (k : Nat) (S : List Nat), k ≤ x.len ∧ i = .int .i64 k ∧ Below B W1 wr ∧ RowG wr B 5 26 v k (tDs ty ((x.take k).lift n f h.k 0 d)) S) (fun _ i _ => x.len - (intOf i).toNat)
    case atStart => exact ⟨0, [], Nat.zero_le _, rfl, Below.refl _ _, by rw [show Ts.lift n f h.k 0 d (Ts.take 0 x) = .nil from rfl]; exact RowG.nil _ _ _ _⟩
    case round =>
      obtain ⟨k, S, hk, rfl, hB1, hR1⟩ := hrel
      have HB1 := Lib.hid hB1
      have HR1 := Lib.hid hR1
      have hb1 : w.heap.size + 2 = B := by rw [← HBS.out]; exact PS.out.symm
      have HBB := Lib.hid hb1
      have q4 := U_cell (U_below hB1 _ _ _ (by omega) (R1.out 4 _ rfl))
      clear hB1 hR1 hb1
      by_cases hlt : k < x.len
      · have r1 : decide ((k : Int) < (x.len : Int)) = true := decide_eq_true (by omega)
        have i1 : (k : Int) < (x.len : Int) := by omega
        obtain ⟨b, o, rfl, hb, hu1, hu2, hu3, ⟨r2, d2, hu4, hd1, hd2, hRL⟩, ⟨r3, d3, hu5, hd3, hd4, hRT⟩⟩ := HX.out.at_ hlt
        have hbB : b < B := by have := HBB.out; omega
        have hwB : w.heap.size < B := by have := HBB.out; omega
        have hbw : Below w.heap.size w wr := PB.out.trans (HB1.out.mono (by omega))
        have HRM : Hid (∀ W, Below w.heap.size w W → RM ty W (.agg #[.int .i64 (x.hd k).k, .int .i64 (x.hd k).n, .int .i64 (x.hd k).a, .slice r2 (x.hd k).l.length d2, .slice r3 (x.kd k).len d3]) (x.hd k) (x.kd k)) := fun W hW => ⟨r2, _, d2, r3, _, d3, rfl, hRL.on hW, hRT.on hW⟩
        have up : ∀ {b o : Nat} {v : Value}, U W1 b o = some v → b < B → ∀ n : GrownB B wr, n.it.cell? ⟨b, o, none⟩ = some v := fun h hb => GrownB.cell (U_below HB1.out _ _ _ hb h) hb
        have up2 : ∀ {b o : Nat} {v : Value}, U w b o = some v → b < w.heap.size → U W1 b o = some v := fun h hb => U_below PB.out _ _ _ hb h
        have e1 := up (up2 hu1 hb) hbB
        have e2 := up (up2 hu2 hb) hbB
        have e3 := up (up2 hu3 hb) hbB
        have e4 := up (up2 hu4 hb) hbB
        have e5 := up (up2 hu5 hb) hbB
        have j0 := up (R1.out 0 _ rfl) hwB
        have j1 := up (R1.out 1 _ rfl) hwB
        have j2 := up (R1.out 2 _ rfl) hwB
        have j3 := up (R1.out 3 _ rfl) hwB
        have j4 := up (R1.out 4 _ rfl) hwB
        have HBW := Lib.hid hbw
        have HLT := Lib.hid (Ts.lift_take (n := n) (from_ := f) (t := x) (k := k) h.k 0 d hlt)
        obtain ⟨z1, hz1⟩ : ∃ z, (x.hd k).l.length = z := ⟨_, rfl⟩
        obtain ⟨z2, hz2⟩ : ∃ z, (x.kd k).len = z := ⟨_, rfl⟩
        obtain ⟨z3, hz3⟩ : ∃ z, h.l.length = z := ⟨_, rfl⟩
        obtain ⟨X, hX⟩ : ∃ X, x.len = X := ⟨_, rfl⟩
        rw [hz1] at e4 HRM
        rw [hz2] at e5 HRM
        clear hu1 hu2 hu3 hu4 hu5 hd1 hd2 hd3 hd4 hRL hRT up up2 hbw hz1 hz2 hz3 hX
        go_wp2_with fail
        refine wp_region_take_B B 11 (by decide) (by kernel_rfl) (by kernel_rfl) (by kernel_rfl) (fun _ _ d _ _ h => by cases d <;> exact h) ?_
        simp only [List.take_succ_cons, List.take_zero, List.map_cons, List.map_nil, bar, readKind, List.size_toArray, List.length_cons, List.length_nil, Nat.zero_add, Nat.reduceAdd, if_true, if_false, Bool.false_eq_true]
        repeat (go_big_quiet_step (fail))
        refine wpQuiet_nil ?_
        clear e1 e2 e3 e4 e5 j0 j1 j2 j3 j4
        obtain ⟨dd, hdd⟩ : ∃ dd, deeper h.k k d = dd := ⟨_, rfl⟩
        have hdd1 : dd ≤ d + 1 := by rw [← hdd]; unfold deeper; split <;> omega
        have hBw : B ≤ wr.heap.size := by have := HB1.out.size; rw [HBS.out] at this; exact this
        refine tail_step (i := 11) (fuel := 4) (by kernel_rfl) rfl (by rfl) (fun K' hK => ?_)
        go_simp
        refine (refBelow_any ⟨h.k, nn, h.a, []⟩ _ _ k d wr.drew (by omega) ⟨_, _, _, rfl⟩ ⟨_, _, _, rfl⟩).mono ?_
        rintro e wx ⟨rfl, hbx⟩
        rw [show deeper (Hd.k ⟨h.k, nn, h.a, []⟩) k d = dd from hdd]
        have hBx : Below wr.heap.size wr wx := below_step (below_drew wr) hbx
        refine hK.out _ _ ⟨⟨wx, hBx.mono hBw⟩, rfl⟩ (fun _ => ?_)
        clear hK K'
        have HC := Lib.hid ((HK.out k wx _ dd hlt (HRM.out wx (below_step HBW.out hBx)) hdd1).mono fun _ _ h => Makes.tm h)
        have HHD : Hid (((x.hd k).lift n f dd).k = (x.hd k).k ∧ ((x.hd k).lift n f dd).a = (x.hd k).a) := ⟨Hd.lift_k _ _ _ _, Hd.lift_a _ _ _ _⟩
        refine tail_step (i := 12) (fuel := 3) (by kernel_rfl) rfl (by rfl) (fun K' hK => ?_)
        go_simp
        refine HC.out.mono ?_
        rintro e wy ⟨s1, m1, c1, s2, m2, c2, S2, rfl, hby, hown, hnd⟩
        have hBy : Below wr.heap.size wr wy := below_step hBx hby
        refine hK.out _ _ ⟨⟨wy, hBy.mono hBw⟩, rfl⟩ (fun _ => ?_)
        clear hK K' HC
        obtain ⟨k1, hk1⟩ : ∃ z, ((x.hd k).lift n f dd).k = z := ⟨_, rfl⟩
        obtain ⟨k2, hk2⟩ : ∃ z, ((x.hd k).lift n f dd).n = z := ⟨_, rfl⟩
        obtain ⟨k3, hk3⟩ : ∃ z, ((x.hd k).lift n f dd).a = z := ⟨_, rfl⟩
        obtain ⟨cs, hcs⟩ : ∃ cs : List Value, [.int .i64 k1, .int .i64 k2, .int .i64 k3, .slice s1 m1 c1, .slice s2 m2 c2] = cs := ⟨_, rfl⟩
        rw [hk1, hk2, hk3] at hown ⊢
        rw [hcs] at hown
        have hBz := below_step hBy (below_alloc wy (.cells cs.toArray 26))
        have hRz := HR1.out.below hBz
        have hOz := (hown.below (below_alloc wy (.cells cs.toArray 26))).lower (Nat.le_trans hBw hBx.size)
        have hones : Ds.ones (.lit (.int .i64 k1) (.lit (.int .i64 k2) (.lit (.int .i64 k3) (.row 1 ty.l (lvDs ty ((x.hd k).lift n f dd).l) .nil (.row 5 ty.t (tDs ty ((x.kd k).lift n f (x.hd k).k 0 dd)) .nil .nil))))) := ⟨rfl, rfl, rfl, trivial⟩
        obtain ⟨v', w4, hrun4, hR5, hg, -⟩ := RowG.append (ty := 22) (k := 1) elT hRz HR1.out.lt_of hOz hnd (fun b hb => by have := (hown.mem b hb).1; have := hBx.size; omega) hones ⟨wy.heap.size, 0, none⟩ 1 (by rw [← hcs]; rfl) (new_cells _ _ 26) (by omega) (Nat.le_trans hBw hBz.size)
        have hB4 : Below B wr w4 := (hBz.mono hBw).grown hg (Nat.le_trans hBw hBz.size) hRz.ge
        have HR4 : Hid (RowG w4 B 5 26 v' (k + 1) (tDs ty ((x.take (k + 1)).lift n f h.k 0 d)) (S ++ S2)) := Lib.hid (by
          rw [HLT.out, tDs_snoc, show deeper h.k (0 + k) d = dd by rw [Nat.zero_add]; exact hdd]
          have : tDs ty (.cons ((x.hd k).lift n f dd) ((x.kd k).lift n f (x.hd k).k 0 dd) .nil) = (.lit (.int .i64 k1) (.lit (.int .i64 k2) (.lit (.int .i64 k3) (.row 1 ty.l (lvDs ty ((x.hd k).lift n f dd).l) .nil (.row 5 ty.t (tDs ty ((x.kd k).lift n f (x.hd k).k 0 dd)) .nil .nil))))) := by
            rw [← hk1, ← hk2, ← hk3]; rfl
          rw [this]
          exact hR5)
        rw [← hcs] at hrun4 hBz
        clear hcs hk1 hk2 hk3
        refine tail_step (i := 13) (fuel := 2) (by kernel_rfl) rfl (by rfl) (fun K' hK => ?_)
        go_simp
        refine hK.out _ _ ⟨⟨_, hBz.mono hBw⟩, rfl⟩ (fun _ => ?_)
        clear hK K'
        refine tail_step (i := 14) (fuel := 1) (by kernel_rfl) rfl (by rfl) (fun K' hK => ?_)
        refine wp_append_run _ _ 22 rfl _ _ _ rfl rfl hrun4 ?_
        refine hK.out _ _ ⟨⟨w4, hB4⟩, rfl⟩ (fun _ => ?_)
        clear hK K'
        refine tail_step (i := 15) (fuel := 0) (by kernel_rfl) rfl (by rfl) (fun K' hK => ?_)
        go_simp
        refine hK.out _ _ ⟨⟨w4, hB4⟩, rfl⟩ (fun _ => ?_)
        clear hK K'
        refine wpAnyH_done (by kernel_rfl) ?_ _
        have HB4 := Lib.hid (HB1.out.trans hB4)
        clear hrun4 hB4 hR5 hg hones hOz hRz hBz hown hnd hby hBy hbx hBx hdd hdd1 q4
        go_wp2_with fail
        go_roundw
        case rel => exact ⟨k + 1, _, by omega, by go_num, HB4.out, HR4.out⟩
        case measure => simp [intOf]; omega
      · obtain rfl : k = x.len := by omega
        have r1 : decide ((x.len : Int) < (x.len : Int)) = false := decide_eq_false (by omega)
        obtain ⟨p, cc, rfl, -, -⟩ := HR1.out.cap
        have HR2 : Hid (RowG wr B 5 26 (.slice p x.len cc) x.len (tDs ty (x.lift n f h.k 0 d)) S) := Lib.hid (by have := HR1.out; rw [Ts.take_len] at this; exact this)
        have hwB : w.heap.size + 1 < B := by have := HBB.out; omega
        have up : ∀ {b o : Nat} {v : Value}, U W1 b o = some v → b < B → U wr b o = some v := fun h hb => U_below HB1.out _ _ _ hb h
        have j0 := U_cell (up (R1.out 0 _ rfl) (by omega))
        have j1 := U_cell (up (R1.out 1 _ rfl) (by omega))
        have j2 := U_cell (up (R1.out 2 _ rfl) (by omega))
        have j3 := U_cell (up (R1.out 3 _ rfl) (by omega))
        have HBW : Hid (Below w.heap.size w wr) := Lib.hid (PB.out.trans (HB1.out.mono (by omega)))
        have hBw : B ≤ wr.heap.size := by have := HB1.out.size; rw [HBS.out] at this; exact this
        have HWI := Lib.hid (refWith_any ⟨h.k, nn, h.a, h.l⟩ q r p h.l.length c x.len m x.len cc wr (HL.out.on HBW.out) HSZ.out)
        have Z : Hid (∀ o v, (#[.int .i64 0, .int .i64 0, .int .i64 0, .slice none 0 0, .slice none 0 0] : Array Value)[o]? = some v → U wr (w.heap.size + 1) o = some v) := fun o v hv => up (R2.out o v hv) hwB
        clear HR1 up
        go_wp2_with fail
        refine HWI.out.mono ?_
        rintro e wy ⟨q', n', c', S1, rfl, hby, ho, hn⟩
        have z2 : ∀ o v, (#[.int .i64 0, .int .i64 0, .int .i64 0, .slice none 0 0, .slice none 0 0] : Array Value)[o]? = some v → U wy (w.heap.size + 1) o = some v := fun o v hv => U_below hby _ _ _ (by omega) (Z.out o v hv)
        have m0 := U_cell (z2 0 _ rfl)
        have m1 := U_cell (z2 1 _ rfl)
        have m2 := U_cell (z2 2 _ rfl)
        have m3 := U_cell (z2 3 _ rfl)
        have m4 := U_cell (z2 4 _ rfl)
        have o0 := U_frozen (z2 0 _ rfl)
        have o1 := U_frozen (z2 1 _ rfl)
        have o2 := U_frozen (z2 2 _ rfl)
        have o3 := U_frozen (z2 3 _ rfl)
        have o4 := U_frozen (z2 4 _ rfl)
        have HBY := Lib.hid (below_step HBW.out hby)
        have HO := Lib.hid ho
        have HN := Lib.hid hn
        have HRY := Lib.hid (HR2.out.below hby)
        have HM := Lib.hid HR2.out.lt_of
        have Z2 := Lib.hid z2
        clear hby ho hn z2 j0 j1 j2 j3 q4
        go_wp2_with fail
        obtain ⟨W, hW⟩ : ∃ W, ((((wy.setCell ⟨w.heap.size + 1, 0, none⟩ (.int .i64 h.k)).setCell ⟨w.heap.size + 1, 1, none⟩ (.int .i64 nn)).setCell ⟨w.heap.size + 1, 2, none⟩ (.int .i64 h.a)).setCell ⟨w.heap.size + 1, 3, none⟩ (.slice q' n' c')).setCell ⟨w.heap.size + 1, 4, none⟩ (.slice p x.len cc) = W := ⟨_, rfl⟩
        obtain ⟨x0, x1, x2, x3, x4, hkW⟩ := five_set (Z2.out 0 _ rfl) (Z2.out 1 _ rfl) (Z2.out 2 _ rfl) (Z2.out 3 _ rfl) (Z2.out 4 _ rfl) hW
        have hBF : Below w.heap.size w W := by
          rw [← hW]
          exact ((((HBY.out.setCell (p := ⟨w.heap.size + 1, 0, none⟩) (Nat.le_succ _) _).setCell (p := ⟨w.heap.size + 1, 1, none⟩) (Nat.le_succ _) _).setCell (p := ⟨w.heap.size + 1, 2, none⟩) (Nat.le_succ _) _).setCell (p := ⟨w.heap.size + 1, 3, none⟩) (Nat.le_succ _) _).setCell (p := ⟨w.heap.size + 1, 4, none⟩) (Nat.le_succ _) _
        rw [hW]
        have hd0 : tDs ty (.cons (h.lift n f d) (x.lift n f h.k 0 d) .nil) = .lit (.int .i64 h.k) (.lit (.int .i64 nn) (.lit (.int .i64 h.a) (.row 1 43 (lvDs ty h.l) .nil (.row 5 26 (tDs ty (x.lift n f h.k 0 d)) .nil .nil)))) := by
          show Ds.lit (.int .i64 (h.lift n f d).k) (.lit (.int .i64 (h.lift n f d).n) (.lit (.int .i64 (h.lift n f d).a) (.row 1 43 (lvDs ty (h.lift n f d).l) .nil (.row 5 26 (tDs ty (x.lift n f h.k 0 d)) .nil .nil)))) = _
          rw [Hd.lift_k, Hd.lift_a, Hd.lift_l, HNN.out]
        have hown : Own wy w.heap.size (.lit (.int .i64 h.k) (.lit (.int .i64 nn) (.lit (.int .i64 h.a) (.row 1 43 (lvDs ty h.l) .nil (.row 5 26 (tDs ty (x.lift n f h.k 0 d)) .nil .nil))))) [.int .i64 h.k, .int .i64 nn, .int .i64 h.a, .slice q' n' c', .slice p x.len cc] (S1 ++ ((Value.slice p x.len cc).ownBlock.toList ++ S)) :=
          ⟨_, rfl, _, rfl, _, rfl, Own.app (HRY.out.own.lower (by omega)) (HO.out.lower (by have := HBW.out.size; omega))⟩
        have hge : ∀ b ∈ S1 ++ ((Value.slice p x.len cc).ownBlock.toList ++ S), w.heap.size + 2 ≤ b := by
          intro b hb
          rcases List.mem_append.1 hb with hb | hb
          · have := (HO.out.mem b hb).1; omega
          · have := (HR2.out.mem b hb).1; have := HBB.out; omega
        rw [hd0]
        refine bodyPost_ret (v := .agg #[.int .i64 h.k, .int .i64 nn, .int .i64 h.a, .slice q' n' c', .slice p x.len cc]) (by simp [results, Tryz.results128, go_sem, U_cell x0, U_cell x1, U_cell x2, U_cell x3, U_cell x4]) rfl ⟨[.int .i64 h.k, .int .i64 nn, .int .i64 h.a, .slice q' n' c', .slice p x.len cc], _, rfl, hBF, hown.kept (fun b hb => hkW b (by have := hge b hb; omega)), ?_⟩
        refine List.nodup_append.2 ⟨HN.out, HR2.out.nodup, fun a ha b hb e1 => ?_⟩
        have h1 := (HO.out.mem a ha).1
        have h2 := HM.out b hb
        omega
end Go.Proofs.YtkcmapimcgppmaaGreatDoor
