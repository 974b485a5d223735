/-
  The program's walk by Lift's turn. Conditions: no more than 2000000 nodes, levels, parts; numbers that a word holds; the table of kinds lies where it was laid. The program's Lift. Conditions: no more than 2000000 nodes, levels, parts; numbers that a word holds; the table of kinds lies where it was laid. slices.Backward, of terms: what each round of a loop over it is given. Conditions: as each lemma states them.
-/
import Derived.Test.YtkcmapimcgppmaaGreatDoorN11
import Derived.RangeFuncFrom
import Derived.RangeFuncLeaves
import Derived.Shelf.Abstract
import Derived.OwnWalkIn
import Derived.TacticsInMore
import Derived.BigFrameIn
import Derived.LoopNIn
import Derived.LoopIn
set_option linter.all false
set_option linter.unusedVariables false
set_option linter.unusedSimpArgs false
set_option linter.unnecessarySimpa false
section
namespace Go.Proofs.YtkcmapimcgppmaaGreatDoor
open Go.RowKit

theorem RowG.setCell {w : World} {base sz e n : Nat} {v : Value} {x : Ds} {S : List Nat} (h : RowG w base sz e v n x S) {p : Addr} (hp : p.block < base) (u : Value) : RowG (w.setCell p u) base sz e v n x S := by
  obtain ⟨xs, h1, h2, h3⟩ := h
  refine ⟨xs, ⟨h1.1, ?_⟩, h2.setCell (h2.notMem hp) u, h3⟩
  rcases h1.2 with h6 | ⟨g, cap, cur, e1, h6, h7, h8⟩
  · exact .inl h6
  · have hne : g ≠ p.block := by omega
    exact .inr ⟨g, cap, cur, e1, h6, (Below.heap_setCell _ _ _ _ hne).trans h7, h8⟩

set_option maxRecDepth 100000 in
set_option maxHeartbeats 4000000 in
theorem walk_of (h : Hd) (x : Ts) (va : Value) (n f : Int) (d bf bn : Nat) (w : World) (ha : RM ty w va h x) (hf : h.fits) (hs : lvSize h.l ≤ 2000000) (hd : d ≤ 2000000000) (hxl : x.len ≤ 2000000) (hKA : KA w) (cf : U w bf 0 = some (.int .i64 f)) (cn : U w bn 0 = some (.int .i64 n))
    (hk : ∀ (k : Nat) (W : World) (v : Value) (e : Nat), k < x.len → RM ty W v (x.hd k) (x.kd k) → e ≤ d + 1 → Below w.heap.size w W → Calls Tryz.prog 126 #[.agg #[.int .i64 e, .func (.func 123) #[] #[.pointer (some ⟨bf, 0, none⟩), .pointer (some ⟨bn, 0, none⟩)]], v] W (Makes (tDs ty (.cons ((x.hd k).lift n f e) ((x.kd k).lift n f (x.hd k).k 0 e) .nil)) W)) :
    Calls Tryz.prog 126 #[.agg #[.int .i64 d, .func (.func 123) #[] #[.pointer (some ⟨bf, 0, none⟩), .pointer (some ⟨bn, 0, none⟩)]], va] w (Makes (tDs ty (.cons (h.lift n f d) (x.lift n f h.k 0 d) .nil)) w) := by
  obtain ⟨q, c, r, m, rfl, hc1, hc2, hc3, hc4, hl, hx⟩ := ha.agg
  unfold maxLen at hc2 hc4
  obtain ⟨F, hF⟩ : ∃ F, Value.func (.func 123) #[] #[.pointer (some ⟨bf, 0, none⟩), .pointer (some ⟨bn, 0, none⟩)] = F := ⟨_, rfl⟩
  obtain ⟨nl, hnl⟩ : ∃ nl, h.l.length = nl := ⟨_, rfl⟩
  rw [hnl] at hl hc1 ⊢
  obtain ⟨w2, hw2⟩ : ∃ w2, ((w.alloc (.cells #[.int .i64 d, .func (.func 123) #[] #[.pointer (some ⟨bf, 0, none⟩), .pointer (some ⟨bn, 0, none⟩)]] 166)).alloc (.cells #[.int .i64 h.k, .int .i64 h.n, .int .i64 h.a, .slice q nl c, .slice r x.len m] 26)).alloc (.cells zeros 26) = w2 := ⟨_, rfl⟩
  have hb2 : Below w.heap.size w w2 := by rw [← hw2]; exact below_step (below_step (below_alloc _ _) (below_alloc _ _)) (below_alloc _ _)
  have hs2 : w2.heap.size = w.heap.size + 3 := by rw [← hw2]; simp
  have p0 : ∀ o v, (#[.int .i64 d, F] : Array Value)[o]? = some v → U w2 w.heap.size o = some v := fun o v hv => by
    rw [← hF] at hv
    rw [← hw2]; exact U_below (below_alloc _ _) _ _ _ (by first | (simp; done) | (simp; omega)) (U_below (below_alloc _ _) _ _ _ (by simp) (laid_cell hv))
  have p1 : ∀ o v, (#[.int .i64 h.k, .int .i64 h.n, .int .i64 h.a, .slice q nl c, .slice r x.len m] : Array Value)[o]? = some v → U w2 (w.heap.size + 1) o = some v := fun o v hv => by
    have := laid_cell (w := w.alloc (.cells #[.int .i64 d, .func (.func 123) #[] #[.pointer (some ⟨bf, 0, none⟩), .pointer (some ⟨bn, 0, none⟩)]] 166)) (ty := 26) hv
    rw [World.size_alloc] at this
    rw [← hw2]; exact U_below (below_alloc _ _) _ _ _ (by simp) this
  have p2 : ∀ o v, zeros[o]? = some v → U w2 (w.heap.size + 1 + 1) o = some v := fun o v hv => by
    have := laid_cell (w := (w.alloc (.cells #[.int .i64 d, .func (.func 123) #[] #[.pointer (some ⟨bf, 0, none⟩), .pointer (some ⟨bn, 0, none⟩)]] 166)).alloc (.cells #[.int .i64 h.k, .int .i64 h.n, .int .i64 h.a, .slice q nl c, .slice r x.len m] 26)) (ty := 26) hv
    rw [World.size_alloc, World.size_alloc, hw2] at this
    exact this
  have HT := Lib.hid (turn_any h q r nl c x.len m n f d (.func 123) #[] #[.pointer (some ⟨bf, 0, none⟩), .pointer (some ⟨bn, 0, none⟩)] bf bn w2 (hl.on hb2) hs hf (by omega) (U_below hb2 _ _ _ (U_lt cf) cf) (U_below hb2 _ _ _ (U_lt cn) cn))
  have HX := Lib.hid hx
  have HB2 := Lib.hid hb2
  have HS2 := Lib.hid hs2
  have HSW2 : Hid (w.heap.size + 3 ≤ w2.heap.size) := Lib.hid (by omega)
  have P0 := Lib.hid p0
  have P1 := Lib.hid p1
  have P2 := Lib.hid p2
  have HK := Lib.hid hk
  have HKA := Lib.hid hKA
  have HF := Lib.hid hF
  rw [hF] at HT HK hw2 ⊢
  have c0 := U_cell (p0 0 _ rfl)
  have c1 := U_cell (p0 1 _ rfl)
  have d0 := U_cell (p1 0 _ rfl)
  have d1 := U_cell (p1 1 _ rfl)
  have d2 := U_cell (p1 2 _ rfl)
  have d3 := U_cell (p1 3 _ rfl)
  have d4 := U_cell (p1 4 _ rfl)
  unfold zeros at hw2
  clear hb2 hs2 p0 p1 p2 hl hx hs hf hk hKA cf cn ha hnl
  rw [← hF] at hw2 HT HK c1 ⊢
  clear hF
  go_enter Tryz.func126, Tryz.ntmps126
  go_wp2_with fail
  clear c0 c1 d0 d1 d2 d3 d4 hw2
  refine HT.out.mono ?_
  rintro en w3 ⟨q', n', c', S1, rfl, hb3, ho3, hn3⟩
  obtain ⟨k1, hk1⟩ : ∃ z, (h.lift n f d).k = z := ⟨_, rfl⟩
  obtain ⟨k2, hk2⟩ : ∃ z, (h.lift n f d).n = z := ⟨_, rfl⟩
  obtain ⟨k3, hk3⟩ : ∃ z, (h.lift n f d).a = z := ⟨_, rfl⟩
  have HK1 := Lib.hid hk1
  have HK2 := Lib.hid hk2
  have HK3 := Lib.hid hk3
  have HO3 := Lib.hid ho3
  have HN3 := Lib.hid hn3
  have HB3 := Lib.hid (below_step HB2.out hb3)
  have HS3 : Hid (w.heap.size + 3 ≤ w3.heap.size) := Lib.hid (by have := hb3.size; have := HS2.out; omega)
  have P03 : Hid (∀ o v, (#[.int .i64 d, F] : Array Value)[o]? = some v → U w3 w.heap.size o = some v) := fun o v hv => U_below hb3 _ _ _ (by have := HS2.out; omega) (P0.out o v hv)
  have P13 : Hid (∀ o v, (#[.int .i64 h.k, .int .i64 h.n, .int .i64 h.a, .slice q nl c, .slice r x.len m] : Array Value)[o]? = some v → U w3 (w.heap.size + 1) o = some v) := fun o v hv => U_below hb3 _ _ _ (by have := HS2.out; omega) (P1.out o v hv)
  have P23 : Hid (∀ o v, zeros[o]? = some v → U w3 (w.heap.size + 1 + 1) o = some v) := fun o v hv => U_below hb3 _ _ _ (by have := HS2.out; omega) (P2.out o v hv)
  rw [hk1, hk2, hk3]
  clear hb3 ho3 hn3 hk1 hk2 hk3 P0 P1 P2 HT HB2 HS2
  go_wp2_with fail
  obtain ⟨G, hG⟩ : ∃ G, w3.heap.size = G := ⟨_, rfl⟩
  obtain ⟨w5, hw5⟩ : ∃ w5, w3.alloc (.cells #[.int .i64 k1, .int .i64 k2, .int .i64 k3, .slice q' n' c', .slice none 0 0] 26) = w5 := ⟨_, rfl⟩
  rw [hw5, hG]
  have HB5 : Hid (Below G w3 w5) := Lib.hid (by rw [← hw5, ← hG]; exact below_alloc _ _)
  have HC5 : Hid (∀ o u, (#[.int .i64 k1, .int .i64 k2, .int .i64 k3, .slice q' n' c', .slice none 0 0] : Array Value)[o]? = some u → U w5 G o = some u) := fun o u hu => by rw [← hw5, ← hG]; exact laid_cell hu
  have HG : Hid (w.heap.size + 3 ≤ G) := Lib.hid (by rw [← hG]; exact HS3.out)
  have HSG : Hid (w5.heap.size = G + 1) := Lib.hid (by rw [← hw5, World.size_alloc, hG])
  have HO5 : Hid (Own w5 w2.heap.size (.row 1 43 (lvDs ty (h.lift n f d).l) .nil .nil) [.slice q' n' c'] S1 ∧ ∀ b ∈ S1, b < G) := Lib.hid ⟨by rw [← hw5]; exact HO3.out.below (below_alloc _ _), fun b hb => by rw [← hG]; exact (HO3.out.mem b hb).2⟩
  have HB35 : Hid (Below w.heap.size w w5) := Lib.hid (HB3.out.trans (HB5.out.mono (by have := HG.out; omega)))
  have P05 : Hid (∀ o v, (#[.int .i64 d, F] : Array Value)[o]? = some v → U w5 w.heap.size o = some v) := fun o v hv => U_below HB5.out _ _ _ (by have := HG.out; omega) (P03.out o v hv)
  have P15 : Hid (∀ o v, (#[.int .i64 h.k, .int .i64 h.n, .int .i64 h.a, .slice q nl c, .slice r x.len m] : Array Value)[o]? = some v → U w5 (w.heap.size + 1) o = some v) := fun o v hv => U_below HB5.out _ _ _ (by have := HG.out; omega) (P13.out o v hv)
  have P25 : Hid (∀ o v, zeros[o]? = some v → U w5 (w.heap.size + 1 + 1) o = some v) := fun o v hv => U_below HB5.out _ _ _ (by have := HG.out; omega) (P23.out o v hv)
  have HS25 : Hid (w.heap.size + 3 ≤ w2.heap.size) := Lib.hid (HSW2.out)
  clear HB5 P03 P13 P23 HO3 HB3 HS3 hw5 hG HSW2
  go_loopw [25] (fun i wr => ∃ (k : Nat) (v : Value) (S : List Nat), k ≤ x.len ∧ i = .int .i64 k ∧ Below G w5 wr ∧ (∀ o u, (#[.int .i64 k1, .int .i64 k2, .int .i64 k3, .slice q' n' c', v] : Array Value)[o]? = some u → U wr G o = some u) ∧ RowG wr (G + 1) 5 26 v k (tDs ty ((x.take k).lift n f h.k 0 d)) S) (fun i _ => x.len - (intOf i).toNat)
  case atStart => exact ⟨0, _, [], Nat.zero_le _, rfl, Below.refl _ _, HC5.out, by rw [show Ts.lift n f h.k 0 d (Ts.take 0 x) = .nil from rfl]; exact RowG.nil _ _ _ _⟩
  case round =>
    obtain ⟨k, v, S, hk, rfl, hB1, hC1, hR1⟩ := hrel
    have HB1 := Lib.hid hB1
    have HR1 := Lib.hid hR1
    obtain ⟨p, cc, rfl, hcc1, hcc2⟩ := hR1.cap
    unfold maxLen at hcc2
    have HCE := Lib.hid hC1
    have HGW : Hid (G + 1 ≤ wr.heap.size) := Lib.hid (by have := hB1.size; rw [HSG.out] at this; exact this)
    clear hB1 hR1 hC1
    by_cases hlt : k < x.len
    · have r1 : decide ((k : Int) < (x.len : Int)) = true := decide_eq_true (by omega)
      have i1 : (k : Int) < (x.len : Int) := by omega
      obtain ⟨b, o, rfl, hb, hu1, hu2, hu3, ⟨r2, d2, hu4, hd1, hd2, hRL⟩, ⟨r3, d3, hu5, hd3, hd4, hRT⟩⟩ := HX.out.at_ hlt
      unfold maxLen at hd2 hd4
      have hwr : Below w.heap.size w wr := HB35.out.trans (HB1.out.mono (by have := HG.out; omega))
      have up : ∀ {o : Nat} {v : Value}, U w b o = some v → U wr b o = some v := fun h => U_below hwr _ _ _ hb h
      have HRM : Hid (∀ W, Below w.heap.size w W → RM ty W (.agg #[.int .i64 (x.hd k).k, .int .i64 (x.hd k).n, .int .i64 (x.hd k).a, .slice r2 (x.hd k).l.length d2, .slice r3 (x.kd k).len d3]) (x.hd k) (x.kd k)) := fun W hW => ⟨r2, _, d2, r3, _, d3, rfl, hRL.on hW, hRT.on hW⟩
      have e1 := U_cell (up hu1)
      have e2 := U_cell (up hu2)
      have e3 := U_cell (up hu3)
      have e4 := U_cell (up hu4)
      have e5 := U_cell (up hu5)
      obtain ⟨z1, hz1⟩ : ∃ z, (x.hd k).l.length = z := ⟨_, rfl⟩
      obtain ⟨z2, hz2⟩ : ∃ z, (x.kd k).len = z := ⟨_, rfl⟩
      rw [hz1] at e4 HRM hd1
      rw [hz2] at e5 HRM hd3
      obtain ⟨wa, hwa⟩ : ∃ wa, wr.alloc (.cells #[.int .i64 (x.hd k).k, .int .i64 (x.hd k).n, .int .i64 (x.hd k).a, .slice r2 z1 d2, .slice r3 z2 d3] 26) = wa := ⟨_, rfl⟩
      have HWA' : Below wr.heap.size wr wa := by rw [← hwa]; exact below_alloc _ _
      have hWA := Lib.hid HWA'
      have HBA := Lib.hid (below_step hwr HWA')
      have ec : ∀ o v, (#[.int .i64 (x.hd k).k, .int .i64 (x.hd k).n, .int .i64 (x.hd k).a, .slice r2 z1 d2, .slice r3 z2 d3] : Array Value)[o]? = some v → U wa wr.heap.size o = some v := fun o v hv => by rw [← hwa]; exact laid_cell hv
      obtain ⟨ex, hex⟩ : ∃ ex : Nat → Prop, (fun b => b = G ∨ (Value.slice p k cc).ownBlock = some b) = ex := ⟨_, rfl⟩
      have HEX : Hid (∀ b, ex b ↔ (b = G ∨ (Value.slice p k cc).ownBlock = some b)) := fun b => by rw [← hex]
      have hge : ∀ b, ex b → G ≤ b ∧ b < wr.heap.size := fun b hx => by
        rcases (HEX.out b).1 hx with rfl | hx
        · exact ⟨Nat.le_refl _, by have := HGW.out; omega⟩
        · have := HR1.out.mem b (by rw [hx]; simp); omega
      have gr : ∀ {b o : Nat} {v : Value}, U w5 b o = some v → b < G → ∀ n : GrownX ex wa, n.it.cell? ⟨b, o, none⟩ = some v := fun h hb => GrownX.cell (U_below HWA' _ _ _ (by have := HGW.out; omega) (U_below HB1.out _ _ _ hb h)) (fun hx => by have := (hge _ hx).1; omega)
      have ge : ∀ {o : Nat} {v : Value}, U wa wr.heap.size o = some v → ∀ n : GrownX ex wa, n.it.cell? ⟨wr.heap.size, o, none⟩ = some v := fun h => GrownX.cell h (fun hx => by have := (hge _ hx).2; omega)
      have HFF := HF.out
      have g0 := gr (P05.out 0 _ rfl) (by have := HG.out; omega)
      have g1 := gr (P05.out 1 _ rfl) (by have := HG.out; omega)
      have g2 := gr (P15.out 0 _ rfl) (by have := HG.out; omega)
      simp only [List.getElem_toArray, List.getElem_cons_succ, List.getElem_cons_zero] at g0 g1 g2
      rw [← HFF] at g1
      have l0 := ge (ec 0 _ rfl)
      have l1 := ge (ec 1 _ rfl)
      have l2 := ge (ec 2 _ rfl)
      have l3 := ge (ec 3 _ rfl)
      have l4 := ge (ec 4 _ rfl)
      have KAf : Hid (KA wa.drew) := Lib.hid (HKA.out.on (below_step HBA.out (below_drew wa)) HKA.out.1)
      have HLT := Lib.hid (Ts.lift_take (n := n) (from_ := f) (t := x) (k := k) h.k 0 d hlt)
      obtain ⟨dd, hdd⟩ : ∃ dd, deeper h.k k d = dd := ⟨_, rfl⟩
      have HD1 : Hid (dd ≤ d + 1) := Lib.hid (by rw [← hdd]; unfold deeper; split <;> omega)
      have HDD := Lib.hid hdd
      clear hu1 hu2 hu3 hu4 hu5 hRL hRT up hwr hz1 hz2 HWA' ec hex hge gr ge HFF hdd
      go_wp2_with fail
      clear e1 e2 e3 e4 e5
      refine wp_region_take_X ex [0, 2, 3, 4, 5, 7] (by decide) (by kernel_rfl) (by kernel_rfl) (by kernel_rfl) (by kernel_rfl) (fun _ _ d _ _ h => by cases d <;> exact h) ?_
      simp only [List.map_cons, List.map_nil, List.getD_cons_zero, List.getD_cons_succ, bar, readKind, List.size_toArray, List.length_cons, List.length_nil, Nat.zero_add, Nat.reduceAdd, if_true, if_false, Bool.false_eq_true]
      repeat (go_big_quiet_step (fail))
      refine wpQuiet_nil ?_
      clear g0 g1 g2 l0 l1 l2 l3 l4 hwa
      refine tail_two (i := 1) (j := 6) (fuel := 6) (by kernel_rfl) rfl rfl (by rfl) (by rfl) (fun K' hK => ?_) (fun K' hK => ?_)
      · have hv0 := U_cell (U_below (below_step hWA.out (below_drew wa)) _ _ _ (by have := HGW.out; omega) (HCE.out 4 _ rfl))
        simp only [List.getElem_toArray, List.getElem_cons_succ, List.getElem_cons_zero] at hv0
        go_simp
        refine hK.out _ _ ⟨⟨wa.drew, fun b hb _ => ((below_drew wa)).block b hb⟩, rfl⟩ (fun _ => ?_)
        clear hK K' hv0
        refine tail_step (i := 6) (fuel := 5) (by kernel_rfl) rfl (by rfl) (fun K' hK => ?_)
        go_simp
        refine (below_any d _ _ _ h.k k wa.drew KAf.out (by omega)).mono ?_
        rintro e wx ⟨rfl, hbx⟩
        have hAx : Below wa.heap.size wa wx := below_step (below_drew wa) hbx
        rw [HDD.out]
        refine hK.out _ _ ⟨⟨wx, fun b hb _ => hAx.block b hb⟩, rfl⟩ (fun _ => ?_)
        clear hK K'
        refine tail_step (i := 8) (fuel := 4) (by kernel_rfl) rfl (by rfl) (fun K' hK => ?_)
        go_simp
        refine ((HK.out k wx _ dd hlt (HRM.out wx (below_step HBA.out hAx)) HD1.out (below_step HBA.out hAx)).mono fun _ _ h => Makes.tm h).mono ?_
        rintro e wy ⟨s1, m1, c1, s2, m2, c2, S2, rfl, hby, hown, hnd⟩
        have hAy : Below wa.heap.size wa wy := below_step hAx hby
        refine hK.out _ _ ⟨⟨wy, fun b hb _ => hAy.block b hb⟩, rfl⟩ (fun _ => ?_)
        clear hK K'
        obtain ⟨k1', hk1'⟩ : ∃ z, ((x.hd k).lift n f dd).k = z := ⟨_, rfl⟩
        obtain ⟨k2', hk2'⟩ : ∃ z, ((x.hd k).lift n f dd).n = z := ⟨_, rfl⟩
        obtain ⟨k3', hk3'⟩ : ∃ z, ((x.hd k).lift n f dd).a = z := ⟨_, rfl⟩
        obtain ⟨cs, hcs⟩ : ∃ cs : List Value, [.int .i64 k1', .int .i64 k2', .int .i64 k3', .slice s1 m1 c1, .slice s2 m2 c2] = cs := ⟨_, rfl⟩
        rw [hk1', hk2', hk3'] at hown ⊢
        rw [hcs] at hown
        obtain ⟨wz, hwz⟩ : ∃ wz, wy.alloc (.cells cs.toArray 26) = wz := ⟨_, rfl⟩
        have hBz : Below wr.heap.size wr wz := by rw [← hwz]; exact below_step (below_step hWA.out hAy) (below_alloc _ _)
        have hAz : Below wa.heap.size wa wz := by rw [← hwz]; exact below_step hAy (below_alloc _ _)
        have hRz := HR1.out.below hBz
        have hOz := (hown.below (below_alloc wy (.cells cs.toArray 26))).lower (base' := G + 1) (by have := HGW.out; have := hWA.out.size; have := hAx.size; omega)
        have hones : Ds.ones (.lit (.int .i64 k1') (.lit (.int .i64 k2') (.lit (.int .i64 k3') (.row 1 ty.l (lvDs ty ((x.hd k).lift n f dd).l) .nil (.row 5 ty.t (tDs ty ((x.kd k).lift n f (x.hd k).k 0 dd)) .nil .nil))))) := ⟨rfl, rfl, rfl, trivial⟩
        obtain ⟨v', w4, hrun4, hR5, hg, -⟩ := RowG.append (ty := 22) (k := 1) elT (by rw [hwz]; exact hRz) HR1.out.lt_of hOz hnd (fun b hb => by have := (hown.mem b hb).1; have := hAx.size; have := hWA.out.size; omega) hones ⟨wy.heap.size, 0, none⟩ 1 (by rw [← hcs]; rfl) (new_cells _ _ 26) (by omega) (by rw [hwz]; have := hBz.size; have := HGW.out; omega)
        rw [hwz] at hrun4 hg
        have hGr : Below (G + 1) wr w4 := (hBz.mono (by have := HGW.out; omega)).grown hg (by have := hBz.size; have := HGW.out; omega) hRz.ge
        have HXK : Hid (∀ b, b < wa.heap.size → ¬ ex b → w4.heap[b]? = wa.heap[b]?) := fun b hb hx => (hg.block b (Nat.lt_of_lt_of_le hb hAz.size) (fun e => hx ((HEX.out b).2 (.inr e.symm)))).trans (hAz.block b hb)
        have hGc : ∀ o u, (#[.int .i64 k1, .int .i64 k2, .int .i64 k3, .slice q' n' c', .slice p k cc] : Array Value)[o]? = some u → U w4 G o = some u := fun o u hu => U_below hGr _ _ _ (Nat.lt_succ_self _) (HCE.out o u hu)
        have hg4 := U_cell (hGc 4 _ rfl)
        have hf4 := U_frozen (hGc 4 _ rfl)
        have HGC := Lib.hid hGc
        have HGR := Lib.hid hGr
        have HR4 : Hid (RowG w4 (G + 1) 5 26 v' (k + 1) (tDs ty ((x.take (k + 1)).lift n f h.k 0 d)) (S ++ S2)) := Lib.hid (by
          rw [HLT.out, tDs_snoc, show deeper h.k (0 + k) d = dd by rw [Nat.zero_add]; exact HDD.out]
          have : tDs ty (.cons ((x.hd k).lift n f dd) ((x.kd k).lift n f (x.hd k).k 0 dd) .nil) = (.lit (.int .i64 k1') (.lit (.int .i64 k2') (.lit (.int .i64 k3') (.row 1 ty.l (lvDs ty ((x.hd k).lift n f dd).l) .nil (.row 5 ty.t (tDs ty ((x.kd k).lift n f (x.hd k).k 0 dd)) .nil .nil))))) := by
            rw [← hk1', ← hk2', ← hk3']; rfl
          rw [this]
          exact hR5)
        have HAZ := Lib.hid hAz
        obtain ⟨p2, cc2, e2, -, -⟩ := HR4.out.cap
        subst e2
        rw [← hcs] at hwz
        clear hcs hk1' hk2' hk3' hBz hRz hOz hones hR5 hg hGr hGc hown hnd hby hAz
        refine tail_step (i := 9) (fuel := 3) (by kernel_rfl) rfl (by rfl) (fun K' hK => ?_)
        go_simp
        try rw [hwz]
        refine hK.out _ _ ⟨⟨wz, fun b hb _ => HAZ.out.block b hb⟩, rfl⟩ (fun _ => ?_)
        clear hK K'
        refine tail_step (i := 10) (fuel := 2) (by kernel_rfl) rfl (by rfl) (fun K' hK => ?_)
        refine wp_append_run _ _ 22 rfl _ _ _ rfl rfl hrun4 ?_
        refine hK.out _ _ ⟨⟨w4, HXK.out⟩, rfl⟩ (fun _ => ?_)
        clear hK K'
        refine tail_step (i := 11) (fuel := 1) (by kernel_rfl) rfl (by rfl) (fun K' hK => ?_)
        go_simp
        refine hK.out _ _ ⟨⟨w4, HXK.out⟩, rfl⟩ (fun _ => ?_)
        clear hK K'
        refine tail_step (i := 12) (fuel := 0) (by kernel_rfl) rfl (by rfl) (fun K' hK => ?_)
        go_simp
        refine hK.out _ _ ⟨⟨w4.setCell ⟨G, 4, none⟩ (.slice p2 (k + 1) cc2), fun b hb hx => (Below.heap_setCell _ _ _ _ (fun e => hx ((HEX.out b).2 (.inl e)))).trans (HXK.out b hb hx)⟩, rfl⟩ (fun _ => ?_)
        clear hK K'
        refine wpAnyH_done (by kernel_rfl) ?_ _
        have HC6 : Hid (∀ o u, (#[.int .i64 k1, .int .i64 k2, .int .i64 k3, .slice q' n' c', .slice p2 (k + 1) cc2] : Array Value)[o]? = some u → U (w4.setCell ⟨G, 4, none⟩ (.slice p2 (k + 1) cc2)) G o = some u) := fun o u hu => by
          by_cases h4 : o = 4
          · subst h4
            have hv' : Value.slice p2 (k + 1) cc2 = u := by simpa using hu
            subst hv'
            exact U_set_same (HGC.out 4 _ rfl)
          · refine U_set_other (HGC.out o u ?_) (ne_off (Ne.symm h4))
            have : o < 5 := by have := (Array.getElem?_eq_some_iff.1 hu).1; simpa using this
            have hall : o = 0 ∨ o = 1 ∨ o = 2 ∨ o = 3 := by omega
            rcases hall with rfl | rfl | rfl | rfl <;> exact hu
        have HR6 := Lib.hid (HR4.out.setCell (p := ⟨G, 4, none⟩) (Nat.lt_succ_self _) (.slice p2 (k + 1) cc2))
        have HB6 := Lib.hid ((HB1.out.trans (HGR.out.mono (Nat.le_succ _))).setCell (p := ⟨G, 4, none⟩) (Nat.le_refl _) (.slice p2 (k + 1) cc2))
        obtain ⟨w6, hw6⟩ : ∃ w6, w4.setCell ⟨G, 4, none⟩ (.slice p2 (k + 1) cc2) = w6 := ⟨_, rfl⟩
        rw [hw6] at HC6 HR6 HB6 ⊢
        clear hrun4 hg4 hf4 hw6 hwz
        go_wp2_with fail
        go_roundw
        case rel => exact ⟨k + 1, _, _, by omega, by go_num, HB6.out, HC6.out, HR6.out⟩
        case measure => simp [intOf]; omega
      · go_simp
        refine (below_any d _ _ _ h.k k wa.drew KAf.out (by omega)).mono ?_
        rintro e wx ⟨rfl, hbx⟩
        have hAx : Below wa.heap.size wa wx := below_step (below_drew wa) hbx
        rw [HDD.out]
        refine hK.out _ _ ⟨⟨wx, fun b hb _ => hAx.block b hb⟩, rfl⟩ (fun _ => ?_)
        clear hK K'
        refine tail_two (i := 1) (j := 8) (fuel := 5) (by kernel_rfl) rfl rfl (by rfl) (by rfl) (fun K' hK => ?_) (fun K' hK => ?_)
        · have hv0 := U_cell (U_below (below_step hWA.out hAx) _ _ _ (by have := HGW.out; omega) (HCE.out 4 _ rfl))
          simp only [List.getElem_toArray, List.getElem_cons_succ, List.getElem_cons_zero] at hv0
          go_simp
          refine hK.out _ _ ⟨⟨wx, fun b hb _ => (hAx).block b hb⟩, rfl⟩ (fun _ => ?_)
          clear hK K' hv0
          refine tail_step (i := 8) (fuel := 4) (by kernel_rfl) rfl (by rfl) (fun K' hK => ?_)
          go_simp
          refine ((HK.out k wx _ dd hlt (HRM.out wx (below_step HBA.out hAx)) HD1.out (below_step HBA.out hAx)).mono fun _ _ h => Makes.tm h).mono ?_
          rintro e wy ⟨s1, m1, c1, s2, m2, c2, S2, rfl, hby, hown, hnd⟩
          have hAy : Below wa.heap.size wa wy := below_step hAx hby
          refine hK.out _ _ ⟨⟨wy, fun b hb _ => hAy.block b hb⟩, rfl⟩ (fun _ => ?_)
          clear hK K'
          obtain ⟨k1', hk1'⟩ : ∃ z, ((x.hd k).lift n f dd).k = z := ⟨_, rfl⟩
          obtain ⟨k2', hk2'⟩ : ∃ z, ((x.hd k).lift n f dd).n = z := ⟨_, rfl⟩
          obtain ⟨k3', hk3'⟩ : ∃ z, ((x.hd k).lift n f dd).a = z := ⟨_, rfl⟩
          obtain ⟨cs, hcs⟩ : ∃ cs : List Value, [.int .i64 k1', .int .i64 k2', .int .i64 k3', .slice s1 m1 c1, .slice s2 m2 c2] = cs := ⟨_, rfl⟩
          rw [hk1', hk2', hk3'] at hown ⊢
          rw [hcs] at hown
          obtain ⟨wz, hwz⟩ : ∃ wz, wy.alloc (.cells cs.toArray 26) = wz := ⟨_, rfl⟩
          have hBz : Below wr.heap.size wr wz := by rw [← hwz]; exact below_step (below_step hWA.out hAy) (below_alloc _ _)
          have hAz : Below wa.heap.size wa wz := by rw [← hwz]; exact below_step hAy (below_alloc _ _)
          have hRz := HR1.out.below hBz
          have hOz := (hown.below (below_alloc wy (.cells cs.toArray 26))).lower (base' := G + 1) (by have := HGW.out; have := hWA.out.size; have := hAx.size; omega)
          have hones : Ds.ones (.lit (.int .i64 k1') (.lit (.int .i64 k2') (.lit (.int .i64 k3') (.row 1 ty.l (lvDs ty ((x.hd k).lift n f dd).l) .nil (.row 5 ty.t (tDs ty ((x.kd k).lift n f (x.hd k).k 0 dd)) .nil .nil))))) := ⟨rfl, rfl, rfl, trivial⟩
          obtain ⟨v', w4, hrun4, hR5, hg, -⟩ := RowG.append (ty := 22) (k := 1) elT (by rw [hwz]; exact hRz) HR1.out.lt_of hOz hnd (fun b hb => by have := (hown.mem b hb).1; have := hAx.size; have := hWA.out.size; omega) hones ⟨wy.heap.size, 0, none⟩ 1 (by rw [← hcs]; rfl) (new_cells _ _ 26) (by omega) (by rw [hwz]; have := hBz.size; have := HGW.out; omega)
          rw [hwz] at hrun4 hg
          have hGr : Below (G + 1) wr w4 := (hBz.mono (by have := HGW.out; omega)).grown hg (by have := hBz.size; have := HGW.out; omega) hRz.ge
          have HXK : Hid (∀ b, b < wa.heap.size → ¬ ex b → w4.heap[b]? = wa.heap[b]?) := fun b hb hx => (hg.block b (Nat.lt_of_lt_of_le hb hAz.size) (fun e => hx ((HEX.out b).2 (.inr e.symm)))).trans (hAz.block b hb)
          have hGc : ∀ o u, (#[.int .i64 k1, .int .i64 k2, .int .i64 k3, .slice q' n' c', .slice p k cc] : Array Value)[o]? = some u → U w4 G o = some u := fun o u hu => U_below hGr _ _ _ (Nat.lt_succ_self _) (HCE.out o u hu)
          have hg4 := U_cell (hGc 4 _ rfl)
          have hf4 := U_frozen (hGc 4 _ rfl)
          have HGC := Lib.hid hGc
          have HGR := Lib.hid hGr
          have HR4 : Hid (RowG w4 (G + 1) 5 26 v' (k + 1) (tDs ty ((x.take (k + 1)).lift n f h.k 0 d)) (S ++ S2)) := Lib.hid (by
            rw [HLT.out, tDs_snoc, show deeper h.k (0 + k) d = dd by rw [Nat.zero_add]; exact HDD.out]
            have : tDs ty (.cons ((x.hd k).lift n f dd) ((x.kd k).lift n f (x.hd k).k 0 dd) .nil) = (.lit (.int .i64 k1') (.lit (.int .i64 k2') (.lit (.int .i64 k3') (.row 1 ty.l (lvDs ty ((x.hd k).lift n f dd).l) .nil (.row 5 ty.t (tDs ty ((x.kd k).lift n f (x.hd k).k 0 dd)) .nil .nil))))) := by
              rw [← hk1', ← hk2', ← hk3']; rfl
            rw [this]
            exact hR5)
          have HAZ := Lib.hid hAz
          obtain ⟨p2, cc2, e2, -, -⟩ := HR4.out.cap
          subst e2
          rw [← hcs] at hwz
          clear hcs hk1' hk2' hk3' hBz hRz hOz hones hR5 hg hGr hGc hown hnd hby hAz
          refine tail_step (i := 9) (fuel := 3) (by kernel_rfl) rfl (by rfl) (fun K' hK => ?_)
          go_simp
          try rw [hwz]
          refine hK.out _ _ ⟨⟨wz, fun b hb _ => HAZ.out.block b hb⟩, rfl⟩ (fun _ => ?_)
          clear hK K'
          refine tail_step (i := 10) (fuel := 2) (by kernel_rfl) rfl (by rfl) (fun K' hK => ?_)
          refine wp_append_run _ _ 22 rfl _ _ _ rfl rfl hrun4 ?_
          refine hK.out _ _ ⟨⟨w4, HXK.out⟩, rfl⟩ (fun _ => ?_)
          clear hK K'
          refine tail_step (i := 11) (fuel := 1) (by kernel_rfl) rfl (by rfl) (fun K' hK => ?_)
          go_simp
          refine hK.out _ _ ⟨⟨w4, HXK.out⟩, rfl⟩ (fun _ => ?_)
          clear hK K'
          refine tail_step (i := 12) (fuel := 0) (by kernel_rfl) rfl (by rfl) (fun K' hK => ?_)
          go_simp
          refine hK.out _ _ ⟨⟨w4.setCell ⟨G, 4, none⟩ (.slice p2 (k + 1) cc2), fun b hb hx => (Below.heap_setCell _ _ _ _ (fun e => hx ((HEX.out b).2 (.inl e)))).trans (HXK.out b hb hx)⟩, rfl⟩ (fun _ => ?_)
          clear hK K'
          refine wpAnyH_done (by kernel_rfl) ?_ _
          have HC6 : Hid (∀ o u, (#[.int .i64 k1, .int .i64 k2, .int .i64 k3, .slice q' n' c', .slice p2 (k + 1) cc2] : Array Value)[o]? = some u → U (w4.setCell ⟨G, 4, none⟩ (.slice p2 (k + 1) cc2)) G o = some u) := fun o u hu => by
            by_cases h4 : o = 4
            · subst h4
              have hv' : Value.slice p2 (k + 1) cc2 = u := by simpa using hu
              subst hv'
              exact U_set_same (HGC.out 4 _ rfl)
            · refine U_set_other (HGC.out o u ?_) (ne_off (Ne.symm h4))
              have : o < 5 := by have := (Array.getElem?_eq_some_iff.1 hu).1; simpa using this
              have hall : o = 0 ∨ o = 1 ∨ o = 2 ∨ o = 3 := by omega
              rcases hall with rfl | rfl | rfl | rfl <;> exact hu
          have HR6 := Lib.hid (HR4.out.setCell (p := ⟨G, 4, none⟩) (Nat.lt_succ_self _) (.slice p2 (k + 1) cc2))
          have HB6 := Lib.hid ((HB1.out.trans (HGR.out.mono (Nat.le_succ _))).setCell (p := ⟨G, 4, none⟩) (Nat.le_refl _) (.slice p2 (k + 1) cc2))
          obtain ⟨w6, hw6⟩ : ∃ w6, w4.setCell ⟨G, 4, none⟩ (.slice p2 (k + 1) cc2) = w6 := ⟨_, rfl⟩
          rw [hw6] at HC6 HR6 HB6 ⊢
          clear hrun4 hg4 hf4 hw6 hwz
          go_wp2_with fail
          go_roundw
          case rel => exact ⟨k + 1, _, _, by omega, by go_num, HB6.out, HC6.out, HR6.out⟩
          case measure => simp [intOf]; omega
        · go_simp
          refine ((HK.out k wx _ dd hlt (HRM.out wx (below_step HBA.out hAx)) HD1.out (below_step HBA.out hAx)).mono fun _ _ h => Makes.tm h).mono ?_
          rintro e wy ⟨s1, m1, c1, s2, m2, c2, S2, rfl, hby, hown, hnd⟩
          have hAy : Below wa.heap.size wa wy := below_step hAx hby
          refine hK.out _ _ ⟨⟨wy, fun b hb _ => hAy.block b hb⟩, rfl⟩ (fun _ => ?_)
          clear hK K'
          obtain ⟨k1', hk1'⟩ : ∃ z, ((x.hd k).lift n f dd).k = z := ⟨_, rfl⟩
          obtain ⟨k2', hk2'⟩ : ∃ z, ((x.hd k).lift n f dd).n = z := ⟨_, rfl⟩
          obtain ⟨k3', hk3'⟩ : ∃ z, ((x.hd k).lift n f dd).a = z := ⟨_, rfl⟩
          obtain ⟨cs, hcs⟩ : ∃ cs : List Value, [.int .i64 k1', .int .i64 k2', .int .i64 k3', .slice s1 m1 c1, .slice s2 m2 c2] = cs := ⟨_, rfl⟩
          rw [hk1', hk2', hk3'] at hown ⊢
          rw [hcs] at hown
          obtain ⟨wz, hwz⟩ : ∃ wz, wy.alloc (.cells cs.toArray 26) = wz := ⟨_, rfl⟩
          have hBz : Below wr.heap.size wr wz := by rw [← hwz]; exact below_step (below_step hWA.out hAy) (below_alloc _ _)
          have hAz : Below wa.heap.size wa wz := by rw [← hwz]; exact below_step hAy (below_alloc _ _)
          have hRz := HR1.out.below hBz
          have hOz := (hown.below (below_alloc wy (.cells cs.toArray 26))).lower (base' := G + 1) (by have := HGW.out; have := hWA.out.size; have := hAx.size; omega)
          have hones : Ds.ones (.lit (.int .i64 k1') (.lit (.int .i64 k2') (.lit (.int .i64 k3') (.row 1 ty.l (lvDs ty ((x.hd k).lift n f dd).l) .nil (.row 5 ty.t (tDs ty ((x.kd k).lift n f (x.hd k).k 0 dd)) .nil .nil))))) := ⟨rfl, rfl, rfl, trivial⟩
          obtain ⟨v', w4, hrun4, hR5, hg, -⟩ := RowG.append (ty := 22) (k := 1) elT (by rw [hwz]; exact hRz) HR1.out.lt_of hOz hnd (fun b hb => by have := (hown.mem b hb).1; have := hAx.size; have := hWA.out.size; omega) hones ⟨wy.heap.size, 0, none⟩ 1 (by rw [← hcs]; rfl) (new_cells _ _ 26) (by omega) (by rw [hwz]; have := hBz.size; have := HGW.out; omega)
          rw [hwz] at hrun4 hg
          have hGr : Below (G + 1) wr w4 := (hBz.mono (by have := HGW.out; omega)).grown hg (by have := hBz.size; have := HGW.out; omega) hRz.ge
          have HXK : Hid (∀ b, b < wa.heap.size → ¬ ex b → w4.heap[b]? = wa.heap[b]?) := fun b hb hx => (hg.block b (Nat.lt_of_lt_of_le hb hAz.size) (fun e => hx ((HEX.out b).2 (.inr e.symm)))).trans (hAz.block b hb)
          have hGc : ∀ o u, (#[.int .i64 k1, .int .i64 k2, .int .i64 k3, .slice q' n' c', .slice p k cc] : Array Value)[o]? = some u → U w4 G o = some u := fun o u hu => U_below hGr _ _ _ (Nat.lt_succ_self _) (HCE.out o u hu)
          have hg4 := U_cell (hGc 4 _ rfl)
          have hf4 := U_frozen (hGc 4 _ rfl)
          have HGC := Lib.hid hGc
          have HGR := Lib.hid hGr
          have HR4 : Hid (RowG w4 (G + 1) 5 26 v' (k + 1) (tDs ty ((x.take (k + 1)).lift n f h.k 0 d)) (S ++ S2)) := Lib.hid (by
            rw [HLT.out, tDs_snoc, show deeper h.k (0 + k) d = dd by rw [Nat.zero_add]; exact HDD.out]
            have : tDs ty (.cons ((x.hd k).lift n f dd) ((x.kd k).lift n f (x.hd k).k 0 dd) .nil) = (.lit (.int .i64 k1') (.lit (.int .i64 k2') (.lit (.int .i64 k3') (.row 1 ty.l (lvDs ty ((x.hd k).lift n f dd).l) .nil (.row 5 ty.t (tDs ty ((x.kd k).lift n f (x.hd k).k 0 dd)) .nil .nil))))) := by
              rw [← hk1', ← hk2', ← hk3']; rfl
            rw [this]
            exact hR5)
          have HAZ := Lib.hid hAz
          obtain ⟨p2, cc2, e2, -, -⟩ := HR4.out.cap
          subst e2
          rw [← hcs] at hwz
          clear hcs hk1' hk2' hk3' hBz hRz hOz hones hR5 hg hGr hGc hown hnd hby hAz
          refine tail_two (i := 1) (j := 9) (fuel := 4) (by kernel_rfl) rfl rfl (by rfl) (by rfl) (fun K' hK => ?_) (fun K' hK => ?_)
          · have hv0 := U_cell (U_below (below_step hWA.out hAy) _ _ _ (by have := HGW.out; omega) (HCE.out 4 _ rfl))
            simp only [List.getElem_toArray, List.getElem_cons_succ, List.getElem_cons_zero] at hv0
            go_simp
            refine hK.out _ _ ⟨⟨wy, fun b hb _ => (hAy).block b hb⟩, rfl⟩ (fun _ => ?_)
            clear hK K' hv0
            refine tail_step (i := 9) (fuel := 3) (by kernel_rfl) rfl (by rfl) (fun K' hK => ?_)
            go_simp
            try rw [hwz]
            refine hK.out _ _ ⟨⟨wz, fun b hb _ => HAZ.out.block b hb⟩, rfl⟩ (fun _ => ?_)
            clear hK K'
            refine tail_step (i := 10) (fuel := 2) (by kernel_rfl) rfl (by rfl) (fun K' hK => ?_)
            refine wp_append_run _ _ 22 rfl _ _ _ rfl rfl hrun4 ?_
            refine hK.out _ _ ⟨⟨w4, HXK.out⟩, rfl⟩ (fun _ => ?_)
            clear hK K'
            refine tail_step (i := 11) (fuel := 1) (by kernel_rfl) rfl (by rfl) (fun K' hK => ?_)
            go_simp
            refine hK.out _ _ ⟨⟨w4, HXK.out⟩, rfl⟩ (fun _ => ?_)
            clear hK K'
            refine tail_step (i := 12) (fuel := 0) (by kernel_rfl) rfl (by rfl) (fun K' hK => ?_)
            go_simp
            refine hK.out _ _ ⟨⟨w4.setCell ⟨G, 4, none⟩ (.slice p2 (k + 1) cc2), fun b hb hx => (Below.heap_setCell _ _ _ _ (fun e => hx ((HEX.out b).2 (.inl e)))).trans (HXK.out b hb hx)⟩, rfl⟩ (fun _ => ?_)
            clear hK K'
            refine wpAnyH_done (by kernel_rfl) ?_ _
            have HC6 : Hid (∀ o u, (#[.int .i64 k1, .int .i64 k2, .int .i64 k3, .slice q' n' c', .slice p2 (k + 1) cc2] : Array Value)[o]? = some u → U (w4.setCell ⟨G, 4, none⟩ (.slice p2 (k + 1) cc2)) G o = some u) := fun o u hu => by
              by_cases h4 : o = 4
              · subst h4
                have hv' : Value.slice p2 (k + 1) cc2 = u := by simpa using hu
                subst hv'
                exact U_set_same (HGC.out 4 _ rfl)
              · refine U_set_other (HGC.out o u ?_) (ne_off (Ne.symm h4))
                have : o < 5 := by have := (Array.getElem?_eq_some_iff.1 hu).1; simpa using this
                have hall : o = 0 ∨ o = 1 ∨ o = 2 ∨ o = 3 := by omega
                rcases hall with rfl | rfl | rfl | rfl <;> exact hu
            have HR6 := Lib.hid (HR4.out.setCell (p := ⟨G, 4, none⟩) (Nat.lt_succ_self _) (.slice p2 (k + 1) cc2))
            have HB6 := Lib.hid ((HB1.out.trans (HGR.out.mono (Nat.le_succ _))).setCell (p := ⟨G, 4, none⟩) (Nat.le_refl _) (.slice p2 (k + 1) cc2))
            obtain ⟨w6, hw6⟩ : ∃ w6, w4.setCell ⟨G, 4, none⟩ (.slice p2 (k + 1) cc2) = w6 := ⟨_, rfl⟩
            rw [hw6] at HC6 HR6 HB6 ⊢
            clear hrun4 hg4 hf4 hw6 hwz
            go_wp2_with fail
            go_roundw
            case rel => exact ⟨k + 1, _, _, by omega, by go_num, HB6.out, HC6.out, HR6.out⟩
            case measure => simp [intOf]; omega
          · go_simp
            try rw [hwz]
            refine hK.out _ _ ⟨⟨wz, fun b hb _ => HAZ.out.block b hb⟩, rfl⟩ (fun _ => ?_)
            clear hK K'
            refine tail_step (i := 1) (fuel := 3) (by kernel_rfl) rfl (by rfl) (fun K' hK => ?_)
            have hv0 := U_cell (U_below (below_step hWA.out HAZ.out) _ _ _ (by have := HGW.out; omega) (HCE.out 4 _ rfl))
            simp only [List.getElem_toArray, List.getElem_cons_succ, List.getElem_cons_zero] at hv0
            go_simp
            refine hK.out _ _ ⟨⟨wz, fun b hb _ => (HAZ.out).block b hb⟩, rfl⟩ (fun _ => ?_)
            clear hK K' hv0
            refine tail_step (i := 10) (fuel := 2) (by kernel_rfl) rfl (by rfl) (fun K' hK => ?_)
            refine wp_append_run _ _ 22 rfl _ _ _ rfl rfl hrun4 ?_
            refine hK.out _ _ ⟨⟨w4, HXK.out⟩, rfl⟩ (fun _ => ?_)
            clear hK K'
            refine tail_step (i := 11) (fuel := 1) (by kernel_rfl) rfl (by rfl) (fun K' hK => ?_)
            go_simp
            refine hK.out _ _ ⟨⟨w4, HXK.out⟩, rfl⟩ (fun _ => ?_)
            clear hK K'
            refine tail_step (i := 12) (fuel := 0) (by kernel_rfl) rfl (by rfl) (fun K' hK => ?_)
            go_simp
            refine hK.out _ _ ⟨⟨w4.setCell ⟨G, 4, none⟩ (.slice p2 (k + 1) cc2), fun b hb hx => (Below.heap_setCell _ _ _ _ (fun e => hx ((HEX.out b).2 (.inl e)))).trans (HXK.out b hb hx)⟩, rfl⟩ (fun _ => ?_)
            clear hK K'
            refine wpAnyH_done (by kernel_rfl) ?_ _
            have HC6 : Hid (∀ o u, (#[.int .i64 k1, .int .i64 k2, .int .i64 k3, .slice q' n' c', .slice p2 (k + 1) cc2] : Array Value)[o]? = some u → U (w4.setCell ⟨G, 4, none⟩ (.slice p2 (k + 1) cc2)) G o = some u) := fun o u hu => by
              by_cases h4 : o = 4
              · subst h4
                have hv' : Value.slice p2 (k + 1) cc2 = u := by simpa using hu
                subst hv'
                exact U_set_same (HGC.out 4 _ rfl)
              · refine U_set_other (HGC.out o u ?_) (ne_off (Ne.symm h4))
                have : o < 5 := by have := (Array.getElem?_eq_some_iff.1 hu).1; simpa using this
                have hall : o = 0 ∨ o = 1 ∨ o = 2 ∨ o = 3 := by omega
                rcases hall with rfl | rfl | rfl | rfl <;> exact hu
            have HR6 := Lib.hid (HR4.out.setCell (p := ⟨G, 4, none⟩) (Nat.lt_succ_self _) (.slice p2 (k + 1) cc2))
            have HB6 := Lib.hid ((HB1.out.trans (HGR.out.mono (Nat.le_succ _))).setCell (p := ⟨G, 4, none⟩) (Nat.le_refl _) (.slice p2 (k + 1) cc2))
            obtain ⟨w6, hw6⟩ : ∃ w6, w4.setCell ⟨G, 4, none⟩ (.slice p2 (k + 1) cc2) = w6 := ⟨_, rfl⟩
            rw [hw6] at HC6 HR6 HB6 ⊢
            clear hrun4 hg4 hf4 hw6 hwz
            go_wp2_with fail
            go_roundw
            case rel => exact ⟨k + 1, _, _, by omega, by go_num, HB6.out, HC6.out, HR6.out⟩
            case measure => simp [intOf]; omega
    · obtain rfl : k = x.len := by omega
      have r1 : decide ((x.len : Int) < (x.len : Int)) = false := decide_eq_false (by omega)
      have HR2 : Hid (RowG wr (G + 1) 5 26 (.slice p x.len cc) x.len (tDs ty (x.lift n f h.k 0 d)) S) := Lib.hid (by have := HR1.out; rw [Ts.take_len] at this; exact this)
      have Z : Hid (∀ o v, zeros[o]? = some v → U wr (w.heap.size + 1 + 1) o = some v) := fun o v hv => U_below HB1.out _ _ _ (by have := HG.out; omega) (P25.out o v hv)
      have HBW : Hid (Below w.heap.size w wr) := Lib.hid (HB35.out.trans (HB1.out.mono (by have := HG.out; omega)))
      have HOW : Hid (Own wr w2.heap.size (.row 1 43 (lvDs ty (h.lift n f d).l) .nil .nil) [.slice q' n' c'] S1) := Lib.hid (HO5.out.1.kept fun b hb => HB1.out.block b (HO5.out.2 b hb))
      have e1 := U_cell (HCE.out 0 _ rfl)
      have e2 := U_cell (HCE.out 1 _ rfl)
      have e3 := U_cell (HCE.out 2 _ rfl)
      have e4 := U_cell (HCE.out 3 _ rfl)
      have e5 := U_cell (HCE.out 4 _ rfl)
      have m0 := U_cell (Z.out 0 _ rfl)
      have m1 := U_cell (Z.out 1 _ rfl)
      have m2 := U_cell (Z.out 2 _ rfl)
      have m3 := U_cell (Z.out 3 _ rfl)
      have m4 := U_cell (Z.out 4 _ rfl)
      have o0 := U_frozen (Z.out 0 _ rfl)
      have o1 := U_frozen (Z.out 1 _ rfl)
      have o2 := U_frozen (Z.out 2 _ rfl)
      have o3 := U_frozen (Z.out 3 _ rfl)
      have o4 := U_frozen (Z.out 4 _ rfl)
      clear HR1
      go_wp2_with fail
      obtain ⟨W, hW⟩ : ∃ W, ((((wr.setCell ⟨w.heap.size + 1 + 1, 0, none⟩ (.int .i64 k1)).setCell ⟨w.heap.size + 1 + 1, 1, none⟩ (.int .i64 k2)).setCell ⟨w.heap.size + 1 + 1, 2, none⟩ (.int .i64 k3)).setCell ⟨w.heap.size + 1 + 1, 3, none⟩ (.slice q' n' c')).setCell ⟨w.heap.size + 1 + 1, 4, none⟩ (.slice p x.len cc) = W := ⟨_, rfl⟩
      obtain ⟨⟨y0, y1, y2, y3, y4⟩, hBF, hkW⟩ := res5 Z.out HBW.out (by omega) hW
      rw [hW]
      have hown : Own wr w.heap.size (.lit (.int .i64 k1) (.lit (.int .i64 k2) (.lit (.int .i64 k3) (.row 1 43 (lvDs ty (h.lift n f d).l) .nil (.row 5 26 (tDs ty (x.lift n f h.k 0 d)) .nil .nil))))) [.int .i64 k1, .int .i64 k2, .int .i64 k3, .slice q' n' c', .slice p x.len cc] (S1 ++ ((Value.slice p x.len cc).ownBlock.toList ++ S)) :=
        ⟨_, rfl, _, rfl, _, rfl, Own.app (HR2.out.own.lower (by have := HG.out; omega)) (HOW.out.lower (by have := HS25.out; omega))⟩
      have hge : ∀ b ∈ S1 ++ ((Value.slice p x.len cc).ownBlock.toList ++ S), w.heap.size + 3 ≤ b := by
        intro b hb
        rcases List.mem_append.1 hb with hb | hb
        · have := (HO5.out.1.mem b hb).1; have := HS25.out; omega
        · have := (HR2.out.mem b hb).1; have := HG.out; omega
      have hd0 : tDs ty (.cons (h.lift n f d) (x.lift n f h.k 0 d) .nil) = .lit (.int .i64 k1) (.lit (.int .i64 k2) (.lit (.int .i64 k3) (.row 1 43 (lvDs ty (h.lift n f d).l) .nil (.row 5 26 (tDs ty (x.lift n f h.k 0 d)) .nil .nil)))) := by
        rw [← HK1.out, ← HK2.out, ← HK3.out]; rfl
      rw [hd0]
      refine bodyPost_ret (v := .agg #[.int .i64 k1, .int .i64 k2, .int .i64 k3, .slice q' n' c', .slice p x.len cc]) (by simp [results, Tryz.results126, go_sem, y0, y1, y2, y3, y4]) rfl ⟨[.int .i64 k1, .int .i64 k2, .int .i64 k3, .slice q' n' c', .slice p x.len cc], _, rfl, hBF, hown.kept (fun b hb => hkW b (by have := hge b hb; omega)), ?_⟩
      refine List.nodup_append.2 ⟨HN3.out, HR2.out.nodup, fun a ha b hb e1 => ?_⟩
      have h1 := HO5.out.2 a ha
      have h2 := (HR2.out.mem b hb).1
      omega
end Go.Proofs.YtkcmapimcgppmaaGreatDoor
end
section
namespace Go.Proofs.YtkcmapimcgppmaaGreatDoor
open Go.RowKit

theorem walk_any (M : Nat) : ∀ (h : Hd) (x : Ts) (va : Value) (n f : Int) (d bf bn : Nat) (w : World), x.count < M → RM ty w va h x → h.fits → x.fits → lvSize h.l + x.size ≤ 2000000 → d + x.count ≤ 1000000000 → KA w → U w bf 0 = some (.int .i64 f) → U w bn 0 = some (.int .i64 n) →
    Calls Tryz.prog 126 #[.agg #[.int .i64 d, .func (.func 123) #[] #[.pointer (some ⟨bf, 0, none⟩), .pointer (some ⟨bn, 0, none⟩)]], va] w (Makes (tDs ty (.cons (h.lift n f d) (x.lift n f h.k 0 d) .nil)) w) := by
  induction M with
  | zero => intro h x va n f d bf bn w hm; omega
  | succ M ih =>
    intro h x va n f d bf bn w hm ha hf hxf hs hd hKA cf cn
    have h1 := Ts.len_le_size x
    refine walk_of h x va n f d bf bn w ha hf (by omega) (by omega) (by omega) hKA cf cn fun k W v e hk hv he hb => ?_
    have h2 := Ts.size_kd hk
    have h3 := Ts.count_kd hk
    have h4 := Ts.fits_hd hxf hk
    exact ih (x.hd k) (x.kd k) v n f e bf bn W (by omega) hv h4.1 h4.2 (by omega) (by omega) (hKA.on hb hKA.1) (U_below hb _ _ _ (U_lt cf) cf) (U_below hb _ _ _ (U_lt cn) cn)

set_option maxRecDepth 100000 in
set_option maxHeartbeats 2000000 in
theorem liftT_any (h : Hd) (x : Ts) (va : Value) (n f : Int) (w : World) (ha : RM ty w va h x) (hf : h.fits) (hxf : x.fits) (hs : lvSize h.l + x.size ≤ 2000000) (hKA : KA w) :
    Calls Tryz.prog 60 #[va, .int .i64 n, .int .i64 f] w (MakesT (h.lift n f 0) (x.lift n f h.k 0 0) w) := by
  obtain ⟨q, c, r, m, rfl, -, -, -, -, hl, hx⟩ := ha.agg
  obtain ⟨w2, hw2⟩ : ∃ w2, (((w.alloc (.cells #[.int .i64 h.k, .int .i64 h.n, .int .i64 h.a, .slice q h.l.length c, .slice r x.len m] 26)).alloc (.cells #[.int .i64 n] 3)).alloc (.cells #[.int .i64 f] 3)).alloc (.cells zeros 26) = w2 := ⟨_, rfl⟩
  have hb2 : Below w.heap.size w w2 := by rw [← hw2]; exact below_step (below_step (below_step (below_alloc _ _) (below_alloc _ _)) (below_alloc _ _)) (below_alloc _ _)
  have hs2 : w2.heap.size = w.heap.size + 4 := by rw [← hw2]; simp
  have p1 : ∀ o v, (#[.int .i64 h.k, .int .i64 h.n, .int .i64 h.a, .slice q h.l.length c, .slice r x.len m] : Array Value)[o]? = some v → U w2 w.heap.size o = some v := fun o v hv => by
    rw [← hw2]
    exact U_below (below_alloc _ _) _ _ _ (by first | (simp; done) | (simp; omega)) (U_below (below_alloc _ _) _ _ _ (by first | (simp; done) | (simp; omega)) (U_below (below_alloc _ _) _ _ _ (by first | (simp; done) | (simp; omega)) (laid_cell hv)))
  have pn : U w2 (w.heap.size + 1) 0 = some (.int .i64 n) := by
    have := laid_cell (w := w.alloc (.cells #[.int .i64 h.k, .int .i64 h.n, .int .i64 h.a, .slice q h.l.length c, .slice r x.len m] 26)) (cs := #[.int .i64 n]) (ty := 3) (o := 0) rfl
    rw [World.size_alloc] at this
    rw [← hw2]
    exact U_below (below_alloc _ _) _ _ _ (by first | (simp; done) | (simp; omega)) (U_below (below_alloc _ _) _ _ _ (by first | (simp; done) | (simp; omega)) this)
  have pf : U w2 (w.heap.size + 1 + 1) 0 = some (.int .i64 f) := by
    have := laid_cell (w := (w.alloc (.cells #[.int .i64 h.k, .int .i64 h.n, .int .i64 h.a, .slice q h.l.length c, .slice r x.len m] 26)).alloc (.cells #[.int .i64 n] 3)) (cs := #[.int .i64 f]) (ty := 3) (o := 0) rfl
    rw [World.size_alloc, World.size_alloc] at this
    rw [← hw2]
    exact U_below (below_alloc _ _) _ _ _ (by first | (simp; done) | (simp; omega)) this
  have p2 : ∀ o v, zeros[o]? = some v → U w2 (w.heap.size + 1 + 1 + 1) o = some v := fun o v hv => by
    have := laid_cell (w := ((w.alloc (.cells #[.int .i64 h.k, .int .i64 h.n, .int .i64 h.a, .slice q h.l.length c, .slice r x.len m] 26)).alloc (.cells #[.int .i64 n] 3)).alloc (.cells #[.int .i64 f] 3)) (ty := 26) hv
    rw [World.size_alloc, World.size_alloc, World.size_alloc, hw2] at this
    exact this
  have c0 := U_cell (p1 0 _ rfl)
  have c1 := U_cell (p1 1 _ rfl)
  have c2 := U_cell (p1 2 _ rfl)
  have c3 := U_cell (p1 3 _ rfl)
  have c4 := U_cell (p1 4 _ rfl)
  have hcs := Ts.count_le_size x
  have HC := Lib.hid ((walk_any _ h x _ n f 0 _ _ w2 (Nat.lt_succ_self _) (ha.on hb2) hf hxf hs (by omega) (hKA.on hb2 hKA.1) pf pn).mono fun _ _ h => MakesT.of h)
  have HB2 := Lib.hid hb2
  have HS2 := Lib.hid hs2
  have P2 := Lib.hid p2
  unfold zeros at hw2
  clear hl hx ha hf hxf hs hb2 hs2 p1 p2 hcs pn pf hKA
  go_enter Tryz.func60, Tryz.ntmps60
  go_wp2_with fail
  refine HC.out.mono ?_
  rintro e wy ⟨s1, n1, d1, s2, n2, d2, S, rfl, hby, ho, hn⟩
  have hlt : w.heap.size + 1 + 1 + 1 < w2.heap.size := by have := HS2.out; omega
  have z2 : ∀ o v, zeros[o]? = some v → U wy (w.heap.size + 1 + 1 + 1) o = some v := fun o v hv => U_below hby _ _ _ hlt (P2.out o v hv)
  have m0 := U_cell (z2 0 _ rfl)
  have m1 := U_cell (z2 1 _ rfl)
  have m2 := U_cell (z2 2 _ rfl)
  have m3 := U_cell (z2 3 _ rfl)
  have m4 := U_cell (z2 4 _ rfl)
  have o0 := U_frozen (z2 0 _ rfl)
  have o1 := U_frozen (z2 1 _ rfl)
  have o2 := U_frozen (z2 2 _ rfl)
  have o3 := U_frozen (z2 3 _ rfl)
  have o4 := U_frozen (z2 4 _ rfl)
  have HBY := Lib.hid (below_step HB2.out hby)
  have HO := Lib.hid ho
  have HN := Lib.hid hn
  have Z2 := Lib.hid z2
  obtain ⟨k1, hk1⟩ : ∃ z, (h.lift n f 0).k = z := ⟨_, rfl⟩
  obtain ⟨k2, hk2⟩ : ∃ z, (h.lift n f 0).n = z := ⟨_, rfl⟩
  obtain ⟨k3, hk3⟩ : ∃ z, (h.lift n f 0).a = z := ⟨_, rfl⟩
  have HK1 := Lib.hid hk1
  have HK2 := Lib.hid hk2
  have HK3 := Lib.hid hk3
  rw [hk1, hk2, hk3] at HO ⊢
  clear hby ho hn z2 c0 c1 c2 c3 c4 hk1 hk2 hk3 hlt hw2
  go_wp2_with fail
  obtain ⟨W, hW⟩ : ∃ W, ((((wy.setCell ⟨w.heap.size + 1 + 1 + 1, 0, none⟩ (.int .i64 k1)).setCell ⟨w.heap.size + 1 + 1 + 1, 1, none⟩ (.int .i64 k2)).setCell ⟨w.heap.size + 1 + 1 + 1, 2, none⟩ (.int .i64 k3)).setCell ⟨w.heap.size + 1 + 1 + 1, 3, none⟩ (.slice s1 n1 d1)).setCell ⟨w.heap.size + 1 + 1 + 1, 4, none⟩ (.slice s2 n2 d2) = W := ⟨_, rfl⟩
  obtain ⟨⟨x0, x1, x2, x3, x4⟩, hBF, hkW⟩ := res5 Z2.out HBY.out (by omega) hW
  rw [hW]
  refine bodyPost_ret (v := .agg #[.int .i64 k1, .int .i64 k2, .int .i64 k3, .slice s1 n1 d1, .slice s2 n2 d2]) (by simp [results, Tryz.results60, go_sem, x0, x1, x2, x3, x4]) rfl ⟨s1, n1, d1, s2, n2, d2, S, by rw [HK1.out, HK2.out, HK3.out], hBF, ?_, HN.out⟩
  rw [HK1.out, HK2.out, HK3.out]
  exact (HO.out.lower (by have := HS2.out; omega)).kept fun b hb => hkW b (by have := (HO.out.mem b hb).1; have := HS2.out; omega)
end Go.Proofs.YtkcmapimcgppmaaGreatDoor
end
section
namespace Go.Proofs.YtkcmapimcgppmaaGreatDoor
open Go.RowKit Go.Shelf
attribute [local go_sem] Oper.semAt_some

set_option maxRecDepth 100000 in
set_option maxHeartbeats 1000000 in
theorem back1_any (p : Option Addr) (n c : Nat) (w : World) : Calls Tryz.prog 122 #[.slice p n c] w fun e w' => e = .returned (.func (.func 200) #[] #[.pointer (some ⟨w.heap.size, 0, none⟩)]) ∧ w' = w.alloc (.cells #[.slice p n c] 22) := by
  go_enter Tryz.func122, Tryz.ntmps122
  go_wp2_with fail
  go_ret
  exact ⟨rfl, rfl⟩

/-- What the loop reads of memory: its box; five cells of each element. -/
def BkD (B : Nat) (p : Option Addr) (n c : Nat) (vs : Nat → Nat → Value) (W : World) : Prop :=
  W.cell? ⟨B, 0, none⟩ = some (.slice p n c) ∧ ∀ k, k < n → ∃ b o, p = some ⟨b, o, none⟩ ∧ ∀ i, i < 5 → W.cell? ⟨b, o + k * 5 + i, none⟩ = some (vs k i)
def el (vs : Nat → Nat → Value) (k : Nat) : Value := .agg #[vs k 0, vs k 1, vs k 2, vs k 3, vs k 4]
/-- The last first. -/
def dn (n j : Nat) : List Nat := (List.range j).map fun t => n - 1 - t
theorem dn_succ (n j : Nat) : dn n (j + 1) = dn n j ++ [n - 1 - j] := by simp [dn, List.range_succ]

set_option maxRecDepth 100000 in
set_option maxHeartbeats 4000000 in
theorem back_in (l B n c m : Nat) (p : Option Addr) (vs : Nat → Nat → Value) (hn : n ≤ c) (hc : c ≤ maxLen) (J Jx : List (Fin n) → World → Prop)
    (hY : ∀ pre x W, J pre W → pre.length < n → YieldAt Fence.wide (m - 1) Tryz.prog l #[.int .i64 (x.val : Int), el vs x.val] W fun e W' =>
      (e = .returned (.bool true) ∧ J (pre ++ [x]) W' ∧ (BkD B p n c vs W → BkD B p n c vs W')) ∨ (e = .returned (.bool false) ∧ Jx (pre ++ [x]) W'))
    (w : World) (hD : BkD B p n c vs w) (h0 : J [] w) :
    CallsIn Fence.wide m Tryz.prog 200 #[.func (.yield l) #[] #[], .pointer (some ⟨B, 0, none⟩)] w fun e W' => (∃ v, e = .returned v) ∧ ((∃ xs, xs.map (·.val) = dn n n ∧ J xs W') ∨ (∃ pre, True ∧ Jx pre W')) := by
  have HY := Lib.hid hY
  have H0 := Lib.hid h0
  have HD := Lib.hid hD
  unfold maxLen at hc
  have hb := hD.1
  clear hY h0 hD
  refine callsIn_of_wp Tryz.func200 rfl trivial ?_ rfl
  simp only [Tryz.ntmps200, List.size_toArray, List.length_cons, List.length_nil, Nat.reduceAdd, Nat.reduceSub, Array.replicate_succ, Array.replicate_zero, List.push_toArray, List.append_toArray, List.nil_append, List.cons_append]
  gi_wp2_with fail
  clear hb
  gi_loopw [3] (fun i wr => ∃ (j : Nat) (pre : List (Fin n)), j ≤ n ∧ i = .int .i64 ((n : Int) - 1 - j) ∧ pre.map (·.val) = dn n j ∧ J pre wr ∧ BkD B p n c vs wr) (fun i _ => (intOf i + 1).toNat)
  case atStart => exact ⟨0, [], Nat.zero_le _, by simp, rfl, H0.out, HD.out⟩
  case round =>
    obtain ⟨j, pre, hj, rfl, hpre, hJ, hD⟩ := hrel
    have HJ := Lib.hid hJ
    have HPRE := Lib.hid hpre
    have hb := hD.1
    have HDr := Lib.hid hD
    clear hJ hpre HD H0
    by_cases hlt : j < n
    · have r1 : decide ((0 : Int) ≤ (n : Int) - 1 - j) = true := decide_eq_true (by omega)
      have i1 : (0 : Int) ≤ (n : Int) - 1 - j := by omega
      have i2 : (n : Int) - 1 - j < n := by omega
      obtain ⟨b, o, rfl, hcs⟩ := hD.2 (n - 1 - j) (by omega)
      have hk : ((n : Int) - 1 - j).toNat = n - 1 - j := by omega
      have e0 := hcs 0 (by decide)
      have e1 := hcs 1 (by decide)
      have e2 := hcs 2 (by decide)
      have e3 := hcs 3 (by decide)
      have e4 := hcs 4 (by decide)
      obtain ⟨kk, hkk⟩ : ∃ kk, n - 1 - j = kk := ⟨_, rfl⟩
      have hkn : kk < n := by omega
      have hkI : (n : Int) - 1 - j = (kk : Int) := by omega
      rw [hkI] at r1 i1 i2 ⊢
      rw [hkk] at e0 e1 e2 e3 e4
      rw [Nat.add_zero] at e0
      obtain ⟨fn, tmps, assign, body, hy, hR⟩ := HY.out pre ⟨kk, hkn⟩ wr HJ.out (by have := congrArg List.length HPRE.out; simp [dn] at this; omega)
      have HR := Lib.hid hR
      unfold el at hy
      clear hR hcs hk hD
      gi_wp2_with fail
      refine ⟨fun h => (by cases h), HR.out.mono ?_⟩
      rintro e W3 (⟨rfl, hJ3, hK3⟩ | ⟨rfl, hJ3⟩)
      · have HJ3 := Lib.hid hJ3
        have HK3 := Lib.hid (hK3 HDr.out)
        have HP3 : Hid ((pre ++ [(⟨kk, hkn⟩ : Fin n)]).map (fun x : Fin n => x.val) = dn n (j + 1)) := Lib.hid (by rw [List.map_append, HPRE.out, dn_succ, hkk]; rfl)
        have hkj : (kk : Int) - 1 = (n : Int) - 1 - ((j + 1 : Nat) : Int) := by omega
        clear hJ3 hK3 e0 e1 e2 e3 e4
        gi_wp2_with fail
        go_roundw
        case rel => exact ⟨j + 1, _, by omega, by go_num, HP3.out, HJ3.out, HK3.out⟩
        case measure => simp [intOf]; omega
      · have HJ3 := Lib.hid hJ3
        clear hJ3 e0 e1 e2 e3 e4
        gi_wp2_with fail
        exact bodyPost_ret (v := .tuple #[]) (by simp [results, Tryz.results200, go_sem]) rfl ⟨⟨_, rfl⟩, .inr ⟨_, trivial, HJ3.out⟩⟩
    · obtain rfl : j = n := by omega
      have r1 : decide ((0 : Int) ≤ (j : Int) - 1 - j) = false := decide_eq_false (by omega)
      clear hD hb
      gi_wp2_with fail
      go_end0
      exact ⟨⟨_, rfl⟩, .inl ⟨pre, HPRE.out, HJ.out⟩⟩

/-- As the law on ranges over a function wants it. -/
theorem back_stops (B n c : Nat) (p : Option Addr) (vs : Nat → Nat → Value) (hn : n ≤ c) (hc : c ≤ maxLen) (m : Nat) (w : World) (hkeep : ∀ W, Below w.heap.size w W → BkD B p n c vs W) :
    SeqStopsK Fence.wide m Tryz.prog 200 #[.pointer (some ⟨B, 0, none⟩)] (fun x : Fin n => #[.int .i64 (x.val : Int), el vs x.val]) (fun A B' => BkD B p n c vs A → BkD B p n c vs B') (fun xs => xs.map (·.val) = dn n n) (fun _ => True) n w := fun l J Jx W hW _ _ hY h0 =>
  back_in l B n c m p vs hn hc J Jx hY W (hkeep W hW) h0
end Go.Proofs.YtkcmapimcgppmaaGreatDoor
end
