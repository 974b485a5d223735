/-
  One level handed in with marks. Conditions: no more than 2000000 parts. Terms handed in with marks. Conditions: no more than 2000000 nodes, levels, parts. The document's with: a node of other kids, its levels its own. Conditions: no more than 2000000 levels, parts. A region that draws its order, whose operations only read, whose callees may lay new blocks besides: walked once. Conditions: what the callees hand back does not hang on the world. A region that draws its order: all its reads are taken first, in one walk; the calls come behind. Conditions: the reads read the same in all worlds that hold what lay. Conditions: as each lemma states them.
-/
import Derived.Test.YtkcmapimcgppmaaGreatDoorN02
import Derived.Test.YtkcmapimcgppmaaGreatDoorN01
import Derived.Deep.RegionHeld
set_option linter.all false
set_option linter.unusedVariables false
set_option linter.unusedSimpArgs false
set_option linter.unnecessarySimpa false
section
namespace Go.Proofs.YtkcmapimcgppmaaGreatDoor
open Go.RowKit

theorem Own.setCell {w : World} {base : Nat} {x : Ds} {xs : List Value} {S : List Nat} (h : Own w base x xs S) {p : Addr} (hp : p.block ∉ S) (v : Value) : Own (w.setCell p v) base x xs S :=
  h.kept fun b hb => Below.heap_setCell _ p v b fun e => hp (by rw [← e]; exact hb)
/-- One row owned is a slice. -/
theorem Own.slice {w : World} {base sz e : Nat} {x s : Ds} {v : Value} {S : List Nat} (h : Own w base (.row sz e x s .nil) [v] S) : ∃ p n c, v = .slice p n c ∧ n * sz = x.len ∧ n ≤ c ∧ c ≤ maxLen := by
  obtain ⟨v', ys, e1, h1, -⟩ := h.vs
  cases e1
  obtain ⟨p, n, c, rfl, h2, h3, h4, -⟩ := h1.slice
  exact ⟨p, n, c, rfl, h2, h3, h4⟩
theorem Own.notMem {w : World} {base : Nat} {x : Ds} {xs : List Value} {S : List Nat} (h : Own w base x xs S) {b : Nat} (hb : b < base) : b ∉ S := fun hm => by have := (h.mem b hm).1; omega

set_option maxHeartbeats 1000000 in
theorem lentLevel_any (p : Lv) (q : Option Addr) (c : Nat) (w : World) (ha : RP w (.slice q p.length c) p) (hn : p.length ≤ 2000000) :
    Calls Tryz.prog 75 #[.agg #[.slice q p.length c]] w (Makes (lentLv ty [p]) w) := by
  obtain ⟨w2, hw2⟩ : ∃ w2, (w.alloc (.cells #[.slice q p.length c] 43)).alloc (.cells #[.slice none 0 0] 43) = w2 := ⟨_, rfl⟩
  have hb2 : Below w.heap.size w w2 := by rw [← hw2]; exact below_step (below_alloc _ _) (below_alloc _ _)
  have hs2 : w2.heap.size = w.heap.size + 2 := by rw [← hw2]; simp
  have c1 : U w2 w.heap.size 0 = some (.slice q p.length c) := by
    rw [← hw2]; exact U_below (below_alloc _ _) _ _ _ (by simp) (laid_cell rfl)
  have c2 : U w2 (w.heap.size + 1) 0 = some (.slice none 0 0) := by
    have := laid_cell (w := w.alloc (.cells #[.slice q p.length c] 43)) (cs := #[.slice none 0 0]) (ty := 43) (o := 0) rfl
    rw [World.size_alloc, hw2] at this
    exact this
  have HL := Lib.hid (lentParts_any p _ w2 (ha.on hb2) hn)
  have d1 := U_cell c1
  go_enter Tryz.func75, Tryz.ntmps75
  go_wp2_with fail
  refine HL.out.mono ?_
  rintro e w3 ⟨v, S, rfl, hb3, hown, hnd⟩
  obtain ⟨r, n, d, rfl, -, -, -⟩ := hown.slice
  have g1 := U_cell (U_below hb3 _ _ _ (by omega) c1)
  have g2 := U_cell (U_below hb3 _ _ _ (by omega) c2)
  have f1 := U_frozen (U_below hb3 _ _ _ (by omega) c1)
  have f2 := U_frozen (U_below hb3 _ _ _ (by omega) c2)
  have HO := Lib.hid hown
  have HB3 := Lib.hid hb3
  have HND := Lib.hid hnd
  have HB2 := Lib.hid hb2
  have hne : (⟨w.heap.size, 0, none⟩ : Addr) ≠ ⟨w.heap.size + 1, 0, none⟩ := by intro e; injection e with e1 _; omega
  clear hown hb3 hnd hb2 c1 c2 d1 hw2 ha HL
  go_wp2_with fail
  have x2 : ((w3.setCell ⟨w.heap.size, 0, none⟩ (.slice r n d)).setCell ⟨w.heap.size + 1, 0, none⟩ (.slice r n d)).cell? ⟨w.heap.size + 1, 0, none⟩ = some (.slice r n d) :=
    World.cell?_setCell_same' _ _ _ (by rw [World.cell?_setCell_other _ _ _ _ hne, g2]; rfl)
  refine bodyPost_ret (v := .agg #[.slice r n d]) (by simp [results, Tryz.results75, go_sem, x2]) rfl ⟨[.slice r n d], S, rfl, ?_, ?_, HND.out⟩
  · exact ((below_step HB2.out HB3.out).setCell (p := ⟨w.heap.size, 0, none⟩) (Nat.le_refl _) _).setCell (p := ⟨w.heap.size + 1, 0, none⟩) (Nat.le_succ _) _
  · exact ((HO.out.setCell (p := ⟨w.heap.size, 0, none⟩) (HO.out.notMem (by simp; omega)) _).setCell (p := ⟨w.heap.size + 1, 0, none⟩) (HO.out.notMem (by simp; omega)) _).lower (by omega)

/-- One row made, told as a struct. -/
theorem Makes.one {sz e : Nat} {x s : Ds} {w w' : World} {en : Ending} (h : Makes (.row sz e x s .nil) w en w') : ∃ r n d S, en = .returned (.agg #[.slice r n d]) ∧ Below w.heap.size w w' ∧ Own w' w.heap.size (.row sz e x s .nil) [.slice r n d] S ∧ S.Nodup := by
  obtain ⟨xs, S, rfl, hb, ho, hn⟩ := h
  have ho' := ho
  obtain ⟨v, ys, zs, us, B, S1, S2, S3, rfl, -, -, -, ⟨rfl, -⟩, -⟩ := ho'
  obtain ⟨r, n, d, rfl, -⟩ := ho.slice
  exact ⟨r, n, d, S, rfl, hb, ho, hn⟩
theorem lentLv_take {l : List Lv} {k : Nat} (y : Tys) (h : k < l.length) : lentLv y (l.take (k + 1)) = (lentLv y (l.take k)).app (lentLv y [l[k]]) := by
  rw [← lentLv_app, List.take_succ_eq_append_getElem h]
theorem lentLv_ones (y : Tys) (l : List Lv) : (lentLv y l).ones := by
  induction l with
  | nil => trivial
  | cons a r ih => exact ih

set_option maxHeartbeats 2000000 in
theorem lentLevels_any (l : List Lv) (va : Value) (w : World) (ha : RL ty w va l) (hs : lvSize l ≤ 2000000) : Calls Tryz.prog 55 #[va] w (MakesV (.row 1 43 (lentLv ty l) (lvDs ty (lvMarks 1 12)) .nil) w) := by
  obtain ⟨q, c, rfl, hc1, hc2, -⟩ := ha.slice
  unfold maxLen at hc2
  have hl : l.length ≤ 2000000 := by
    have : l.length ≤ lvSize l := by
      clear hs hc1 ha
      induction l with
      | nil => simp
      | cons a r ih => simp only [List.length_cons, lvSize]; omega
    omega
  obtain ⟨w1, hrun, hR, hB⟩ := RowG.make elL w w.heap.size (l.length + 12) .i64 .i64 (by omega) (Nat.le_refl _)
  rw [show ((l.length + 12 : Nat) : Int) = (l.length : Int) + 12 by omega] at hrun
  have HR := Lib.hid hR
  have HB := Lib.hid hB
  have HA := Lib.hid ha
  have HSZ := Lib.hid hs
  clear hR hB ha hs
  go_enter Tryz.func55, Tryz.ntmps55
  go_wp2_with fail
  clear hrun
  go_loopw [3, 4] (fun v i wr => ∃ (k : Nat) (S : List Nat), k ≤ l.length ∧ i = .int .i64 k ∧ Below w.heap.size w wr ∧ RowG wr w.heap.size 1 43 v k (lentLv ty (l.take k)) S) (fun _ i _ => l.length - (intOf i).toNat)
  case atStart => exact ⟨0, [], Nat.zero_le _, rfl, HB.out, HR.out⟩
  case round =>
    obtain ⟨k, S, hk, rfl, hB1, hR1⟩ := hrel
    have HB1 := Lib.hid hB1
    have HR1 := Lib.hid hR1
    clear hB1 hR1
    by_cases hlt : k < l.length
    · have r1 : decide ((k : Int) < (l.length : Int)) = true := decide_eq_true (by omega)
      obtain ⟨b, o, rfl, hb, r, d, hu, hd1, hd2, hRP⟩ := (HA.out.on HB1.out).at_ hlt
      have e1 := U_cell hu
      have hsz := lvSize_at hlt
      have HL := Lib.hid ((lentLevel_any l[k] r d wr hRP (by have := HSZ.out; omega)).mono fun _ _ h => Makes.one h)
      have HT := Lib.hid (lentLv_take ty hlt)
      have hbase : w.heap.size ≤ wr.heap.size := HB1.out.size
      clear hu hd1 hd2 hRP hsz
      obtain ⟨z, hz⟩ : ∃ z : Nat, l[k].length = z := ⟨_, rfl⟩
      rw [hz] at e1 HL
      clear hz
      go_wp2_with fail
      refine HL.out.mono ?_
      rintro e w3 ⟨r', n', d', S2, rfl, hb3, hown, hnd⟩
      have hB4 := below_step hb3 (below_step (below_alloc w3 (.cells #[.slice r' n' d'] 43)) (below_alloc _ (.cells #[.slice r' n' d'] 43)))
      have hR4 := HR1.out.below hB4
      have hO4 := (hown.below (below_step (below_alloc w3 (.cells #[.slice r' n' d'] 43)) (below_alloc _ (.cells #[.slice r' n' d'] 43)))).lower hbase
      obtain ⟨v', w4, hrun4, hR5, hg, -⟩ := RowG.append (ty := 24) (k := 1) (y := lentLv ty [l[k]]) elL hR4 HR1.out.lt_of hO4 hnd (fun b hb => (hown.mem b hb).1) (lentLv_ones ty [l[k]]) ⟨(w3.alloc (.cells #[.slice r' n' d'] 43)).heap.size, 0, none⟩ 1 rfl (new_cells _ _ 43) (by omega) (Nat.le_trans hbase hB4.size)
      have HB4 : Hid (Below w.heap.size w w4) := Lib.hid ((below_step HB1.out hB4).grown hg (below_step HB1.out hB4).size hR4.ge)
      have HR4 : Hid (RowG w4 w.heap.size 1 43 v' (k + 1) (lentLv ty (l.take (k + 1))) (S ++ S2)) := Lib.hid (by rw [HT.out]; exact hR5)
      simp only [World.size_alloc] at hrun4
      clear hb3 hown hnd hB4 hR4 hO4 hR5 hg HT HL HR1
      go_wp2_with (at_builtin; refine wpList_append_run rfl _ _ 24 rfl _ _ _ rfl rfl hrun4 ?_)
      clear hrun4
      go_roundw
      case rel => exact ⟨k + 1, _, by omega, by go_num, HB4.out, HR4.out⟩
      case measure => simp [intOf]; omega
    · obtain rfl : k = l.length := by omega
      have r1 : decide ((l.length : Int) < (l.length : Int)) = false := decide_eq_false (by omega)
      have HR2 : Hid (RowG wr w.heap.size 1 43 _ l.length (lentLv ty l) S) := Lib.hid (by have := HR1.out; rw [List.take_length] at this; exact this)
      obtain ⟨n, hn⟩ : ∃ n, l.length = n := ⟨_, rfl⟩
      rw [hn] at hl r1 HR2 hc1 ⊢
      have HN := Lib.hid hn
      clear HR1 HR HB hk hlt HA HSZ hn
      go_wp2_with fail
      clear r1
      go_loopw [3, 6] (fun v i wx => ∃ (j : Nat) (S : List Nat), j ≤ 12 ∧ i = .int .i64 j ∧ Below w.heap.size w wx ∧ RowG wx w.heap.size 1 43 v (n + j) ((lentLv ty l).app (lvDs ty (lvMarks 1 j))) S) (fun _ i _ => 12 - (intOf i).toNat)
      case atStart => exact ⟨0, S, Nat.zero_le _, rfl, HB1.out, by rw [show lvDs ty (lvMarks 1 0) = .nil from rfl, Ds.app_nil]; exact HR2.out⟩
      case round =>
        obtain ⟨j, S', hj, rfl, hBj, hRj⟩ := hrel
        have HBj := Lib.hid hBj
        have HRj := Lib.hid hRj
        clear hBj hRj HR2 HB1
        by_cases hlt : j < 12
        · have r1 : decide ((j : Int) < 12) = true := decide_eq_true (by omega)
          have HM := Lib.hid ((markLevel_any 1 j wr (by decide) (by omega)).mono fun _ _ h => Makes.one h)
          have hbase : w.heap.size ≤ wr.heap.size := HBj.out.size
          go_wp2_with fail
          refine HM.out.mono ?_
          rintro e w3 ⟨r', n', d', S2, rfl, hb3, hown, hnd⟩
          have hB4 := below_step hb3 (below_alloc w3 (.cells #[.slice r' n' d'] 43))
          have hR4 := HRj.out.below hB4
          have hO4 := (hown.below (below_alloc w3 (.cells #[.slice r' n' d'] 43))).lower hbase
          obtain ⟨v', w4, hrun4, hR5, hg, -⟩ := RowG.append (ty := 24) (k := 1) (y := lvDs ty [lvMark 1 j]) elL hR4 HRj.out.lt_of hO4 hnd (fun b hb => (hown.mem b hb).1) (lvDs_ones ty [lvMark 1 j]) ⟨w3.heap.size, 0, none⟩ 1 rfl (new_cells _ _ 43) (by omega) (Nat.le_trans hbase hB4.size)
          have HB4 : Hid (Below w.heap.size w w4) := Lib.hid ((below_step HBj.out hB4).grown hg (below_step HBj.out hB4).size hR4.ge)
          have HR4 : Hid (RowG w4 w.heap.size 1 43 v' (n + (j + 1)) ((lentLv ty l).app (lvDs ty (lvMarks 1 (j + 1)))) (S' ++ S2)) := Lib.hid (by rw [lvMarks, lvDs_app, ← Ds.app_assoc]; exact hR5)
          clear hb3 hown hnd hB4 hR4 hO4 hR5 hg HM HRj
          go_wp2_with (at_builtin; refine wpList_append_run rfl _ _ 24 rfl _ _ _ rfl rfl hrun4 ?_)
          clear hrun4
          go_roundw
          case rel => exact ⟨j + 1, _, by omega, by go_num, HB4.out, HR4.out⟩
          case measure => simp [intOf]; omega
        · obtain rfl : j = 12 := by omega
          obtain ⟨p', c', rfl, hc3, hc4⟩ := HRj.out.cap
          unfold maxLen at hc4
          have HX := Lib.hid (RowG.cut (m := n) (s := lvDs ty (lvMarks 1 12)) HRj.out (by omega) (by rw [lentLv_len, HN.out, Nat.mul_one]))
          have HND : Hid (((Value.slice p' (n + 12) c').ownBlock.toList ++ S').Nodup) := Lib.hid (by obtain ⟨_, _, _, h⟩ := HRj.out; exact h)
          clear hj hlt HRj
          go_wp2_with fail
          all_goals go_ret
          exact ⟨_, _, rfl, HBj.out, HX.out, HND.out⟩
end Go.Proofs.YtkcmapimcgppmaaGreatDoor
end
section
namespace Go.Proofs.YtkcmapimcgppmaaGreatDoor
open Go.RowKit

theorem U_set_other {w : World} {b o b' o' : Nat} {u v : Value} (h : U w b o = some u) (hne : (⟨b', o', none⟩ : Addr) ≠ ⟨b, o, none⟩) : U (w.setCell ⟨b', o', none⟩ v) b o = some u :=
  U_mk (by rw [World.cell?_setCell_other _ _ _ _ hne]; exact U_cell h) (by rw [World.frozen?_setCell]; exact U_frozen h)
theorem U_set_same {w : World} {b o : Nat} {u v : Value} (h : U w b o = some u) : U (w.setCell ⟨b, o, none⟩ v) b o = some v :=
  U_mk (World.cell?_setCell_same' _ _ _ (by rw [U_cell h]; rfl)) (by rw [World.frozen?_setCell]; exact U_frozen h)
theorem ne_off {b o b' o' : Nat} (h : o' ≠ o) : (⟨b', o', none⟩ : Addr) ≠ ⟨b, o, none⟩ := by intro e; injection e with _ e2; exact h e2
theorem ne_blk {b o b' o' : Nat} (h : b' ≠ b) : (⟨b', o', none⟩ : Addr) ≠ ⟨b, o, none⟩ := by intro e; injection e with e1 _; exact h e1

theorem five_set {w : World} {b : Nat} {u0 u1 u2 u3 u4 v0 v1 v2 v3 v4 : Value} (h0 : U w b 0 = some u0) (h1 : U w b 1 = some u1) (h2 : U w b 2 = some u2) (h3 : U w b 3 = some u3) (h4 : U w b 4 = some u4) {W : World}
    (hW : ((((w.setCell ⟨b, 0, none⟩ v0).setCell ⟨b, 1, none⟩ v1).setCell ⟨b, 2, none⟩ v2).setCell ⟨b, 3, none⟩ v3).setCell ⟨b, 4, none⟩ v4 = W) :
    U W b 0 = some v0 ∧ U W b 1 = some v1 ∧ U W b 2 = some v2 ∧ U W b 3 = some v3 ∧ U W b 4 = some v4 ∧ (∀ k, k ≠ b → W.heap[k]? = w.heap[k]?) := by
  have n : ∀ i j : Nat, i ≠ j → (⟨b, i, none⟩ : Addr) ≠ ⟨b, j, none⟩ := fun i j h => ne_off h
  subst hW
  refine ⟨?_, ?_, ?_, ?_, ?_, ?_⟩
  · exact U_set_other (U_set_other (U_set_other (U_set_other (U_set_same h0) (n _ _ (by decide))) (n _ _ (by decide))) (n _ _ (by decide))) (n _ _ (by decide))
  · exact U_set_other (U_set_other (U_set_other (U_set_same (U_set_other h1 (n _ _ (by decide)))) (n _ _ (by decide))) (n _ _ (by decide))) (n _ _ (by decide))
  · exact U_set_other (U_set_other (U_set_same (U_set_other (U_set_other h2 (n _ _ (by decide))) (n _ _ (by decide)))) (n _ _ (by decide))) (n _ _ (by decide))
  · exact U_set_other (U_set_same (U_set_other (U_set_other (U_set_other h3 (n _ _ (by decide))) (n _ _ (by decide))) (n _ _ (by decide)))) (n _ _ (by decide))
  · exact U_set_same (U_set_other (U_set_other (U_set_other (U_set_other h4 (n _ _ (by decide))) (n _ _ (by decide))) (n _ _ (by decide))) (n _ _ (by decide)))
  · intro k hk
    exact (Below.heap_setCell _ _ _ k hk).trans ((Below.heap_setCell _ _ _ k hk).trans ((Below.heap_setCell _ _ _ k hk).trans ((Below.heap_setCell _ _ _ k hk).trans (Below.heap_setCell _ _ _ k hk))))

set_option maxHeartbeats 2000000 in
theorem lentTerm_of (h : Hd) (x : Ts) (va : Value) (w : World) (ha : RM ty w va h x) (hs : lvSize h.l ≤ 2000000)
    (hk : ∀ W v, RT ty W v x → Calls Tryz.prog 10 #[v] W (MakesV (.row 5 26 (lentT ty x) (tDs ty (tMarks 1 12)) .nil) W)) : Calls Tryz.prog 11 #[va] w (Makes (lentT ty (.cons h x .nil)) w) := by
  obtain ⟨q, c, r, d, rfl, -, -, -, -, hl, hx⟩ := ha.agg
  obtain ⟨w2, hw2⟩ : ∃ w2, (w.alloc (.cells #[.int .i64 h.k, .int .i64 h.n, .int .i64 h.a, .slice q h.l.length c, .slice r x.len d] 26)).alloc (.cells #[.int .i64 0, .int .i64 0, .int .i64 0, .slice none 0 0, .slice none 0 0] 26) = w2 := ⟨_, rfl⟩
  have hb2 : Below w.heap.size w w2 := by rw [← hw2]; exact below_step (below_alloc _ _) (below_alloc _ _)
  have hs2 : w2.heap.size = w.heap.size + 2 := by rw [← hw2]; simp
  have p1 : ∀ o v, (#[.int .i64 h.k, .int .i64 h.n, .int .i64 h.a, .slice q h.l.length c, .slice r x.len d] : Array Value)[o]? = some v → U w2 w.heap.size o = some v := fun o v hv => by
    rw [← hw2]; exact U_below (below_alloc _ _) _ _ _ (by simp) (laid_cell hv)
  have p2 : ∀ o v, (#[.int .i64 0, .int .i64 0, .int .i64 0, .slice none 0 0, .slice none 0 0] : Array Value)[o]? = some v → U w2 (w.heap.size + 1) o = some v := fun o v hv => by
    have := laid_cell (w := w.alloc (.cells #[.int .i64 h.k, .int .i64 h.n, .int .i64 h.a, .slice q h.l.length c, .slice r x.len d] 26)) (ty := 26) hv
    rw [World.size_alloc, hw2] at this
    exact this
  have HL := Lib.hid (lentLevels_any h.l _ w2 (hl.on hb2) hs)
  have d3 := U_cell (p1 3 _ rfl)
  go_enter Tryz.func11, Tryz.ntmps11
  go_wp2_with fail
  refine HL.out.mono ?_
  rintro e w3 ⟨v1, S1, rfl, hb3, ho1, hn1⟩
  obtain ⟨r1, n1, d1, rfl, -, -, -⟩ := ho1.slice
  have q1 : ∀ o v, (#[.int .i64 h.k, .int .i64 h.n, .int .i64 h.a, .slice q h.l.length c, .slice r x.len d] : Array Value)[o]? = some v → U w3 w.heap.size o = some v := fun o v hv => U_below hb3 _ _ _ (by omega) (p1 o v hv)
  have q2 : ∀ o v, (#[.int .i64 0, .int .i64 0, .int .i64 0, .slice none 0 0, .slice none 0 0] : Array Value)[o]? = some v → U w3 (w.heap.size + 1) o = some v := fun o v hv => U_below hb3 _ _ _ (by omega) (p2 o v hv)
  have g3 := U_cell (q1 3 _ rfl)
  have g4 := U_cell (q1 4 _ rfl)
  have f3 := U_frozen (q1 3 _ rfl)
  have HB3 := Lib.hid (below_step hb2 hb3)
  have HO1 := Lib.hid ho1
  have HN1 := Lib.hid hn1
  have HX := Lib.hid hx
  have HK := Lib.hid hk
  have Q1 := Lib.hid q1
  have Q2 := Lib.hid q2
  have HS2 := Lib.hid hs2
  clear hw2 hb2 hs2 p1 p2 HL d3 hb3 ho1 hn1 hl hx hk q1 q2 hs ha
  go_wp2_with fail
  obtain ⟨w4, hw4⟩ : ∃ w4, w3.setCell ⟨w.heap.size, 3, none⟩ (.slice r1 n1 d1) = w4 := ⟨_, rfl⟩
  have HB4 : Hid (Below w.heap.size w w4) := Lib.hid (by rw [← hw4]; exact HB3.out.setCell (p := ⟨w.heap.size, 3, none⟩) (Nat.le_refl _) _)
  have hsz4 : w4.heap.size = w3.heap.size := by rw [← hw4]; simp
  have Q3 : Hid (∀ o v, (#[.int .i64 h.k, .int .i64 h.n, .int .i64 h.a, .slice r1 n1 d1, .slice r x.len d] : Array Value)[o]? = some v → U w4 w.heap.size o = some v) := fun o v hv => by
    rw [← hw4]
    by_cases h3 : o = 3
    · subst h3
      cases hv
      exact U_set_same (Q1.out 3 _ rfl)
    · refine U_set_other (Q1.out o v ?_) (ne_off (Ne.symm h3))
      match o, h3, hv with
      | 0, _, hv => exact hv
      | 1, _, hv => exact hv
      | 2, _, hv => exact hv
      | 4, _, hv => exact hv
      | 3, h3, _ => exact absurd rfl h3
  have Q4 : Hid (∀ o v, (#[.int .i64 0, .int .i64 0, .int .i64 0, .slice none 0 0, .slice none 0 0] : Array Value)[o]? = some v → U w4 (w.heap.size + 1) o = some v) := fun o v hv => by
    rw [← hw4]; exact U_set_other (Q2.out o v hv) (ne_blk (by omega))
  have HO4 : Hid (Own w4 w2.heap.size _ [.slice r1 n1 d1] S1) := Lib.hid (by rw [← hw4]; exact HO1.out.setCell (p := ⟨w.heap.size, 3, none⟩) (HO1.out.notMem (by have := HS2.out; simp; omega)) _)
  rw [hw4]
  refine (HK.out w4 _ (HX.out.on HB4.out)).mono ?_
  rintro e w5 ⟨v2, S2, rfl, hb5, ho2, hn2⟩
  obtain ⟨r2, n2, d2, rfl, -, -, -⟩ := ho2.slice
  have hlt4 : w.heap.size + 1 < w4.heap.size := by
    have h2 := HS2.out
    have h3 := (HO1.out.mem)
    have h4 := U_lt (Q4.out 0 _ rfl)
    exact h4
  have q5 : ∀ o v, (#[.int .i64 h.k, .int .i64 h.n, .int .i64 h.a, .slice r1 n1 d1, .slice r x.len d] : Array Value)[o]? = some v → U w5 w.heap.size o = some v := fun o v hv => U_below hb5 _ _ _ (by omega) (Q3.out o v hv)
  have q6 : ∀ o v, (#[.int .i64 0, .int .i64 0, .int .i64 0, .slice none 0 0, .slice none 0 0] : Array Value)[o]? = some v → U w5 (w.heap.size + 1) o = some v := fun o v hv => U_below hb5 _ _ _ (by omega) (Q4.out o v hv)
  have k0 := U_cell (q5 0 _ rfl)
  have k1 := U_cell (q5 1 _ rfl)
  have k2 := U_cell (q5 2 _ rfl)
  have k3 := U_cell (q5 3 _ rfl)
  have k4 := U_cell (q5 4 _ rfl)
  have l4 := U_frozen (q5 4 _ rfl)
  have m0 := U_cell (q6 0 _ rfl)
  have m1 := U_cell (q6 1 _ rfl)
  have m2 := U_cell (q6 2 _ rfl)
  have m3 := U_cell (q6 3 _ rfl)
  have m4 := U_cell (q6 4 _ rfl)
  have o0 := U_frozen (q6 0 _ rfl)
  have o1 := U_frozen (q6 1 _ rfl)
  have o2 := U_frozen (q6 2 _ rfl)
  have o3 := U_frozen (q6 3 _ rfl)
  have o4 := U_frozen (q6 4 _ rfl)
  have HB5 := Lib.hid (below_step HB4.out hb5)
  have HO5 := Lib.hid ho2
  have HO6 := Lib.hid (HO4.out.below hb5)
  have HN2 := Lib.hid hn2
  have Q6 := Lib.hid q6
  have HM4 := Lib.hid (fun b hb => (HO4.out.mem b hb).2)
  clear hw4 hsz4 Q3 Q4 HO4 Q1 Q2 HB3 HO1 g3 g4 f3 q5 q6 hb5 ho2 hn2 HX HK HB4
  go_wp2_with fail
  obtain ⟨W0, hW0⟩ : ∃ W0, w5.setCell ⟨w.heap.size, 4, none⟩ (.slice r2 n2 d2) = W0 := ⟨_, rfl⟩
  have p6 : ∀ o v, (#[.int .i64 0, .int .i64 0, .int .i64 0, .slice none 0 0, .slice none 0 0] : Array Value)[o]? = some v → U W0 (w.heap.size + 1) o = some v := fun o v hv => by
    rw [← hW0]; exact U_set_other (Q6.out o v hv) (ne_blk (by omega))
  have hk0 : ∀ k, k ≠ w.heap.size → W0.heap[k]? = w5.heap[k]? := fun k hk => by rw [← hW0]; exact Below.heap_setCell _ _ _ k hk
  have hBW : Below w.heap.size w W0 := by rw [← hW0]; exact HB5.out.setCell (p := ⟨w.heap.size, 4, none⟩) (Nat.le_refl _) _
  rw [hW0]
  obtain ⟨W, hW⟩ : ∃ W, ((((W0.setCell ⟨w.heap.size + 1, 0, none⟩ (.int .i64 h.k)).setCell ⟨w.heap.size + 1, 1, none⟩ (.int .i64 h.n)).setCell ⟨w.heap.size + 1, 2, none⟩ (.int .i64 h.a)).setCell ⟨w.heap.size + 1, 3, none⟩ (.slice r1 n1 d1)).setCell ⟨w.heap.size + 1, 4, none⟩ (.slice r2 n2 d2) = W := ⟨_, rfl⟩
  obtain ⟨x0, x1, x2, x3, x4, hkW⟩ := five_set (p6 0 _ rfl) (p6 1 _ rfl) (p6 2 _ rfl) (p6 3 _ rfl) (p6 4 _ rfl) hW
  have hBF : Below w.heap.size w W := by
    rw [← hW]
    exact ((((hBW.setCell (p := ⟨w.heap.size + 1, 0, none⟩) (Nat.le_succ _) _).setCell (p := ⟨w.heap.size + 1, 1, none⟩) (Nat.le_succ _) _).setCell (p := ⟨w.heap.size + 1, 2, none⟩) (Nat.le_succ _) _).setCell (p := ⟨w.heap.size + 1, 3, none⟩) (Nat.le_succ _) _).setCell (p := ⟨w.heap.size + 1, 4, none⟩) (Nat.le_succ _) _
  rw [hW]
  have hs2 := HS2.out
  have hlt : ∀ b ∈ S1 ++ S2, w.heap.size + 2 ≤ b := by
    intro b hb
    rcases List.mem_append.1 hb with hb | hb
    · have := (HO6.out.mem b hb).1; omega
    · have := (HO5.out.mem b hb).1
      omega
  have hO : Own w5 w.heap.size (lentT ty (.cons h x .nil)) [.int .i64 h.k, .int .i64 h.n, .int .i64 h.a, .slice r1 n1 d1, .slice r2 n2 d2] (S1 ++ S2) :=
    ⟨_, rfl, _, rfl, _, rfl, Own.app (HO5.out.lower (by omega)) (HO6.out.lower (by omega))⟩
  refine bodyPost_ret (v := .agg #[.int .i64 h.k, .int .i64 h.n, .int .i64 h.a, .slice r1 n1 d1, .slice r2 n2 d2]) (by simp [results, Tryz.results11, go_sem, U_cell x0, U_cell x1, U_cell x2, U_cell x3, U_cell x4]) rfl ⟨[.int .i64 h.k, .int .i64 h.n, .int .i64 h.a, .slice r1 n1 d1, .slice r2 n2 d2], S1 ++ S2, rfl, hBF, hO.kept (fun b hb => ?_), ?_⟩
  · have := hlt b hb
    exact (hkW b (by omega)).trans (hk0 b (by omega))
  · exact nodup_two w4.heap.size HN1.out HN2.out HM4.out (fun b hb => (HO5.out.mem b hb).1)

/-- One term made. -/
theorem Makes.tm {k n a : Int} {e1 e2 : Nat} {x s x' s' : Ds} {w w' : World} {en : Ending} (h : Makes (.lit (.int .i64 k) (.lit (.int .i64 n) (.lit (.int .i64 a) (.row 1 e1 x s (.row 5 e2 x' s' .nil))))) w en w') :
    ∃ r m d r' m' d' S, en = .returned (.agg #[.int .i64 k, .int .i64 n, .int .i64 a, .slice r m d, .slice r' m' d']) ∧ Below w.heap.size w w' ∧
      Own w' w.heap.size (.lit (.int .i64 k) (.lit (.int .i64 n) (.lit (.int .i64 a) (.row 1 e1 x s (.row 5 e2 x' s' .nil))))) [.int .i64 k, .int .i64 n, .int .i64 a, .slice r m d, .slice r' m' d'] S ∧ S.Nodup := by
  obtain ⟨xs, S, rfl, hb, ho, hn⟩ := h
  have ho' := ho
  obtain ⟨_, rfl, _, rfl, _, rfl, v, ys, _, _, _, _, _, _, rfl, h1, -, -, ⟨v', ys', _, _, _, _, _, _, rfl, h2, -, -, ⟨rfl, -⟩, -⟩, -⟩ := ho'
  have g1 : ∃ r m d, v = .slice r m d := by
    rcases h1 with ⟨p, rfl, -⟩ | ⟨g, m, cap, cur, -, rfl, -⟩
    · exact ⟨_, _, _, rfl⟩
    · exact ⟨_, _, _, rfl⟩
  have g2 : ∃ r m d, v' = .slice r m d := by
    rcases h2 with ⟨p, rfl, -⟩ | ⟨g, m, cap, cur, -, rfl, -⟩
    · exact ⟨_, _, _, rfl⟩
    · exact ⟨_, _, _, rfl⟩
  obtain ⟨r, m, d, rfl⟩ := g1
  obtain ⟨r', m', d', rfl⟩ := g2
  exact ⟨r, m, d, r', m', d', S, rfl, hb, ho, hn⟩
theorem lentT_take {t : Ts} {k : Nat} (y : Tys) (h : k < t.len) : lentT y (t.take (k + 1)) = (lentT y (t.take k)).app (lentT y (.cons (t.hd k) (t.kd k) .nil)) := by
  rw [Ts.take_succ h, Ts.snoc, lentT_app]
theorem lentT_ones (y : Tys) (t : Ts) : (lentT y t).ones := by
  induction t with
  | nil => trivial
  | cons h x r _ ih => exact ⟨rfl, rfl, rfl, ih⟩
theorem Ts.len_le_size (t : Ts) : t.len ≤ t.size := Nat.le_trans t.len_le_count t.count_le_size

set_option maxHeartbeats 2000000 in
theorem lentTerms_any (M : Nat) : ∀ (t : Ts) (va : Value) (w : World), t.count < M → RT ty w va t → t.size ≤ 2000000 → Calls Tryz.prog 10 #[va] w (MakesV (.row 5 26 (lentT ty t) (tDs ty (tMarks 1 12)) .nil) w) := by
  induction M with
  | zero => intro t va w hm; omega
  | succ M ih =>
    intro t va w hm ha hs
    obtain ⟨q, c, rfl, hc1, hc2, -⟩ := ha.slice
    unfold maxLen at hc2
    have hl : t.len ≤ 2000000 := by have := Ts.len_le_size t; omega
    obtain ⟨w1, hrun, hR, hB⟩ := RowG.make elT w w.heap.size (t.len + 12) .i64 .i64 (by omega) (Nat.le_refl _)
    rw [show ((t.len + 12 : Nat) : Int) = (t.len : Int) + 12 by omega] at hrun
    have HR := Lib.hid hR
    have HB := Lib.hid hB
    have HA := Lib.hid ha
    have HSZ := Lib.hid hs
    have IH := Lib.hid ih
    have HM := Lib.hid hm
    clear hR hB ha hs ih hm
    go_enter Tryz.func10, Tryz.ntmps10
    go_wp2_with fail
    clear hrun
    go_loopw [3, 4] (fun v i wr => ∃ (k : Nat) (S : List Nat), k ≤ t.len ∧ i = .int .i64 k ∧ Below w.heap.size w wr ∧ RowG wr w.heap.size 5 26 v k (lentT ty (t.take k)) S) (fun _ i _ => t.len - (intOf i).toNat)
    case atStart => exact ⟨0, [], Nat.zero_le _, rfl, HB.out, HR.out⟩
    case round =>
      obtain ⟨k, S, hk, rfl, hB1, hR1⟩ := hrel
      have HB1 := Lib.hid hB1
      have HR1 := Lib.hid hR1
      clear hB1 hR1
      by_cases hlt : k < t.len
      · have r1 : decide ((k : Int) < (t.len : Int)) = true := decide_eq_true (by omega)
        obtain ⟨b, o, rfl, hb, hu1, hu2, hu3, ⟨r, d, hu4, hd1, hd2, hRL⟩, ⟨r', d', hu5, hd3, hd4, hRT⟩⟩ := (HA.out.on HB1.out).at_ hlt
        have e1 := U_cell hu1
        have e2 := U_cell hu2
        have e3 := U_cell hu3
        have e4 := U_cell hu4
        have e5 := U_cell hu5
        have hsz := Ts.size_kd hlt
        have hcnt := Ts.count_kd hlt
        have hRM : RM ty wr (.agg #[.int .i64 (t.hd k).k, .int .i64 (t.hd k).n, .int .i64 (t.hd k).a, .slice r (t.hd k).l.length d, .slice r' (t.kd k).len d']) (t.hd k) (t.kd k) := ⟨r, _, d, r', _, d', rfl, hRL, hRT⟩
        have HL := Lib.hid ((lentTerm_of (t.hd k) (t.kd k) _ wr hRM (by have := HSZ.out; omega) (fun W v hv => IH.out (t.kd k) v W (by have := HM.out; omega) hv (by have := HSZ.out; omega))).mono fun _ _ h => Makes.tm h)
        have HT := Lib.hid (lentT_take ty hlt)
        have HO : Hid (∀ x : Ds, x = lentT ty (.cons (t.hd k) (t.kd k) .nil) → x.ones) := fun x hx => by rw [hx]; exact lentT_ones _ _
        have hbase : w.heap.size ≤ wr.heap.size := HB1.out.size
        clear hu1 hu2 hu3 hu4 hu5 hd1 hd2 hd3 hd4 hRL hRT hsz hcnt hRM
        go_wp2_with fail
        refine HL.out.mono ?_
        rintro e w3 ⟨s1, n1, d1, s2, n2, d2, S2, rfl, hb3, hown, hnd⟩
        obtain ⟨cs, hcs⟩ : ∃ cs : List Value, [.int .i64 (t.hd k).k, .int .i64 (t.hd k).n, .int .i64 (t.hd k).a, .slice s1 n1 d1, .slice s2 n2 d2] = cs := ⟨_, rfl⟩
        have hB4 := below_step hb3 (below_step (below_alloc w3 (.cells cs.toArray 26)) (below_alloc _ (.cells cs.toArray 26)))
        have hR4 := HR1.out.below hB4
        rw [hcs] at hown
        have hO4 := (hown.below (below_step (below_alloc w3 (.cells cs.toArray 26)) (below_alloc _ (.cells cs.toArray 26)))).lower hbase
        obtain ⟨v', w4, hrun4, hR5, hg, -⟩ := RowG.append (ty := 22) (k := 1) elT hR4 HR1.out.lt_of hO4 hnd (fun b hb => (hown.mem b hb).1) (HO.out _ rfl) ⟨(w3.alloc (.cells cs.toArray 26)).heap.size, 0, none⟩ 1 (by rw [← hcs]; rfl) (new_cells _ _ 26) (by omega) (Nat.le_trans hbase hB4.size)
        have HB4 : Hid (Below w.heap.size w w4) := Lib.hid ((below_step HB1.out hB4).grown hg (below_step HB1.out hB4).size hR4.ge)
        have HR4 : Hid (RowG w4 w.heap.size 5 26 v' (k + 1) (lentT ty (t.take (k + 1))) (S ++ S2)) := Lib.hid (by rw [HT.out]; exact hR5)
        simp only [World.size_alloc, ← hcs] at hrun4
        clear hb3 hown hnd hB4 hR4 hO4 hR5 hg HT HL HR1 HO hcs
        go_wp2_with (at_builtin; refine wpList_append_run rfl _ _ 22 rfl _ _ _ rfl rfl hrun4 ?_)
        clear hrun4
        go_roundw
        case rel => exact ⟨k + 1, _, by omega, by go_num, HB4.out, HR4.out⟩
        case measure => simp [intOf]; omega
      · obtain rfl : k = t.len := by omega
        have r1 : decide ((t.len : Int) < (t.len : Int)) = false := decide_eq_false (by omega)
        have HR2 : Hid (RowG wr w.heap.size 5 26 _ t.len (lentT ty t) S) := Lib.hid (by have := HR1.out; rw [Ts.take_len] at this; exact this)
        obtain ⟨n, hn⟩ : ∃ n, t.len = n := ⟨_, rfl⟩
        rw [hn] at hl r1 HR2 hc1 ⊢
        have HN := Lib.hid hn
        clear HR1 HR HB hk hlt HA HSZ hn IH HM
        go_wp2_with fail
        clear r1
        go_loopw [3, 6] (fun v i wx => ∃ (j : Nat) (S : List Nat), j ≤ 12 ∧ i = .int .i64 j ∧ Below w.heap.size w wx ∧ RowG wx w.heap.size 5 26 v (n + j) ((lentT ty t).app (tDs ty (tMarks 1 j))) S) (fun _ i _ => 12 - (intOf i).toNat)
        case atStart => exact ⟨0, S, Nat.zero_le _, rfl, HB1.out, by rw [show tDs ty (tMarks 1 0) = .nil from rfl, Ds.app_nil]; exact HR2.out⟩
        case round =>
          obtain ⟨j, S', hj, rfl, hBj, hRj⟩ := hrel
          have HBj := Lib.hid hBj
          have HRj := Lib.hid hRj
          clear hBj hRj HR2 HB1
          by_cases hlt : j < 12
          · have r1 : decide ((j : Int) < 12) = true := decide_eq_true (by omega)
            have HM := Lib.hid (markTerm_any 1 j wr (by decide) (by omega))
            have hbase : w.heap.size ≤ wr.heap.size := HBj.out.size
            obtain ⟨m, hm⟩ : ∃ m, mark 1 j = m := ⟨_, rfl⟩
            have HMM : Hid (tMark 1 j = ⟨0, m, 0, []⟩) := Lib.hid (by unfold tMark; rw [hm])
            rw [hm] at HM
            clear hm
            go_wp2_with fail
            refine HM.out.mono ?_
            rintro e w3 ⟨rfl, hb3⟩
            have hB4 := below_step hb3 (below_alloc w3 (.cells #[.int .i64 0, .int .i64 m, .int .i64 0, .slice none 0 0, .slice none 0 0] 26))
            have hR4 := HRj.out.below hB4
            have hO4 : Own (w3.alloc (.cells #[.int .i64 0, .int .i64 m, .int .i64 0, .slice none 0 0, .slice none 0 0] 26)) w.heap.size (tDs ty (.cons ⟨0, m, 0, []⟩ .nil .nil)) [.int .i64 0, .int .i64 m, .int .i64 0, .slice none 0 0, .slice none 0 0] [] :=
              ⟨_, rfl, _, rfl, _, rfl, _, _, [], [], [], [], [], [], rfl, .inl ⟨none, rfl, rfl, rfl, rfl⟩, ⟨rfl, rfl⟩, ⟨rfl, rfl⟩, ⟨_, _, [], [], [], [], [], [], rfl, .inl ⟨none, rfl, rfl, rfl, rfl⟩, ⟨rfl, rfl⟩, ⟨rfl, rfl⟩, ⟨rfl, rfl⟩, rfl⟩, rfl⟩
            obtain ⟨v', w4, hrun4, hR5, hg, -⟩ := RowG.append (ty := 22) (k := 1) elT hR4 hR4.lt_of hO4 (by simp) (by simp) (tDs_ones ty _) ⟨w3.heap.size, 0, none⟩ 1 rfl (new_cells _ _ 26) (by omega) (Nat.le_trans hbase hB4.size)
            have HB4 : Hid (Below w.heap.size w w4) := Lib.hid ((below_step HBj.out hB4).grown hg (below_step HBj.out hB4).size hR4.ge)
            have HR4 : Hid (RowG w4 w.heap.size 5 26 v' (n + (j + 1)) ((lentT ty t).app (tDs ty (tMarks 1 (j + 1)))) (S' ++ [])) := Lib.hid (by rw [tMarks, HMM.out, tDs_snoc, ← Ds.app_assoc]; exact hR5)
            clear hb3 hB4 hR4 hO4 hR5 hg HM HRj HMM
            go_wp2_with (at_builtin; refine wpList_append_run rfl _ _ 22 rfl _ _ _ rfl rfl hrun4 ?_)
            clear hrun4
            go_roundw
            case rel => exact ⟨j + 1, _, by omega, by go_num, HB4.out, HR4.out⟩
            case measure => simp [intOf]; omega
          · obtain rfl : j = 12 := by omega
            obtain ⟨p', c', rfl, hc3, hc4⟩ := HRj.out.cap
            unfold maxLen at hc4
            have HX := Lib.hid (RowG.cut (m := n) (s := tDs ty (tMarks 1 12)) HRj.out (by omega) (by rw [lentT_len, HN.out]))
            have HND : Hid (((Value.slice p' (n + 12) c').ownBlock.toList ++ S').Nodup) := Lib.hid (by obtain ⟨_, _, _, h⟩ := HRj.out; exact h)
            clear hj hlt HRj
            go_wp2_with fail
            all_goals go_ret
            exact ⟨_, _, rfl, HBj.out, HX.out, HND.out⟩
end Go.Proofs.YtkcmapimcgppmaaGreatDoor
end
section
namespace Go.Proofs.YtkcmapimcgppmaaGreatDoor
open Go.RowKit

set_option maxHeartbeats 2000000 in
theorem refWith_any (h : Hd) (q r s : Option Addr) (n c m d p f : Nat) (w : World) (hl : RL ty w (.slice q n c) h.l) (hs : lvSize h.l ≤ 2000000) :
    Calls Tryz.prog 206 #[.agg #[.int .i64 h.k, .int .i64 h.n, .int .i64 h.a, .slice q n c, .slice r m d], .slice s p f] w fun e w' => ∃ q' n' c' S, e = .returned (.agg #[.int .i64 h.k, .int .i64 h.n, .int .i64 h.a, .slice q' n' c', .slice s p f]) ∧
      Below w.heap.size w w' ∧ Own w' w.heap.size (.row 1 43 (lvDs ty h.l) .nil .nil) [.slice q' n' c'] S ∧ S.Nodup := by
  obtain ⟨w2, hw2⟩ : ∃ w2, (w.alloc (.cells #[.int .i64 h.k, .int .i64 h.n, .int .i64 h.a, .slice q n c, .slice r m d] 26)).alloc (.cells #[.int .i64 0, .int .i64 0, .int .i64 0, .slice none 0 0, .slice none 0 0] 26) = w2 := ⟨_, rfl⟩
  have hb2 : Below w.heap.size w w2 := by rw [← hw2]; exact below_step (below_alloc _ _) (below_alloc _ _)
  have hs2 : w2.heap.size = w.heap.size + 2 := by rw [← hw2]; simp
  have p1 : ∀ o v, (#[.int .i64 h.k, .int .i64 h.n, .int .i64 h.a, .slice q n c, .slice r m d] : Array Value)[o]? = some v → U w2 w.heap.size o = some v := fun o v hv => by
    rw [← hw2]; exact U_below (below_alloc _ _) _ _ _ (by simp) (laid_cell hv)
  have p2 : ∀ o v, (#[.int .i64 0, .int .i64 0, .int .i64 0, .slice none 0 0, .slice none 0 0] : Array Value)[o]? = some v → U w2 (w.heap.size + 1) o = some v := fun o v hv => by
    have := laid_cell (w := w.alloc (.cells #[.int .i64 h.k, .int .i64 h.n, .int .i64 h.a, .slice q n c, .slice r m d] 26)) (ty := 26) hv
    rw [World.size_alloc, hw2] at this
    exact this
  obtain ⟨w3, hw3⟩ : ∃ w3, w2.setCell ⟨w.heap.size, 4, none⟩ (.slice s p f) = w3 := ⟨_, rfl⟩
  have hb3 : Below w.heap.size w w3 := by rw [← hw3]; exact hb2.setCell (p := ⟨w.heap.size, 4, none⟩) (Nat.le_refl _) _
  have hs3 : w3.heap.size = w.heap.size + 2 := by rw [← hw3]; simpa using hs2
  have q1 : ∀ o v, (#[.int .i64 h.k, .int .i64 h.n, .int .i64 h.a, .slice q n c, .slice s p f] : Array Value)[o]? = some v → U w3 w.heap.size o = some v := fun o v hv => by
    rw [← hw3]
    by_cases h4 : o = 4
    · subst h4
      cases hv
      exact U_set_same (p1 4 _ rfl)
    · refine U_set_other (p1 o v ?_) (ne_off (Ne.symm h4))
      match o, h4, hv with
      | 0, _, hv => exact hv
      | 1, _, hv => exact hv
      | 2, _, hv => exact hv
      | 3, _, hv => exact hv
      | 4, h4, _ => exact absurd rfl h4
  have q2 : ∀ o v, (#[.int .i64 0, .int .i64 0, .int .i64 0, .slice none 0 0, .slice none 0 0] : Array Value)[o]? = some v → U w3 (w.heap.size + 1) o = some v := fun o v hv => by
    rw [← hw3]; exact U_set_other (p2 o v hv) (ne_blk (by omega))
  have HL := Lib.hid (refLevels_any h.l _ w3 (hl.on hb3) hs)
  have d4 := U_cell (p1 4 _ rfl)
  have f4 := U_frozen (p1 4 _ rfl)
  have d3 := U_cell (q1 3 _ rfl)
  have HB3 := Lib.hid hb3
  have HS3 := Lib.hid hs3
  have Q1 := Lib.hid q1
  have Q2 := Lib.hid q2
  clear p1 p2 hb2 hs2 hb3 hs3 q1 q2 hl hs
  go_enter Tryz.func206, Tryz.ntmps206
  go_wp2_with fail
  refine HL.out.mono ?_
  rintro e w5 ⟨v, S, rfl, hb5, ho, hn⟩
  obtain ⟨r1, n1, d1, rfl, -, -, -⟩ := ho.slice
  have hlt : w.heap.size + 1 < w3.heap.size := by rw [HS3.out]; omega
  have g1 : ∀ o v, (#[.int .i64 h.k, .int .i64 h.n, .int .i64 h.a, .slice q n c, .slice s p f] : Array Value)[o]? = some v → U w5 w.heap.size o = some v := fun o v hv => U_below hb5 _ _ _ (by omega) (Q1.out o v hv)
  have g2 : ∀ o v, (#[.int .i64 0, .int .i64 0, .int .i64 0, .slice none 0 0, .slice none 0 0] : Array Value)[o]? = some v → U w5 (w.heap.size + 1) o = some v := fun o v hv => U_below hb5 _ _ _ (by omega) (Q2.out o v hv)
  have k0 := U_cell (g1 0 _ rfl)
  have k1 := U_cell (g1 1 _ rfl)
  have k2 := U_cell (g1 2 _ rfl)
  have k3 := U_cell (g1 3 _ rfl)
  have k4 := U_cell (g1 4 _ rfl)
  have l3 := U_frozen (g1 3 _ rfl)
  have m0 := U_cell (g2 0 _ rfl)
  have m1 := U_cell (g2 1 _ rfl)
  have m2 := U_cell (g2 2 _ rfl)
  have m3 := U_cell (g2 3 _ rfl)
  have m4 := U_cell (g2 4 _ rfl)
  have o0 := U_frozen (g2 0 _ rfl)
  have o1 := U_frozen (g2 1 _ rfl)
  have o2 := U_frozen (g2 2 _ rfl)
  have o3 := U_frozen (g2 3 _ rfl)
  have o4 := U_frozen (g2 4 _ rfl)
  have HB5 := Lib.hid (below_step HB3.out hb5)
  have HO := Lib.hid ho
  have HN := Lib.hid hn
  have G2 := Lib.hid g2
  clear hw2 hw3 d4 f4 d3 Q1 Q2 HL hb5 ho hn g1 g2 HB3 hlt
  go_wp2_with fail
  obtain ⟨W0, hW0⟩ : ∃ W0, w5.setCell ⟨w.heap.size, 3, none⟩ (.slice r1 n1 d1) = W0 := ⟨_, rfl⟩
  have p6 : ∀ o v, (#[.int .i64 0, .int .i64 0, .int .i64 0, .slice none 0 0, .slice none 0 0] : Array Value)[o]? = some v → U W0 (w.heap.size + 1) o = some v := fun o v hv => by
    rw [← hW0]; exact U_set_other (G2.out o v hv) (ne_blk (by omega))
  have hk0 : ∀ k, k ≠ w.heap.size → W0.heap[k]? = w5.heap[k]? := fun k hk => by rw [← hW0]; exact Below.heap_setCell _ _ _ k hk
  have hBW : Below w.heap.size w W0 := by rw [← hW0]; exact HB5.out.setCell (p := ⟨w.heap.size, 3, none⟩) (Nat.le_refl _) _
  rw [hW0]
  obtain ⟨W, hW⟩ : ∃ W, ((((W0.setCell ⟨w.heap.size + 1, 0, none⟩ (.int .i64 h.k)).setCell ⟨w.heap.size + 1, 1, none⟩ (.int .i64 h.n)).setCell ⟨w.heap.size + 1, 2, none⟩ (.int .i64 h.a)).setCell ⟨w.heap.size + 1, 3, none⟩ (.slice r1 n1 d1)).setCell ⟨w.heap.size + 1, 4, none⟩ (.slice s p f) = W := ⟨_, rfl⟩
  obtain ⟨x0, x1, x2, x3, x4, hkW⟩ := five_set (p6 0 _ rfl) (p6 1 _ rfl) (p6 2 _ rfl) (p6 3 _ rfl) (p6 4 _ rfl) hW
  have hBF : Below w.heap.size w W := by
    rw [← hW]
    exact ((((hBW.setCell (p := ⟨w.heap.size + 1, 0, none⟩) (Nat.le_succ _) _).setCell (p := ⟨w.heap.size + 1, 1, none⟩) (Nat.le_succ _) _).setCell (p := ⟨w.heap.size + 1, 2, none⟩) (Nat.le_succ _) _).setCell (p := ⟨w.heap.size + 1, 3, none⟩) (Nat.le_succ _) _).setCell (p := ⟨w.heap.size + 1, 4, none⟩) (Nat.le_succ _) _
  rw [hW]
  refine bodyPost_ret (v := .agg #[.int .i64 h.k, .int .i64 h.n, .int .i64 h.a, .slice r1 n1 d1, .slice s p f]) (by simp [results, Tryz.results206, go_sem, U_cell x0, U_cell x1, U_cell x2, U_cell x3, U_cell x4]) rfl ⟨_, _, _, S, rfl, hBF, (HO.out.lower (by have := HS3.out; omega)).kept (fun b hb => ?_), HN.out⟩
  have := (HO.out.mem b hb).1
  have := HS3.out
  exact (hkW b (by omega)).trans (hk0 b (by omega))
end Go.Proofs.YtkcmapimcgppmaaGreatDoor
end
section
namespace Go.Proofs.YtkcmapimcgppmaaGreatDoor
open Go.RowKit

/-- The worlds that hold all that lay in w. -/
structure Grown (w : World) where
  it : World
  below : Below w.heap.size w it
instance (w : World) : Nonempty (Grown w) := ⟨⟨w, Below.refl _ _⟩⟩
theorem wp_region_calm {P : Program} {id : Nat} {Q : Exit → Act → World → Prop} {a : Act} {w : World} {l : List Oper} (hm : P.follows .mixedOrders = true) (hB : Region.lexB .any l.toArray = true)
    (h : wpQuiet P l.toArray (fun w' => ∃ n : Grown w, w' = n.it) (fun a' => ∀ w', (∃ n : Grown w, w' = n.it) → Q .normal a' w') l a) : (Code.region id l.toArray true).wp P Q a w :=
  wp_region_quiet (C := fun w' => ∃ n : Grown w, w' = n.it) hm hB ⟨⟨_, below_drew w⟩, rfl⟩ (by simpa using h)
theorem Grown.cell {w : World} {b o : Nat} {v : Value} (h : U w b o = some v) : ∀ n : Grown w, n.it.cell? ⟨b, o, none⟩ = some v := fun n => U_cell (U_below n.below b o v (U_lt h) h)
end Go.Proofs.YtkcmapimcgppmaaGreatDoor
end
section
namespace Go.Proofs.YtkcmapimcgppmaaGreatDoor
open Go.RowKit

/-- Operations that yield a value and no more. -/
def readKind (o : Oper) : Bool := match o.op with
  | .move _ => true
  | .assign _ => true
  | .pick _ _ _ => true
  | .load _ _ => true
  | .binOp _ _ _ _ _ => true
  | .unOp _ _ _ => true
  | .indexAddr _ _ _ => true
  | .fieldAddr _ _ _ => true
  | .extract _ _ => true
  | .slice _ _ _ _ _ => true
  | .call c => match c.callee, c.args.size with
    | .builtin .len, 1 => true
    | _, _ => false
  | _ => false
theorem andThen_ok_of {α : Type} {s : Result α} {g : α → World → Result Next} {n : Next} {w' : World} (hg : ∀ a w n w', g a w = .ok n w' → ∃ v, n = .value v) (h : s.andThen g = .ok n w') : ∃ v, n = .value v := by
  cases s with
  | ok a w => exact hg a w n w' (by simpa using h)
  | halt x w => simp [Result.andThen] at h
theorem bind_value {P : Program} {α : Type} {s : Sem α} {f : α → Value} {w w' : World} {n : Next} (h : (do let a ← s; pure (Next.value (f a)) : Sem Next).run P w = .ok n w') : ∃ v, n = .value v := by
  rw [Sem.run_bind] at h
  exact andThen_ok_of (fun a w n w' h => by simp at h; exact ⟨_, h.1.symm⟩) h
theorem read_value {P : Program} {ρ : Operand → Value} {o : Oper} {w w' : World} {n : Next} (hr : readKind o = true) (h : (execOp ρ o).run P w = .ok n w') : ∃ v, n = .value v := by
  obtain ⟨dst, op, typ, pos, after, guard⟩ := o
  unfold readKind at hr
  cases op
  case call c =>
    obtain ⟨callee, args, argTypes⟩ := c
    cases callee
    case builtin b =>
      cases b
      case len =>
        have hz : args.size = 1 := by
          simp only at hr
          split at hr
          · assumption
          · cases hr
        obtain ⟨x, rfl⟩ : ∃ x, args = #[x] := by
          cases args with
          | mk l => match l, hz with
            | [x], _ => exact ⟨x, rfl⟩
        simp only [execOp, resolve, invoke, Go.builtin, Sem.run_bind, Sem.run_pure, Result.andThen_ok] at h
        exact andThen_ok_of (fun a w n w' h => by simp at h; exact ⟨_, h.1.symm⟩) h
      all_goals simp at hr
    all_goals simp at hr
  all_goals first
    | (simp at hr; done)
    | exact bind_value h
    | (simp [execOp] at h; exact ⟨_, h.1.symm⟩)

/-- What is no read is barred: it must be passed over. -/
def bar (o : Oper) : Oper := if readKind o = true then o else { o with op := .send (.const undef) (.const undef) }
theorem bar_wanted (o : Oper) (ops : Array Oper) (ts : Array Value) : Region.wanted (bar o) (yielded ops ts) = Region.wanted o (yielded ops ts) := by
  unfold bar; split <;> rfl
theorem bar_dst (o : Oper) : (bar o).dst = o.dst := by
  unfold bar; split <;> rfl
def marked (listed : Array Bool) (k : Nat) : Nat → Array Bool
  | 0 => listed
  | n + 1 => marked (listed.setIfInBounds k true) (k + 1) n
def takesB (md : Region.Mode) (ops : Array Oper) (listed : Array Bool) (k : Nat) : Nat → Bool
  | 0 => true
  | n + 1 => Region.free md ops listed k && ((Region.ready md ops listed).contains k && takesB md ops (listed.setIfInBounds k true) (k + 1) n)
theorem takeReads {P : Program} {md : Region.Mode} {ops : Array Oper} {Q : Exit → Act → World → Prop} {S : World → Prop} (hs : Region.noSelect ops = true) (hQ : ∀ c a d v w, Q (.panic c) (Act.put a d v) w → Q (.panic c) a w) {w : World} (hS : S w) (fuel : Nat) :
    ∀ (l : List Oper) (k : Nat) (listed : Array Bool) (a : Act), (∀ j, j < l.length → ops[k + j]? = l[j]?) → takesB md ops listed k l.length = true →
      wpQuiet P ops S (fun a' => wpAnyH P md ops Q S fuel (marked listed k l.length) a' w) (l.map bar) a → wpAnyH P md ops Q S (fuel + l.length) listed a w
  | [], _, _, _, _, _, h => h
  | o :: l, k, listed, a, hj, ht, h => by
    have h0 : ops[k]? = some o := by have := hj 0 (by simp); simpa using this
    simp only [List.length_cons, takesB, Bool.and_eq_true] at ht
    have next : ∀ a', wpQuiet P ops S (fun a' => wpAnyH P md ops Q S fuel (marked listed k (l.length + 1)) a' w) (l.map bar) a' → wpAnyH P md ops Q S (fuel + l.length) (listed.setIfInBounds k true) a' w := fun a' h' =>
      takeReads hs hQ hS fuel l (k + 1) _ a' (fun j hjl => by
        have := hj (j + 1) (by simp; omega)
        rw [show k + 1 + j = k + (j + 1) by omega]
        simpa using this) ht.2.2 h'
    rw [List.map_cons] at h
    unfold wpQuiet at h
    rw [bar_wanted, bar_dst] at h
    split at h
    · rename_i hw
      obtain ⟨v, h1, h2⟩ := h
      rw [bar_dst] at h2
      have hrd : readKind o = true := by
        by_cases hb : readKind o = true
        · exact hb
        · have h3 := h1 w hS
          unfold Oper.quietAt Oper.quietUpon bar at h3
          rw [if_neg hb] at h3
          simp [execOp] at h3
      have hbo : bar o = o := by unfold bar; rw [if_pos hrd]
      rw [hbo] at h1
      refine wpAnyH_take (i := k) (v := v) h0 hs ht.1 ht.2.1 (fun c a w h => hQ c a _ _ w h) (Or.inl ⟨hw, fun w' hw' => ?_⟩) hS (next _ h2)
      have h3 := h1 w' hw'
      unfold Oper.quietAt Oper.quietUpon at h3
      generalize hres : (execOp a.eval o).run P w' = res at h3
      cases res with
      | ok n w1 =>
        obtain ⟨u, rfl⟩ := read_value hrd hres
        obtain ⟨rfl, rfl⟩ := h3
        rfl
      | halt x w1 => exact absurd h3 id
    · rename_i hw
      exact wpAnyH_take (i := k) (v := undef) h0 hs ht.1 ht.2.1 (fun c a w h => hQ c a _ _ w h) (Or.inr ⟨by simpa using hw, rfl⟩) hS (next _ h)

/-- The one operation that may come up, taken. -/
theorem tail_step {P : Program} {md : Region.Mode} {ops : Array Oper} {Q : Exit → Act → World → Prop} {S : World → Prop} {fuel : Nat} {listed : Array Bool} {a : Act} {w : World} {i : Nat} {o : Oper} (hr : Region.ready md ops listed = [i]) (ho : ops[i]? = some o) (hw : Region.wanted o (yielded ops a.tmps) = true)
    (h : ∀ K' : Act → World → Prop, Shut (∀ a w, S w → (S w → wpAnyH P md ops Q S fuel (listed.setIfInBounds i true) a w) → K' a w) → Oper.wp P o a w K' Q) : wpAnyH P md ops Q S (fuel + 1) listed a w :=
  wpAnyH_ready hr (by simp) (AllReadyH.cons ho (fun K' hK => by rw [if_pos hw]; exact h K' hK) AllReadyH.nil)

/-- The worlds that hold all that lay in w below block B. -/
structure GrownB (B : Nat) (w : World) where
  it : World
  below : Below B w it
instance (B : Nat) (w : World) : Nonempty (GrownB B w) := ⟨⟨w, Below.refl _ _⟩⟩
theorem GrownB.cell {B : Nat} {w : World} {b o : Nat} {v : Value} (h : U w b o = some v) (hb : b < B) : ∀ n : GrownB B w, n.it.cell? ⟨b, o, none⟩ = some v := fun n => U_cell (U_below n.below b o v hb h)
theorem wp_region_take_B {P : Program} {id : Nat} {Q : Exit → Act → World → Prop} {a : Act} {w : World} {L : List Oper} (B : Nat) (n : Nat) (hn : n ≤ L.length) (hm : P.follows .mixedOrders = true) (hs : Region.noSelect L.toArray = true)
    (ht : takesB .any L.toArray (Array.replicate L.length false) 0 n = true) (hQ : ∀ c a d v w, Q (.panic c) (Act.put a d v) w → Q (.panic c) a w)
    (h : wpQuiet P L.toArray (fun w' => ∃ n : GrownB B w, w' = n.it) (fun a' => wpAnyH P .any L.toArray Q (fun w' => ∃ n : GrownB B w, w' = n.it) (L.length - n) (marked (Array.replicate L.length false) 0 n) a' w.drew) ((L.take n).map bar) a) :
    (Code.region id L.toArray true).wp P Q a w := by
  have e1 : (L.take n).length = n := by simp [Nat.min_eq_left hn]
  have e2 : L.take n ++ L.drop n = L := List.take_append_drop n L
  have e3 : (L.drop n).length = L.length - n := by simp
  refine wp_region_held (S := fun w' => ∃ n : GrownB B w, w' = n.it) hm ?_
  have := takeReads (md := .any) (ops := L.toArray) (Q := Q) (S := fun w' => ∃ n : GrownB B w, w' = n.it) hs hQ (w := w.drew) ⟨⟨w.drew, rfl, rfl, rfl, Nat.le_refl _, fun _ _ => rfl⟩, rfl⟩ (L.length - n) (L.take n) 0 (Array.replicate L.length false) a
    (fun j hj => by rw [e1] at hj; simp [hj]) (by rw [e1]; exact ht) (by rw [e1]; exact h)
  have e4 : L.toArray.size = L.length - n + (L.take n).length := by rw [e1]; simp; omega
  have e5 : Array.replicate L.length false = Array.replicate L.toArray.size false := by simp
  rw [e5] at this
  rw [e4] at this ⊢
  exact this
/-- An append whose run is known, as one step. -/
theorem wp_append_run {P : Program} {o : Oper} {a : Act} {w w' : World} {K : Act → World → Prop} {Q : Exit → Act → World → Prop} (s x : Operand) (t : TypeId)
    (ho : o.op = .call { callee := .builtin .append, args := #[s, x], argTypes := #[t, t] }) (v xv v' : Value) (hs : a.eval s = v) (hx : a.eval x = xv) (hr : (Builtin.append_ #[t, t] o.type #[v, xv]).run P w = .ok v' w')
    (h : K (a.put o.dst v') w') : Oper.wp P o a w K Q := by
  unfold Oper.wp execOp
  simp only [ho, resolve, invoke, builtin, Sem.run_bind, Sem.run_pure, Result.andThen_ok, List.map_toArray, List.map_cons, List.map_nil, hs, hx, hr]
  first | exact h | exact Or.inl h

/-- An operation that no walk takes. -/
def noOp : Oper := { dst := none, op := .send (.const undef) (.const undef), type := 0, pos := "", after := #[], guard := none }
def markedL (listed : Array Bool) : List Nat → Array Bool
  | [] => listed
  | k :: r => markedL (listed.setIfInBounds k true) r
def takesL (md : Region.Mode) (ops : Array Oper) (listed : Array Bool) : List Nat → Bool
  | [] => true
  | k :: r => Region.free md ops listed k && ((Region.ready md ops listed).contains k && takesL md ops (listed.setIfInBounds k true) r)
theorem takeReadsL {P : Program} {md : Region.Mode} {L : List Oper} {Q : Exit → Act → World → Prop} {S : World → Prop} (hs : Region.noSelect L.toArray = true) (hQ : ∀ c a d v w, Q (.panic c) (Act.put a d v) w → Q (.panic c) a w) {w : World} (hS : S w) (fuel : Nat) :
    ∀ (is : List Nat) (listed : Array Bool) (a : Act), is.all (fun i => decide (i < L.length)) = true → takesL md L.toArray listed is = true →
      wpQuiet P L.toArray S (fun a' => wpAnyH P md L.toArray Q S fuel (markedL listed is) a' w) ((is.map fun i => L.getD i noOp).map bar) a → wpAnyH P md L.toArray Q S (fuel + is.length) listed a w
  | [], _, _, _, _, h => h
  | k :: is, listed, a, hj, ht, h => by
    simp only [List.all_cons, Bool.and_eq_true, decide_eq_true_eq] at hj
    obtain ⟨o, ho⟩ : ∃ o, L.getD k noOp = o := ⟨_, rfl⟩
    have h0 : L.toArray[k]? = some o := by
      rw [← ho, List.getElem?_toArray, List.getElem?_eq_getElem hj.1, List.getD_eq_getElem?_getD, List.getElem?_eq_getElem hj.1]; rfl
    simp only [takesL, Bool.and_eq_true] at ht
    have next : ∀ a', wpQuiet P L.toArray S (fun a' => wpAnyH P md L.toArray Q S fuel (markedL listed (k :: is)) a' w) ((is.map fun i => L.getD i noOp).map bar) a' → wpAnyH P md L.toArray Q S (fuel + is.length) (listed.setIfInBounds k true) a' w := fun a' h' =>
      takeReadsL hs hQ hS fuel is _ a' hj.2 ht.2.2 h'
    rw [List.map_cons, ho, List.map_cons] at h
    unfold wpQuiet at h
    rw [bar_wanted, bar_dst] at h
    split at h
    · rename_i hw
      obtain ⟨v, h1, h2⟩ := h
      rw [bar_dst] at h2
      have hrd : readKind o = true := by
        by_cases hb : readKind o = true
        · exact hb
        · have h3 := h1 w hS
          unfold Oper.quietAt Oper.quietUpon bar at h3
          rw [if_neg hb] at h3
          simp [execOp] at h3
      have hbo : bar o = o := by unfold bar; rw [if_pos hrd]
      rw [hbo] at h1
      refine wpAnyH_take (i := k) (v := v) h0 hs ht.1 ht.2.1 (fun c a w h => hQ c a _ _ w h) (Or.inl ⟨hw, fun w' hw' => ?_⟩) hS (next _ h2)
      have h3 := h1 w' hw'
      unfold Oper.quietAt Oper.quietUpon at h3
      generalize hres : (execOp a.eval o).run P w' = res at h3
      cases res with
      | ok n w1 =>
        obtain ⟨u, rfl⟩ := read_value hrd hres
        obtain ⟨rfl, rfl⟩ := h3
        rfl
      | halt x w1 => exact absurd h3 id
    · rename_i hw
      exact wpAnyH_take (i := k) (v := undef) h0 hs ht.1 ht.2.1 (fun c a w h => hQ c a _ _ w h) (Or.inr ⟨by simpa using hw, rfl⟩) hS (next _ h)
/-- The beginning: these operations are reads, in this order. -/
theorem wp_region_take_I {P : Program} {id : Nat} {Q : Exit → Act → World → Prop} {a : Act} {w : World} {L : List Oper} (B : Nat) (is : List Nat) (hn : is.length ≤ L.length) (hm : P.follows .mixedOrders = true) (hs : Region.noSelect L.toArray = true)
    (hi : is.all (fun i => decide (i < L.length)) = true) (ht : takesL .any L.toArray (Array.replicate L.length false) is = true) (hQ : ∀ c a d v w, Q (.panic c) (Act.put a d v) w → Q (.panic c) a w)
    (h : wpQuiet P L.toArray (fun w' => ∃ n : GrownB B w, w' = n.it) (fun a' => wpAnyH P .any L.toArray Q (fun w' => ∃ n : GrownB B w, w' = n.it) (L.length - is.length) (markedL (Array.replicate L.length false) is) a' w.drew) ((is.map fun i => L.getD i noOp).map bar) a) :
    (Code.region id L.toArray true).wp P Q a w := by
  refine wp_region_held (S := fun w' => ∃ n : GrownB B w, w' = n.it) hm ?_
  have := takeReadsL (md := .any) (Q := Q) (S := fun w' => ∃ n : GrownB B w, w' = n.it) hs hQ (w := w.drew) ⟨⟨w.drew, rfl, rfl, rfl, Nat.le_refl _, fun _ _ => rfl⟩, rfl⟩ (L.length - is.length) is (Array.replicate L.length false) a hi ht h
  have e4 : L.toArray.size = L.length - is.length + is.length := by simp; omega
  have e5 : Array.replicate L.length false = Array.replicate L.toArray.size false := by simp
  rw [e5] at this
  rw [e4] at this ⊢
  exact this
end Go.Proofs.YtkcmapimcgppmaaGreatDoor
end
