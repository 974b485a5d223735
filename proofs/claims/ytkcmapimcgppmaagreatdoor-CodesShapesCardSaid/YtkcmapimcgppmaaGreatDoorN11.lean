/-
  The document's Lift. Conditions: no more than 2000000 nodes, levels, parts; numbers that a word holds. The document's small makers of terms. A node in memory of its own (own). Conditions: no more than 2000000 levels, parts. The program's walk: which variable one means; the walk at a kid; the turn of Lift. Conditions: numbers that a word holds. What Lift's walk does at a node. Conditions: numbers that a word holds. A region that draws its order, all of whose reads of blocks that it does not write are taken first. Conditions: as each lemma states them.
-/
import Derived.Test.YtkcmapimcgppmaaGreatDoorN10
import Derived.Test.YtkcmapimcgppmaaGreatDoorN01
import Derived.Test.YtkcmapimcgppmaaGreatDoorN08
import Derived.Test.YtkcmapimcgppmaaGreatDoorN02
import Derived.Test.YtkcmapimcgppmaaGreatDoorN09
set_option linter.all false
set_option linter.unusedVariables false
set_option linter.unusedSimpArgs false
set_option linter.unnecessarySimpa false
section
namespace Go.Proofs.YtkcmapimcgppmaaGreatDoor
open Go.RowKit

theorem refLift_any (M : Nat) : ∀ (h : Hd) (x : Ts) (va : Value) (n f : Int) (d : Nat) (w : World), x.count < M → RM ty w va h x → h.fits → x.fits → lvSize h.l + x.size ≤ 2000000 → d + x.count ≤ 1000000000 →
    Calls Tryz.prog 128 #[va, .int .i64 n, .int .i64 f, .int .i64 d] w (Makes (tDs ty (.cons (h.lift n f d) (x.lift n f h.k 0 d) .nil)) w) := by
  induction M with
  | zero => intro h x va n f d w hm; omega
  | succ M ih =>
    intro h x va n f d w hm ha hf hxf hs hd
    have h1 := Ts.len_le_size x
    refine refLift_of h x va n f d w ha hf (by omega) (by omega) (by omega) fun k W v e hk hv he => ?_
    have h2 := Ts.size_kd hk
    have h3 := Ts.count_kd hk
    have h4 := Ts.fits_hd hxf hk
    exact ih (x.hd k) (x.kd k) v n f e W (by omega) hv h4.1 h4.2 (by omega) (by omega)

/-- What a call leaves that hands back one term of its own. -/
def MakesT (h : Hd) (x : Ts) (w : World) (e : Ending) (w' : World) : Prop :=
  ∃ r m d r' m' d' S, e = .returned (.agg #[.int .i64 h.k, .int .i64 h.n, .int .i64 h.a, .slice r m d, .slice r' m' d']) ∧ Below w.heap.size w w' ∧
    Own w' w.heap.size (tDs ty (.cons h x .nil)) [.int .i64 h.k, .int .i64 h.n, .int .i64 h.a, .slice r m d, .slice r' m' d'] S ∧ S.Nodup
theorem MakesT.of {h : Hd} {x : Ts} {w w' : World} {e : Ending} (hm : Makes (tDs ty (.cons h x .nil)) w e w') : MakesT h x w e w' := Makes.tm hm
set_option maxHeartbeats 2000000 in
theorem refLiftT_any (h : Hd) (x : Ts) (va : Value) (n f : Int) (w : World) (ha : RM ty w va h x) (hf : h.fits) (hxf : x.fits) (hs : lvSize h.l + x.size ≤ 2000000) :
    Calls Tryz.prog 63 #[va, .int .i64 n, .int .i64 f] w (MakesT (h.lift n f 0) (x.lift n f h.k 0 0) w) := by
  obtain ⟨q, c, r, m, rfl, -, -, -, -, hl, hx⟩ := ha.agg
  obtain ⟨w2, hw2⟩ : ∃ w2, (w.alloc (.cells #[.int .i64 h.k, .int .i64 h.n, .int .i64 h.a, .slice q h.l.length c, .slice r x.len m] 26)).alloc (.cells #[.int .i64 0, .int .i64 0, .int .i64 0, .slice none 0 0, .slice none 0 0] 26) = w2 := ⟨_, rfl⟩
  have hb2 : Below w.heap.size w w2 := by rw [← hw2]; exact below_step (below_alloc _ _) (below_alloc _ _)
  have hs2 : w2.heap.size = w.heap.size + 2 := by rw [← hw2]; simp
  have p1 : ∀ o v, (#[.int .i64 h.k, .int .i64 h.n, .int .i64 h.a, .slice q h.l.length c, .slice r x.len m] : Array Value)[o]? = some v → U w2 w.heap.size o = some v := fun o v hv => by
    rw [← hw2]; exact U_below (below_alloc _ _) _ _ _ (by simp) (laid_cell hv)
  have p2 : ∀ o v, (#[.int .i64 0, .int .i64 0, .int .i64 0, .slice none 0 0, .slice none 0 0] : Array Value)[o]? = some v → U w2 (w.heap.size + 1) o = some v := fun o v hv => by
    have := laid_cell (w := w.alloc (.cells #[.int .i64 h.k, .int .i64 h.n, .int .i64 h.a, .slice q h.l.length c, .slice r x.len m] 26)) (ty := 26) hv
    rw [World.size_alloc, hw2] at this
    exact this
  have c0 := U_cell (p1 0 _ rfl)
  have c1 := U_cell (p1 1 _ rfl)
  have c2 := U_cell (p1 2 _ rfl)
  have c3 := U_cell (p1 3 _ rfl)
  have c4 := U_cell (p1 4 _ rfl)
  have hcs := Ts.count_le_size x
  have HC := Lib.hid ((refLift_any _ h x _ n f 0 w2 (Nat.lt_succ_self _) (ha.on hb2) hf hxf hs (by omega)).mono fun _ _ h => MakesT.of h)
  have HB2 := Lib.hid hb2
  have HS2 := Lib.hid hs2
  have P2 := Lib.hid p2
  clear hl hx ha hf hxf hs hb2 hs2 p1 p2 hcs
  go_enter Tryz.func63, Tryz.ntmps63
  go_wp2_with fail
  refine HC.out.mono ?_
  rintro e wy ⟨s1, n1, d1, s2, n2, d2, S, rfl, hby, ho, hn⟩
  have hlt : w.heap.size + 1 < w2.heap.size := by have := HS2.out; omega
  have z2 : ∀ o v, (#[.int .i64 0, .int .i64 0, .int .i64 0, .slice none 0 0, .slice none 0 0] : Array Value)[o]? = some v → U wy (w.heap.size + 1) o = some v := fun o v hv => U_below hby _ _ _ hlt (P2.out o v hv)
  have m0 := U_cell (z2 0 _ rfl)
  have m1 := U_cell (z2 1 _ rfl)
  have m2 := U_cell (z2 2 _ rfl)
  have m3 := U_cell (z2 3 _ rfl)
  have m4 := U_cell (z2 4 _ rfl)
  have o0 := U_frozen (z2 0 _ rfl)
  have o1 := U_frozen (z2 1 _ rfl)
  have o2 := U_frozen (z2 2 _ rfl)
  have o3 := U_frozen (z2 3 _ rfl)
  have o4 := U_frozen (z2 4 _ rfl)
  have HBY := Lib.hid (below_step HB2.out hby)
  have HO := Lib.hid ho
  have HN := Lib.hid hn
  have Z2 := Lib.hid z2
  obtain ⟨k1, hk1⟩ : ∃ z, (h.lift n f 0).k = z := ⟨_, rfl⟩
  obtain ⟨k2, hk2⟩ : ∃ z, (h.lift n f 0).n = z := ⟨_, rfl⟩
  obtain ⟨k3, hk3⟩ : ∃ z, (h.lift n f 0).a = z := ⟨_, rfl⟩
  have HK1 := Lib.hid hk1
  have HK2 := Lib.hid hk2
  have HK3 := Lib.hid hk3
  rw [hk1, hk2, hk3] at HO ⊢
  clear hby ho hn z2 c0 c1 c2 c3 c4 hk1 hk2 hk3 hlt hw2
  go_wp2_with fail
  obtain ⟨W, hW⟩ : ∃ W, ((((wy.setCell ⟨w.heap.size + 1, 0, none⟩ (.int .i64 k1)).setCell ⟨w.heap.size + 1, 1, none⟩ (.int .i64 k2)).setCell ⟨w.heap.size + 1, 2, none⟩ (.int .i64 k3)).setCell ⟨w.heap.size + 1, 3, none⟩ (.slice s1 n1 d1)).setCell ⟨w.heap.size + 1, 4, none⟩ (.slice s2 n2 d2) = W := ⟨_, rfl⟩
  obtain ⟨x0, x1, x2, x3, x4, hkW⟩ := five_set (Z2.out 0 _ rfl) (Z2.out 1 _ rfl) (Z2.out 2 _ rfl) (Z2.out 3 _ rfl) (Z2.out 4 _ rfl) hW
  have hBF : Below w.heap.size w W := by
    rw [← hW]
    exact ((((HBY.out.setCell (p := ⟨w.heap.size + 1, 0, none⟩) (Nat.le_succ _) _).setCell (p := ⟨w.heap.size + 1, 1, none⟩) (Nat.le_succ _) _).setCell (p := ⟨w.heap.size + 1, 2, none⟩) (Nat.le_succ _) _).setCell (p := ⟨w.heap.size + 1, 3, none⟩) (Nat.le_succ _) _).setCell (p := ⟨w.heap.size + 1, 4, none⟩) (Nat.le_succ _) _
  rw [hW]
  refine bodyPost_ret (v := .agg #[.int .i64 k1, .int .i64 k2, .int .i64 k3, .slice s1 n1 d1, .slice s2 n2 d2]) (by simp [results, Tryz.results63, go_sem, U_cell x0, U_cell x1, U_cell x2, U_cell x3, U_cell x4]) rfl ⟨s1, n1, d1, s2, n2, d2, S, by rw [HK1.out, HK2.out, HK3.out], hBF, ?_, HN.out⟩
  rw [HK1.out, HK2.out, HK3.out]
  exact (HO.out.lower (by have := HS2.out; omega)).kept fun b hb => hkW b (by have := (HO.out.mem b hb).1; have := HS2.out; omega)
end Go.Proofs.YtkcmapimcgppmaaGreatDoor
end
section
namespace Go.Proofs.YtkcmapimcgppmaaGreatDoor
open Go.RowKit

def zeros : Array Value := #[.int .i64 0, .int .i64 0, .int .i64 0, .slice none 0 0, .slice none 0 0]
/-- A result's five cells, stored. -/
theorem res5 {w wy : World} {b : Nat} {v0 v1 v2 v3 v4 : Value} (hz : ∀ o v, zeros[o]? = some v → U wy b o = some v) (hB : Below w.heap.size w wy) (hb : w.heap.size ≤ b) {W : World}
    (hW : ((((wy.setCell ⟨b, 0, none⟩ v0).setCell ⟨b, 1, none⟩ v1).setCell ⟨b, 2, none⟩ v2).setCell ⟨b, 3, none⟩ v3).setCell ⟨b, 4, none⟩ v4 = W) :
    (W.cell? ⟨b, 0, none⟩ = some v0 ∧ W.cell? ⟨b, 1, none⟩ = some v1 ∧ W.cell? ⟨b, 2, none⟩ = some v2 ∧ W.cell? ⟨b, 3, none⟩ = some v3 ∧ W.cell? ⟨b, 4, none⟩ = some v4) ∧ Below w.heap.size w W ∧ (∀ k, k ≠ b → W.heap[k]? = wy.heap[k]?) := by
  obtain ⟨x0, x1, x2, x3, x4, hk⟩ := five_set (hz 0 _ rfl) (hz 1 _ rfl) (hz 2 _ rfl) (hz 3 _ rfl) (hz 4 _ rfl) hW
  refine ⟨⟨U_cell x0, U_cell x1, U_cell x2, U_cell x3, U_cell x4⟩, ?_, hk⟩
  rw [← hW]
  exact ((((hB.setCell (p := ⟨b, 0, none⟩) hb _).setCell (p := ⟨b, 1, none⟩) hb _).setCell (p := ⟨b, 2, none⟩) hb _).setCell (p := ⟨b, 3, none⟩) hb _).setCell (p := ⟨b, 4, none⟩) hb _
/-- A row that is a whole block, of cells that are owned. -/
theorem Own.block {w : World} {base g sz e n : Nat} {x : Ds} {zs : List Value} {S : List Nat} (h : Own w base x zs S) (hnd : S.Nodup) (hg : w.heap[g]? = some (.cells zs.toArray e (0, 0))) (hb : base ≤ g) (hgS : g ∉ S) (hl : zs.length = n * sz) (hn : n ≤ 1000000) :
    Own w base (.row sz e x .nil .nil) [.slice (some ⟨g, 0, none⟩) n n] ([g] ++ S) ∧ ([g] ++ S).Nodup := by
  have hnd' : ([g] ++ S).Nodup := List.nodup_append.2 ⟨by simp, hnd, fun a ha b hb' e1 => by
    simp at ha
    subst ha
    subst e1
    exact hgS hb'⟩
  refine ⟨⟨_, [], zs, [], [g], S, [], [], rfl, .inr ⟨g, n, n, zs.toArray, rfl, rfl, hb, hg, Nat.le_refl _, by unfold maxLen; omega, by simpa using hl, by rw [← h.len, hl], by rw [List.append_nil, hl, ← h.len, hl]; exact Nat.le_refl _, by rw [List.append_nil, hl]; exact Nat.le_refl _, by simp⟩, h, ⟨rfl, rfl⟩, ⟨rfl, rfl⟩, by simp⟩, hnd'⟩

set_option maxHeartbeats 1000000 in
theorem refOf_any (k : Int) (p : Option Addr) (n c : Nat) (w : World) : Calls Tryz.prog 129 #[.int .i64 k, .slice p n c] w fun e w' => e = .returned (.agg #[.int .i64 k, .int .i64 0, .int .i64 0, .slice none 0 0, .slice p n c]) ∧ Below w.heap.size w w' := by
  go_enter Tryz.func129, Tryz.ntmps129
  go_wp2_with fail
  refine bodyPost_ret (v := .agg #[.int .i64 k, .int .i64 0, .int .i64 0, .slice none 0 0, .slice p n c]) (by simp [results, Tryz.results129, go_sem]) rfl ⟨rfl, below_alloc _ _⟩
set_option maxHeartbeats 1000000 in
theorem refFin_any (n : Int) (w : World) : Calls Tryz.prog 62 #[.int .i64 n] w fun e w' => e = .returned (.agg #[.int .i64 22, .int .i64 n, .int .i64 0, .slice none 0 0, .slice none 0 0]) ∧ Below w.heap.size w w' := by
  go_enter Tryz.func62, Tryz.ntmps62
  go_wp2_with fail
  refine bodyPost_ret (v := .agg #[.int .i64 22, .int .i64 n, .int .i64 0, .slice none 0 0, .slice none 0 0]) (by simp [results, Tryz.results62, go_sem]) rfl ⟨rfl, below_alloc _ _⟩
set_option maxHeartbeats 1000000 in
theorem refElem_any (k n : Int) (w : World) : Calls Tryz.prog 65 #[.int .i64 k, .int .i64 n] w fun e w' => e = .returned (.agg #[.int .i64 23, .int .i64 k, .int .i64 n, .slice none 0 0, .slice none 0 0]) ∧ Below w.heap.size w w' := by
  go_enter Tryz.func65, Tryz.ntmps65
  go_wp2_with fail
  refine bodyPost_ret (v := .agg #[.int .i64 23, .int .i64 k, .int .i64 n, .slice none 0 0, .slice none 0 0]) (by simp [results, Tryz.results65, go_sem]) rfl ⟨rfl, below_alloc _ _⟩

/-- A block laid on the way: it stands. -/
theorem block_of_below {w w' : World} {o : Obj} (hb : Below (w.alloc o).heap.size (w.alloc o) w') : w'.heap[w.heap.size]? = some o := (hb.block _ (by simp)).trans (heap_alloc_new w o)

set_option maxHeartbeats 1000000 in
theorem refTwo_any (k k1 n1 a1 k2 n2 a2 : Int) (q r s p : Option Addr) (n c m d i f j g' : Nat) (w : World) : Calls Tryz.prog 64 #[.int .i64 k, .agg #[.int .i64 k1, .int .i64 n1, .int .i64 a1, .slice q n c, .slice r m d], .agg #[.int .i64 k2, .int .i64 n2, .int .i64 a2, .slice s i f, .slice p j g']] w fun e w' => ∃ g, e = .returned (.agg #[.int .i64 k, .int .i64 0, .int .i64 0, .slice none 0 0, .slice (some ⟨g, 0, none⟩) 2 2]) ∧ Below w.heap.size w w' ∧ w.heap.size ≤ g ∧
    w'.heap[g]? = some (.cells [.int .i64 k1, .int .i64 n1, .int .i64 a1, .slice q n c, .slice r m d, .int .i64 k2, .int .i64 n2, .int .i64 a2, .slice s i f, .slice p j g'].toArray 26 (0, 0)) := by
  go_enter Tryz.func64, Tryz.ntmps64
  go_wp2_with fail
  refine (refOf_any _ _ _ _ _).mono ?_
  rintro e w1 ⟨rfl, hb1⟩
  obtain ⟨wA, hwA⟩ : ∃ wA, (w.alloc (.cells #[.int .i64 k1, .int .i64 n1, .int .i64 a1, .slice q n c, .slice r m d] 26)).alloc (.cells #[.int .i64 k2, .int .i64 n2, .int .i64 a2, .slice s i f, .slice p j g'] 26) = wA := ⟨_, rfl⟩
  have hsA : wA.heap.size = w.heap.size + 2 := by rw [← hwA]; simp
  have hbA : Below w.heap.size w wA := by rw [← hwA]; exact below_step (below_alloc _ _) (below_alloc _ _)
  rw [hwA] at hb1
  have hz0 : ∀ o v, zeros[o]? = some v → U ((wA.alloc (.cells zeros 26)).alloc (.cells #[.int .i64 k1, .int .i64 n1, .int .i64 a1, .slice q n c, .slice r m d, .int .i64 k2, .int .i64 n2, .int .i64 a2, .slice s i f, .slice p j g'] 26)) (w.heap.size + 1 + 1) o = some v := fun o v hv => by
    have := laid_cell (w := wA) (ty := 26) hv
    rw [hsA] at this
    exact U_below (below_alloc _ _) _ _ _ (by first | (simp; done) | (simp; omega)) this
  have HB := Lib.hid (below_step (below_step (below_step hbA (below_alloc _ (.cells zeros 26))) (below_alloc _ (.cells #[.int .i64 k1, .int .i64 n1, .int .i64 a1, .slice q n c, .slice r m d, .int .i64 k2, .int .i64 n2, .int .i64 a2, .slice s i f, .slice p j g'] 26))) hb1)
  have Z : Hid (∀ o v, zeros[o]? = some v → U w1 (w.heap.size + 1 + 1) o = some v) := fun o v hv => U_below hb1 _ _ _ (by first | (simp; done) | (simp; omega)) (hz0 o v hv)
  have G := Lib.hid (block_of_below hb1)
  simp only [World.size_alloc, hsA] at G
  clear hz0 hb1 hwA hbA hsA
  have m0 := U_cell (Z.out 0 _ rfl)
  have m1 := U_cell (Z.out 1 _ rfl)
  have m2 := U_cell (Z.out 2 _ rfl)
  have m3 := U_cell (Z.out 3 _ rfl)
  have m4 := U_cell (Z.out 4 _ rfl)
  have o0 := U_frozen (Z.out 0 _ rfl)
  have o1 := U_frozen (Z.out 1 _ rfl)
  have o2 := U_frozen (Z.out 2 _ rfl)
  have o3 := U_frozen (Z.out 3 _ rfl)
  have o4 := U_frozen (Z.out 4 _ rfl)
  go_wp2_with fail
  obtain ⟨W, hW⟩ : ∃ W, ((((w1.setCell ⟨w.heap.size + 1 + 1, 0, none⟩ (.int .i64 k)).setCell ⟨w.heap.size + 1 + 1, 1, none⟩ (.int .i64 0)).setCell ⟨w.heap.size + 1 + 1, 2, none⟩ (.int .i64 0)).setCell ⟨w.heap.size + 1 + 1, 3, none⟩ (.slice none 0 0)).setCell ⟨w.heap.size + 1 + 1, 4, none⟩ (.slice (some ⟨w.heap.size + 1 + 1 + 1, 0, none⟩) 2 2) = W := ⟨_, rfl⟩
  obtain ⟨⟨x0, x1, x2, x3, x4⟩, hBF, hkW⟩ := res5 Z.out HB.out (by omega) hW
  rw [hW]
  refine bodyPost_ret (v := .agg #[.int .i64 k, .int .i64 0, .int .i64 0, .slice none 0 0, .slice (some ⟨w.heap.size + 1 + 1 + 1, 0, none⟩) 2 2]) (by simp [results, Tryz.results64, go_sem, x0, x1, x2, x3, x4]) rfl ⟨_, rfl, hBF, by omega, (hkW _ (by omega)).trans G.out⟩
end Go.Proofs.YtkcmapimcgppmaaGreatDoor
end
section
namespace Go.Proofs.YtkcmapimcgppmaaGreatDoor
open Go.RowKit

/-- A row of levels, the first k of them owned, the others' parts where they lay in w. -/
def MixL (l : List Lv) (w : World) (B : Nat) (v : Value) (k : Nat) (wr : World) : Prop :=
  ∃ ys zs S, wr.ownsRow B 43 1 v l.length (ys ++ zs) ∧ ys.length = k ∧ Own wr B (lvDs ty (l.take k)) ys S ∧ Vs (U w) w.heap.size (lvDs ty (l.drop k)) zs ∧ (v.ownBlock.toList ++ S).Nodup
theorem MixL.below {l : List Lv} {w wr wr' : World} {B k : Nat} {v : Value} (h : MixL l w B v k wr) (hb : Below wr.heap.size wr wr') : MixL l w B v k wr' := by
  obtain ⟨ys, zs, S, h1, h2, h3, h4, h5⟩ := h
  exact ⟨ys, zs, S, ownsRow_below h1 hb, h2, h3.below hb, h4, h5⟩
theorem MixL.start {l : List Lv} {w w' : World} {B : Nat} {v : Value} {xs : List Value} (h1 : w'.ownsRow B 43 1 v l.length xs) (h2 : Vs (U w) w.heap.size (lvDs ty l) xs) : MixL l w B v 0 w' :=
  ⟨[], xs, [], h1, rfl, ⟨rfl, rfl⟩, h2, by cases v.ownBlock <;> simp⟩
theorem MixL.slice {l : List Lv} {w wr : World} {B k : Nat} {v : Value} (h : MixL l w B v k wr) : ∃ p c, v = .slice p l.length c ∧ l.length ≤ c ∧ c ≤ maxLen := by
  obtain ⟨ys, zs, S, h1, h2, h3, h4, h5⟩ := h
  rcases h1.2 with ⟨rfl, h6⟩ | ⟨g, cap, cur, rfl, h6, h7, h8, h9, h10, h11⟩
  · rw [h6]; exact ⟨none, 0, rfl, Nat.le_refl _, Nat.zero_le _⟩
  · exact ⟨_, cap, rfl, h8, h9⟩
theorem MixL.read {l : List Lv} {w wr : World} {B k : Nat} {p : Option Addr} {c : Nat} (h : MixL l w B (.slice p l.length c) k wr) (hk : k < l.length) :
    ∃ g q n d, p = some ⟨g, 0, none⟩ ∧ B ≤ g ∧ U wr g k = some (.slice q n d) ∧ RP w (.slice q n d) l[k] := by
  obtain ⟨ys, zs, S, h1, h2, h3, h4, h5⟩ := h
  rw [List.drop_eq_getElem_cons hk] at h4
  obtain ⟨u, zs', rfl, h6, h7⟩ := h4
  obtain ⟨q, n, d, rfl, -, -, -, -⟩ := h6.slice
  rcases h1.2 with ⟨h8, h9⟩ | ⟨g, cap, cur, h8, h9, h10, h11, h12, h13, h14⟩
  · omega
  · cases h8
    refine ⟨g, q, n, d, rfl, h9, ?_, h6⟩
    have hl := h1.1
    have := row_cell (xs := ys ++ Value.slice q n d :: zs') h10 (by rw [hl]; exact h14) k (.slice q n d) (by rw [List.getElem?_append_right (by omega)]; simp [h2])
    rw [Nat.zero_add] at this
    exact this
theorem lvDs_take_row {l : List Lv} {k : Nat} (h : k < l.length) : lvDs ty (l.take (k + 1)) = (lvDs ty (l.take k)).app (.row 2 77 (ptDs l[k]) .nil .nil) := by
  rw [List.take_succ_eq_append_getElem h, lvDs_app]; rfl
theorem MixL.step {l : List Lv} {w wr wr' : World} {B k g c : Nat} {v2 : Value} {S2 : List Nat} (h : MixL l w B (.slice (some ⟨g, 0, none⟩) l.length c) k wr) (hk : k < l.length) (hBw : B ≤ wr.heap.size) (hb : Below wr.heap.size wr wr')
    (ho : Own wr' wr.heap.size (.row 2 77 (ptDs l[k]) .nil .nil) [v2] S2) (hn : S2.Nodup) : MixL l w B (.slice (some ⟨g, 0, none⟩) l.length c) (k + 1) (wr'.setCell ⟨g, k, none⟩ v2) := by
  obtain ⟨ys, zs, S, h1, h2, h3, h4, h5⟩ := h
  rw [List.drop_eq_getElem_cons hk] at h4
  obtain ⟨u, zs', rfl, h6, h7⟩ := h4
  have hg : g < wr.heap.size := (h1.lt g (by simp [Value.ownBlock])).2
  have hgS : g ∉ S := by
    have := (List.nodup_append.1 h5).2.2 g (by simp [Value.ownBlock])
    exact fun hm => this g hm rfl
  have hge : ∀ b ∈ S2, wr.heap.size ≤ b := fun b hm => (ho.mem b hm).1
  have hlt : ∀ b ∈ S, b < wr.heap.size := fun b hm => (h3.mem b hm).2
  have hgS2 : g ∉ S ++ S2 := fun hm => by
    rcases List.mem_append.1 hm with hm | hm
    · exact hgS hm
    · have := hge g hm; omega
  refine ⟨ys ++ [v2], zs', S ++ S2, ?_, by simp [h2], ?_, h7, ?_⟩
  · have := ownsRow_set (ownsRow_below h1 hb) (k := k) v2
    rw [List.set_append_right _ _ (by omega), h2, Nat.sub_self, List.set_cons_zero] at this
    rw [List.append_assoc]
    exact this
  · rw [lvDs_take_row hk]
    exact Own.setCell (Own.app (ho.lower hBw) (h3.below hb)) (p := ⟨g, k, none⟩) hgS2 v2
  · refine List.nodup_append.2 ⟨by simp [Value.ownBlock], nodup_two wr.heap.size (List.nodup_append.1 h5).2.1 hn hlt hge, fun a ha b hb' e1 => ?_⟩
    simp [Value.ownBlock] at ha
    subst ha
    subst e1
    exact hgS2 hb'
theorem MixL.done {l : List Lv} {w wr : World} {B : Nat} {v : Value} (h : MixL l w B v l.length wr) : ∃ S, Own wr B (.row 1 43 (lvDs ty l) .nil .nil) [v] S ∧ S.Nodup := by
  obtain ⟨ys, zs, S, h1, h2, h3, h4, h5⟩ := h
  rw [List.drop_length] at h4
  obtain rfl : zs = [] := h4
  rw [List.take_length] at h3
  rw [List.append_nil] at h1
  exact ⟨_, RowG.own ⟨ys, h1, h3, h5⟩, h5⟩

set_option maxRecDepth 100000 in
set_option maxHeartbeats 2000000 in
theorem own_any (k n a : Int) (l : List Lv) (q r : Option Addr) (nl c m d : Nat) (w : World) (hl : RL ty w (.slice q nl c) l) (hs : lvSize l ≤ 2000000) :
    Calls Tryz.prog 125 #[.agg #[.int .i64 k, .int .i64 n, .int .i64 a, .slice q nl c, .slice r m d]] w fun e w' => ∃ q' n' c' S, e = .returned (.agg #[.int .i64 k, .int .i64 n, .int .i64 a, .slice q' n' c', .slice r m d]) ∧ Below w.heap.size w w' ∧ Own w' w.heap.size (.row 1 43 (lvDs ty l) .nil .nil) [.slice q' n' c'] S ∧ S.Nodup := by
  have hlen : l.length ≤ 2000000 := by
    have : l.length ≤ lvSize l := by
      clear hs hl
      induction l with
      | nil => simp
      | cons a r ih => simp only [List.length_cons, lvSize]; omega
    omega
  obtain ⟨w2, hw2⟩ : ∃ w2, (w.alloc (.cells #[.int .i64 k, .int .i64 n, .int .i64 a, .slice q nl c, .slice r m d] 26)).alloc (.cells zeros 26) = w2 := ⟨_, rfl⟩
  have hb2 : Below w.heap.size w w2 := by rw [← hw2]; exact below_step (below_alloc _ _) (below_alloc _ _)
  have hs2 : w2.heap.size = w.heap.size + 2 := by rw [← hw2]; simp
  have p1 : ∀ o v, (#[.int .i64 k, .int .i64 n, .int .i64 a, .slice q nl c, .slice r m d] : Array Value)[o]? = some v → U w2 w.heap.size o = some v := fun o v hv => by
    rw [← hw2]; exact U_below (below_alloc _ _) _ _ _ (by simp) (laid_cell hv)
  have p2 : ∀ o v, zeros[o]? = some v → U w2 (w.heap.size + 1) o = some v := fun o v hv => by
    have := laid_cell (w := w.alloc (.cells #[.int .i64 k, .int .i64 n, .int .i64 a, .slice q nl c, .slice r m d] 26)) (ty := 26) hv
    rw [World.size_alloc, hw2] at this
    exact this
  have c3 := U_cell (p1 3 _ rfl)
  have HC := Lib.hid (cloneLevels_any l _ w w2 hl hb2 hlen)
  have HL := Lib.hid hl
  have HB2 := Lib.hid hb2
  have HS2 := Lib.hid hs2
  have P1 := Lib.hid p1
  have P2 := Lib.hid p2
  have HSZ := Lib.hid hs
  unfold zeros at hw2
  clear hl hb2 hs2 p1 p2 hs
  go_enter Tryz.func125, Tryz.ntmps125
  go_wp2_with fail
  refine HC.out.mono ?_
  rintro e w3 ⟨v, xs, rfl, hb3, ho3, hv3⟩
  have hlt : w.heap.size + 1 < w2.heap.size := by have := HS2.out; omega
  have P13 : Hid (∀ o v, (#[.int .i64 k, .int .i64 n, .int .i64 a, .slice q nl c, .slice r m d] : Array Value)[o]? = some v → U w3 w.heap.size o = some v) := fun o v hv => U_below hb3 _ _ _ (by omega) (P1.out o v hv)
  have P23 : Hid (∀ o v, zeros[o]? = some v → U w3 (w.heap.size + 1) o = some v) := fun o v hv => U_below hb3 _ _ _ hlt (P2.out o v hv)
  have hX := MixL.start ho3 hv3
  obtain ⟨p', c', rfl, hc1, hc2⟩ := hX.slice
  unfold maxLen at hc2
  have HX := Lib.hid hX
  have HB3 := Lib.hid hb3
  have f3 := U_frozen (P13.out 3 _ rfl)
  have g3 := U_cell (P13.out 3 _ rfl)
  obtain ⟨w4, hw4⟩ : ∃ w4, w3.setCell ⟨w.heap.size, 3, none⟩ (.slice p' l.length c') = w4 := ⟨_, rfl⟩
  have P14 : Hid (∀ o v, (#[.int .i64 k, .int .i64 n, .int .i64 a, .slice p' l.length c', .slice r m d] : Array Value)[o]? = some v → U w4 w.heap.size o = some v) := fun o v hv => by
    rw [← hw4]
    by_cases h3 : o = 3
    · subst h3
      have hv' : Value.slice p' l.length c' = v := by simpa using hv
      subst hv'
      exact U_set_same (P13.out 3 _ rfl)
    · refine U_set_other (P13.out o v ?_) (fun e => by injection e with _ e _; omega)
      have : o < 5 := by have := (Array.getElem?_eq_some_iff.1 hv).1; simpa using this
      have hall : o = 0 ∨ o = 1 ∨ o = 2 ∨ o = 4 := by omega
      rcases hall with rfl | rfl | rfl | rfl <;> exact hv
  have P24 : Hid (∀ o v, zeros[o]? = some v → U w4 (w.heap.size + 1) o = some v) := fun o v hv => by
    rw [← hw4]
    exact U_set_other (P23.out o v hv) (fun e => by injection e with e _; omega)
  have hX4 : MixL l w w2.heap.size (.slice p' l.length c') 0 w4 := by
    obtain ⟨ys, zs, S, h1, h2, h3, h4, h5⟩ := hX
    rw [← hw4]
    refine ⟨ys, zs, S, ?_, h2, h3.setCell (p := ⟨w.heap.size, 3, none⟩) (h3.notMem (by show w.heap.size < w2.heap.size; omega)) _, h4, h5⟩
    rcases h1.2 with h6 | ⟨g, cap, cur, e1, h6, h7, h8⟩
    · exact ⟨h1.1, .inl h6⟩
    · have hne : g ≠ w.heap.size := by omega
      exact ⟨h1.1, .inr ⟨g, cap, cur, e1, h6, (Below.heap_setCell _ _ _ _ hne).trans h7, h8⟩⟩
  have HX4 := Lib.hid hX4
  have HS4 : Hid (w.heap.size + 2 ≤ w4.heap.size) := Lib.hid (by rw [← hw4, World.size_setCell]; have := hb3.size; omega)
  have HB4 : Hid (Below w.heap.size w w4) := Lib.hid (by rw [← hw4]; exact (below_step HB2.out hb3).setCell (p := ⟨w.heap.size, 3, none⟩) (Nat.le_refl _) _)
  clear hb3 ho3 hv3 hX HC P13 P23 HX hX4 hlt HB3 P1 P2 c3
  have d3 := U_cell (P14.out 3 _ rfl)
  go_wp2_with fail
  clear d3 hw4 f3 g3
  go_loopw [11] (fun i wr => ∃ k : Nat, k ≤ l.length ∧ i = .int .i64 k ∧ Below (w.heap.size + 2) w4 wr ∧ MixL l w w2.heap.size (.slice p' l.length c') k wr) (fun i _ => l.length - (intOf i).toNat)
  case atStart => exact ⟨0, Nat.zero_le _, rfl, Below.refl _ _, HX4.out⟩
  case round =>
    obtain ⟨j, hj, rfl, hB1, hX1⟩ := hrel
    have HB1 := Lib.hid hB1
    have HX1 := Lib.hid hX1
    have HSW := Lib.hid (hB1.size)
    clear hB1 hX1
    by_cases hjl : j < l.length
    · have r1 : decide ((j : Int) < (l.length : Int)) = true := decide_eq_true (by omega)
      have i1 : (j : Int) < (l.length : Int) := by omega
      obtain ⟨g, q1, n1, d1, rfl, hg, hu, hRP⟩ := HX1.out.read hjl
      have hS4 : w.heap.size + 2 ≤ w4.heap.size := HS4.out
      have gr : ∀ {o : Nat} {v : Value}, U w4 w.heap.size o = some v → ∀ n : GrownB (w.heap.size + 2) wr, n.it.cell? ⟨w.heap.size, o, none⟩ = some v := fun h => GrownB.cell (U_below HB1.out _ _ _ (by omega) h) (by omega)
      have e3 := gr (P14.out 3 _ rfl)
      have hg2 : w.heap.size + 2 ≤ g := by have := HS2.out; omega
      have HLL := Lib.hid (Nat.le_trans hS4 HSW.out)
      have HU := Lib.hid hu
      have HRP := Lib.hid hRP
      have hsz := lvSize_at hjl
      have HLS : Hid (l[j].length ≤ 2000000) := Lib.hid (by have := HSZ.out; omega)
      obtain ⟨L, hL⟩ : ∃ L, l.length = L := ⟨_, rfl⟩
      have HEQ := Lib.hid hL
      rw [hL] at e3 r1 i1 hc1 ⊢
      have q4 := U_cell (U_below HB1.out _ _ _ (by omega) (P14.out 3 _ rfl))
      rw [hL] at q4
      clear gr hu hRP hL hsz
      go_wp2_with fail
      refine wp_region_take_I (w.heap.size + 2) [0, 1, 2, 3, 4, 5, 6, 7] (by decide) (by kernel_rfl) (by kernel_rfl) (by kernel_rfl) (by kernel_rfl) (fun _ _ d _ _ h => by cases d <;> exact h) ?_
      simp only [List.map_cons, List.map_nil, List.getD_cons_zero, List.getD_cons_succ, bar, readKind, List.size_toArray, List.length_cons, List.length_nil, Nat.zero_add, Nat.reduceAdd, if_true, if_false, Bool.false_eq_true]
      repeat (go_big_quiet_step (fail))
      refine wpQuiet_nil ?_
      clear e3
      have hu0 := U_cell HU.out
      refine tail_step (i := 8) (fuel := 4) (by kernel_rfl) rfl (by rfl) (fun K' hK => ?_)
      go_simp
      refine hK.out _ _ ⟨⟨wr.drew, (below_drew wr).mono HLL.out⟩, rfl⟩ (fun _ => ?_)
      clear hK K' hu0
      refine tail_step (i := 9) (fuel := 3) (by kernel_rfl) rfl (by rfl) (fun K' hK => ?_)
      go_simp
      refine (cloneParts_any l[j] _ wr.drew (HRP.out.on (below_step (HB4.out.trans (HB1.out.mono (by omega))) (below_drew wr))) HLS.out).mono ?_
      rintro e w5 ⟨v2, S2, rfl, hb5, ho5, hn5⟩
      obtain ⟨r5, n5, d5, rfl, -⟩ := ho5.slice
      refine hK.out _ _ ⟨⟨w5, (below_step (below_drew wr) hb5).mono HLL.out⟩, rfl⟩ (fun _ => ?_)
      clear hK K'
      have hB5 : Below wr.heap.size wr w5 := below_step (below_drew wr) hb5
      have hst := HX1.out.step hjl (by have := HLL.out; have := HS2.out; omega) hB5 ho5 hn5
      have HST := Lib.hid hst
      have u5 := U_below hB5 _ _ _ (U_lt HU.out) HU.out
      have hu5 := U_cell u5
      have hf5 := U_frozen u5
      have HB5 := Lib.hid hB5
      clear hb5 ho5 hn5 hst u5 hB5
      refine tail_step (i := 10) (fuel := 2) (by kernel_rfl) rfl (by rfl) (fun K' hK => ?_)
      go_simp
      refine hK.out _ _ ⟨⟨w5, HB5.out.mono HLL.out⟩, rfl⟩ (fun _ => ?_)
      clear hK K'
      refine tail_step (i := 11) (fuel := 1) (by kernel_rfl) rfl (by rfl) (fun K' hK => ?_)
      go_simp
      refine hK.out _ _ ⟨⟨w5, HB5.out.mono HLL.out⟩, rfl⟩ (fun _ => ?_)
      clear hK K'
      refine tail_step (i := 12) (fuel := 0) (by kernel_rfl) rfl (by rfl) (fun K' hK => ?_)
      go_simp
      have hB6 : Below (w.heap.size + 2) wr (w5.setCell ⟨g, j, none⟩ (.slice r5 n5 d5)) := (HB5.out.mono HLL.out).setCell (p := ⟨g, j, none⟩) hg2 _
      refine hK.out _ _ ⟨⟨_, hB6⟩, rfl⟩ (fun _ => ?_)
      clear hK K'
      refine wpAnyH_done (by kernel_rfl) ?_ _
      have HB6 := Lib.hid (HB1.out.trans hB6)
      rw [HEQ.out] at HST
      obtain ⟨w6, hw6⟩ : ∃ w6, w5.setCell ⟨g, j, none⟩ (.slice r5 n5 d5) = w6 := ⟨_, rfl⟩
      rw [hw6] at HB6 HST ⊢
      clear hB6 hu5 hf5 hw6
      go_wp2_with fail
      go_roundw
      case rel => exact ⟨j + 1, by omega, by go_num, HB6.out, HST.out⟩
      case measure => simp [intOf]; omega
    · obtain rfl : j = l.length := by omega
      have r1 : decide ((l.length : Int) < (l.length : Int)) = false := decide_eq_false (by omega)
      have hS4 : w.heap.size + 2 ≤ w4.heap.size := HS4.out
      have P15 : Hid (∀ o v, (#[.int .i64 k, .int .i64 n, .int .i64 a, .slice p' l.length c', .slice r m d] : Array Value)[o]? = some v → U wr w.heap.size o = some v) := fun o v hv => U_below HB1.out _ _ _ (by omega) (P14.out o v hv)
      have P25 : Hid (∀ o v, zeros[o]? = some v → U wr (w.heap.size + 1) o = some v) := fun o v hv => U_below HB1.out _ _ _ (by omega) (P24.out o v hv)
      obtain ⟨S, ho, hn⟩ := HX1.out.done
      have HO := Lib.hid ho
      have HN := Lib.hid hn
      have HBR := Lib.hid (HB4.out.trans (HB1.out.mono (by omega)))
      obtain ⟨L, hL⟩ : ∃ L, l.length = L := ⟨_, rfl⟩
      have x0 := U_cell (P15.out 0 _ rfl)
      have x1 := U_cell (P15.out 1 _ rfl)
      have x2 := U_cell (P15.out 2 _ rfl)
      have x3 := U_cell (P15.out 3 _ rfl)
      have x4 := U_cell (P15.out 4 _ rfl)
      have m0 := U_cell (P25.out 0 _ rfl)
      have m1 := U_cell (P25.out 1 _ rfl)
      have m2 := U_cell (P25.out 2 _ rfl)
      have m3 := U_cell (P25.out 3 _ rfl)
      have m4 := U_cell (P25.out 4 _ rfl)
      have o0 := U_frozen (P25.out 0 _ rfl)
      have o1 := U_frozen (P25.out 1 _ rfl)
      have o2 := U_frozen (P25.out 2 _ rfl)
      have o3 := U_frozen (P25.out 3 _ rfl)
      have o4 := U_frozen (P25.out 4 _ rfl)
      rw [hL] at x3 r1 HO hc1 ⊢
      clear ho hn hL P15 P14
      go_wp2_with fail
      obtain ⟨W, hW⟩ : ∃ W, ((((wr.setCell ⟨w.heap.size + 1, 0, none⟩ (.int .i64 k)).setCell ⟨w.heap.size + 1, 1, none⟩ (.int .i64 n)).setCell ⟨w.heap.size + 1, 2, none⟩ (.int .i64 a)).setCell ⟨w.heap.size + 1, 3, none⟩ (.slice p' L c')).setCell ⟨w.heap.size + 1, 4, none⟩ (.slice r m d) = W := ⟨_, rfl⟩
      obtain ⟨⟨y0, y1, y2, y3, y4⟩, hBF, hkW⟩ := res5 P25.out HBR.out (by omega) hW
      rw [hW]
      refine bodyPost_ret (v := .agg #[.int .i64 k, .int .i64 n, .int .i64 a, .slice p' L c', .slice r m d]) (by simp [results, Tryz.results125, go_sem, y0, y1, y2, y3, y4]) rfl ⟨_, _, _, S, rfl, hBF, ?_, HN.out⟩
      exact (HO.out.lower (by have := HS2.out; omega)).kept fun b hb => hkW b (by have := (HO.out.mem b hb).1; have := HS2.out; omega)
end Go.Proofs.YtkcmapimcgppmaaGreatDoor
end
section
namespace Go.Proofs.YtkcmapimcgppmaaGreatDoor
open Go.RowKit

set_option maxRecDepth 100000 in
set_option maxHeartbeats 1000000 in
theorem means_any (d num : Int) (w : World) : Calls Tryz.prog 124 #[.agg #[.int .i64 d], .int .i64 num] w fun e w' => e = .returned (.tuple #[.int .i64 (wrap64 (num - d)), .bool (decide (d ≤ num))]) ∧ Below w.heap.size w w' := by
  obtain ⟨w2, hw2⟩ : ∃ w2, w.alloc (.cells #[.int .i64 d] 163) = w2 := ⟨_, rfl⟩
  have hb2 : Below w.heap.size w w2 := by rw [← hw2]; exact below_alloc _ _
  have hc : U w2 w.heap.size 0 = some (.int .i64 d) := by rw [← hw2]; exact laid_cell rfl
  have HB := Lib.hid hb2
  have gr : ∀ n : Grown w2, n.it.cell? ⟨w.heap.size, 0, none⟩ = some (.int .i64 d) := Grown.cell hc
  have hs2 : w.heap.size ≤ w2.heap.size := hb2.size
  have HS := Lib.hid hs2
  clear hb2 hc hs2
  go_enter Tryz.func124, Tryz.ntmps124
  go_wp2_with fail
  refine wp_region_calm (by kernel_rfl) (by kernel_rfl) ?_
  repeat (go_big_quiet_step (fail))
  refine wpQuiet_nil ?_
  rintro _ ⟨n, rfl⟩
  go_wp2_with fail
  exact bodyPost_ret (v := .tuple #[.int .i64 (wrap64 (num - d)), .bool (decide (d ≤ num))]) (by simp [results, Tryz.results124, go_sem]) rfl ⟨rfl, below_step HB.out n.below⟩

set_option maxRecDepth 100000 in
set_option maxHeartbeats 1000000 in
theorem below_any (d : Nat) (fn : Fn) (fi cp : Array Value) (k : Int) (i : Nat) (w : World) (hw : KA w) (hd : d ≤ 4000000000) : Calls Tryz.prog 203 #[.agg #[.int .i64 d, .func fn fi cp], .int .i64 k, .int .i64 i] w fun e w' => e = .returned (.agg #[.int .i64 (deeper k i d), .func fn fi cp]) ∧ Below w.heap.size w w' := by
  obtain ⟨w2, hw2⟩ : ∃ w2, (w.alloc (.cells #[.int .i64 d, .func fn fi cp] 166)).alloc (.cells #[.int .i64 0, .nilFunc] 166) = w2 := ⟨_, rfl⟩
  have hb2 : Below w.heap.size w w2 := by rw [← hw2]; exact below_step (below_alloc _ _) (below_alloc _ _)
  have c0 : U w2 w.heap.size 0 = some (.int .i64 d) := by rw [← hw2]; exact U_below (below_alloc _ _) _ _ _ (by simp) (laid_cell rfl)
  have c1 : U w2 w.heap.size 1 = some (.func fn fi cp) := by rw [← hw2]; exact U_below (below_alloc _ _) _ _ _ (by simp) (laid_cell rfl)
  have z : ∀ o v, (#[.int .i64 0, .nilFunc] : Array Value)[o]? = some v → U w2 (w.heap.size + 1) o = some v := fun o v hv => by
    have := laid_cell (w := w.alloc (.cells #[.int .i64 d, .func fn fi cp] 166)) (ty := 166) hv
    rw [World.size_alloc, hw2] at this
    exact this
  have hk2 := binds_any k i w2 (hw.on hb2 hw.1)
  have HK := Lib.hid hk2
  have HB := Lib.hid hb2
  have Z := Lib.hid z
  have m0 := U_cell c0
  have m1 := U_cell c1
  have m2 := U_frozen c0
  have z0 := U_cell (z 0 _ rfl)
  have z1 := U_cell (z 1 _ rfl)
  have z2 := U_frozen (z 0 _ rfl)
  have z3 := U_frozen (z 1 _ rfl)
  obtain ⟨b, hb⟩ : ∃ b, binds k i = b := ⟨_, rfl⟩
  have HE : Hid (deeper k i d = if b then d + 1 else d) := Lib.hid (by unfold deeper; rw [hb])
  rw [hb] at HK
  have hn : (⟨w.heap.size, 0, none⟩ : Addr) ≠ ⟨w.heap.size + 1, 0, none⟩ := by intro e; injection e with e _; omega
  have hn1 : (⟨w.heap.size, 0, none⟩ : Addr) ≠ ⟨w.heap.size + 1, 1, none⟩ := by intro e; injection e with e _; omega
  have hn2 : (⟨w.heap.size, 0, none⟩ : Addr) ≠ ⟨w.heap.size, 1, none⟩ := by intro e; injection e with _ e _; omega
  have HW := Lib.hid hw2
  have hn3 : (⟨w.heap.size + 1, 0, none⟩ : Addr) ≠ ⟨w.heap.size + 1, 1, none⟩ := by intro e; injection e with _ e _; omega
  have z4 : w2.cell? ⟨w.heap.size + 1, 1, none⟩ = some .nilFunc := z1
  have hst : ∀ (W : World) (p : Addr) (m : Mode), (store p (.func fn fi cp) m).run Tryz.prog W = stored Tryz.prog W p (.func fn fi cp) m := fun W p m => run_store _ W p _ m rfl
  clear hw hk2 hb2 z hb z1
  rw [HE.out]
  cases b
  · go_enter Tryz.func203, Tryz.ntmps203
    go_wp2_with fail
    refine HK.out.mono ?_
    rintro e w2 ⟨rfl, rfl⟩
    go_wp2_with fail
    have y0 : ((w2.setCell ⟨w.heap.size + 1, 0, none⟩ (.int .i64 d)).setCell ⟨w.heap.size + 1, 1, none⟩ (.func fn fi cp)).cell? ⟨w.heap.size + 1, 0, none⟩ = some (.int .i64 d) := by
      rw [World.cell?_setCell_other _ _ _ _ hn3.symm]; exact World.cell?_setCell_same' _ _ _ (by rw [z0]; rfl)
    have y1 : ((w2.setCell ⟨w.heap.size + 1, 0, none⟩ (.int .i64 d)).setCell ⟨w.heap.size + 1, 1, none⟩ (.func fn fi cp)).cell? ⟨w.heap.size + 1, 1, none⟩ = some (.func fn fi cp) :=
      World.cell?_setCell_same' _ _ _ (by rw [World.cell?_setCell_other _ _ _ _ hn3, z4]; rfl)
    exact bodyPost_ret (v := .agg #[.int .i64 d, .func fn fi cp]) (by simp [results, Tryz.results203, go_sem, y0, y1]) rfl ⟨rfl, (HB.out.setCell (p := ⟨w.heap.size + 1, 0, none⟩) (Nat.le_succ _) _).setCell (p := ⟨w.heap.size + 1, 1, none⟩) (Nat.le_succ _) _⟩
  · go_enter Tryz.func203, Tryz.ntmps203
    go_wp2_with fail
    refine HK.out.mono ?_
    rintro e w2 ⟨rfl, rfl⟩
    go_wp2_with fail
    have y0 : (((w2.setCell ⟨w.heap.size, 0, none⟩ (.int .i64 ((d : Int) + 1))).setCell ⟨w.heap.size + 1, 0, none⟩ (.int .i64 ((d : Int) + 1))).setCell ⟨w.heap.size + 1, 1, none⟩ (.func fn fi cp)).cell? ⟨w.heap.size + 1, 0, none⟩ = some (.int .i64 ((d : Int) + 1)) := by
      rw [World.cell?_setCell_other _ _ _ _ hn3.symm]; exact World.cell?_setCell_same' _ _ _ (by rw [World.cell?_setCell_other _ _ _ _ hn, z0]; rfl)
    have y1 : (((w2.setCell ⟨w.heap.size, 0, none⟩ (.int .i64 ((d : Int) + 1))).setCell ⟨w.heap.size + 1, 0, none⟩ (.int .i64 ((d : Int) + 1))).setCell ⟨w.heap.size + 1, 1, none⟩ (.func fn fi cp)).cell? ⟨w.heap.size + 1, 1, none⟩ = some (.func fn fi cp) :=
      World.cell?_setCell_same' _ _ _ (by rw [World.cell?_setCell_other _ _ _ _ hn3, World.cell?_setCell_other _ _ _ _ hn1, z4]; rfl)
    exact bodyPost_ret (v := .agg #[.int .i64 ((d : Int) + 1), .func fn fi cp]) (by simp [results, Tryz.results203, go_sem, y0, y1]) rfl ⟨by simp, ((HB.out.setCell (p := ⟨w.heap.size, 0, none⟩) (Nat.le_refl _) _).setCell (p := ⟨w.heap.size + 1, 0, none⟩) (Nat.le_succ _) _).setCell (p := ⟨w.heap.size + 1, 1, none⟩) (Nat.le_succ _) _⟩
end Go.Proofs.YtkcmapimcgppmaaGreatDoor
end
section
namespace Go.Proofs.YtkcmapimcgppmaaGreatDoor
open Go.RowKit

set_option maxRecDepth 100000 in
set_option maxHeartbeats 2000000 in
theorem turn_any (h : Hd) (q r : Option Addr) (nl c m e : Nat) (n f : Int) (d : Nat) (fn : Fn) (fi cp : Array Value) (bf bn : Nat) (w : World)
    (hl : RL ty w (.slice q nl c) h.l) (hs : lvSize h.l ≤ 2000000) (hf : h.fits) (hd : d ≤ 4000000000) (cf : U w bf 0 = some (.int .i64 f)) (cn : U w bn 0 = some (.int .i64 n)) :
    Calls Tryz.prog 123 #[.agg #[.int .i64 d, .func fn fi cp], .agg #[.int .i64 h.k, .int .i64 h.n, .int .i64 h.a, .slice q nl c, .slice r m e], .pointer (some ⟨bf, 0, none⟩), .pointer (some ⟨bn, 0, none⟩)] w fun en w' => ∃ q' n' c' S, en = .returned (.tuple #[.agg #[.int .i64 (h.lift n f d).k, .int .i64 (h.lift n f d).n, .int .i64 (h.lift n f d).a, .slice q' n' c', .slice r m e], .bool false]) ∧ Below w.heap.size w w' ∧ Own w' w.heap.size (.row 1 43 (lvDs ty (h.lift n f d).l) .nil .nil) [.slice q' n' c'] S ∧ S.Nodup := by
  obtain ⟨w2, hw2⟩ : ∃ w2, ((w.alloc (.cells #[.int .i64 d, .func fn fi cp] 166)).alloc (.cells #[.int .i64 h.k, .int .i64 h.n, .int .i64 h.a, .slice q nl c, .slice r m e] 26)).alloc (.cells zeros 26) = w2 := ⟨_, rfl⟩
  have hb2 : Below w.heap.size w w2 := by rw [← hw2]; exact below_step (below_step (below_alloc _ _) (below_alloc _ _)) (below_alloc _ _)
  have hs2 : w2.heap.size = w.heap.size + 3 := by rw [← hw2]; simp
  have p0 : U w2 w.heap.size 0 = some (.int .i64 d) := by rw [← hw2]; exact U_below (below_alloc _ _) _ _ _ (by first | (simp; done) | (simp; omega)) (U_below (below_alloc _ _) _ _ _ (by simp) (laid_cell rfl))
  have p1 : ∀ o v, (#[.int .i64 h.k, .int .i64 h.n, .int .i64 h.a, .slice q nl c, .slice r m e] : Array Value)[o]? = some v → U w2 (w.heap.size + 1) o = some v := fun o v hv => by
    have := laid_cell (w := w.alloc (.cells #[.int .i64 d, .func fn fi cp] 166)) (ty := 26) hv
    rw [World.size_alloc] at this
    rw [← hw2]; exact U_below (below_alloc _ _) _ _ _ (by simp) this
  have p2 : ∀ o v, zeros[o]? = some v → U w2 (w.heap.size + 1 + 1) o = some v := fun o v hv => by
    have := laid_cell (w := (w.alloc (.cells #[.int .i64 d, .func fn fi cp] 166)).alloc (.cells #[.int .i64 h.k, .int .i64 h.n, .int .i64 h.a, .slice q nl c, .slice r m e] 26)) (ty := 26) hv
    rw [World.size_alloc, World.size_alloc, hw2] at this
    exact this
  have HB2 := Lib.hid hb2
  have HS2 := Lib.hid hs2
  have P1 := Lib.hid p1
  have P2 := Lib.hid p2
  have HL := Lib.hid hl
  have HSZ := Lib.hid hs
  have CF := Lib.hid cf
  have CN := Lib.hid cn
  have m0 := U_cell p0
  have m1 := U_cell (p1 1 _ rfl)
  unfold zeros at hw2
  have hfn := hf.2.1
  clear hb2 hs2 p0 p1 p2 hl hs cf cn hf
  go_enter Tryz.func123, Tryz.ntmps123
  go_wp2_with fail
  refine (means_any d h.n w2).mono ?_
  rintro en w3 ⟨rfl, hb3⟩
  have HB3 := Lib.hid (below_step HB2.out hb3)
  have P13 : Hid (∀ o v, (#[.int .i64 h.k, .int .i64 h.n, .int .i64 h.a, .slice q nl c, .slice r m e] : Array Value)[o]? = some v → U w3 (w.heap.size + 1) o = some v) := fun o v hv => U_below hb3 _ _ _ (by have := HS2.out; omega) (P1.out o v hv)
  have P23 : Hid (∀ o v, zeros[o]? = some v → U w3 (w.heap.size + 1 + 1) o = some v) := fun o v hv => U_below hb3 _ _ _ (by have := HS2.out; omega) (P2.out o v hv)
  have HS3 : Hid (w.heap.size + 3 ≤ w3.heap.size) := Lib.hid (by have := hb3.size; have := HS2.out; omega)
  have CF3 := U_cell (U_below HB3.out _ _ _ (U_lt CF.out) CF.out)
  have CN3 := U_cell (U_below HB3.out _ _ _ (U_lt CN.out) CN.out)
  clear hb3 m0 m1 hw2
  have k0 := U_cell (P13.out 0 _ rfl)
  have k1 := U_cell (P13.out 1 _ rfl)
  have k2 := U_frozen (P13.out 1 _ rfl)
  have k3 := U_cell (P13.out 2 _ rfl)
  have k4 := U_cell (P13.out 3 _ rfl)
  have k5 := U_cell (P13.out 4 _ rfl)
  rcases lift_cases h n f d with ⟨⟨g1, g2, g3⟩, hlift⟩ | ⟨hno, hlift⟩
  · have b1 : (h.k == 1) = true := by simpa using g1
    have b2 : decide ((d : Int) ≤ h.n) = true := decide_eq_true g2
    have b3 : decide (f ≤ h.n - (d : Int)) = true := decide_eq_true g3
    have b4 : wrap64 (h.n - (d : Int)) = h.n - (d : Int) := by unfold wrap64; omega
    have HLF := Lib.hid hlift
    clear hlift g1 g2 g3
    go_wp2_with fail
    clear b1 b2 b3 b4
    obtain ⟨nn, hnn⟩ : ∃ nn, wrap64 (h.n + n) = nn := ⟨_, rfl⟩
    have HE : Hid (h.lift n f d = ⟨h.k, nn, h.a, h.l⟩) := Lib.hid (by rw [HLF.out, ← hnn]; show (⟨h.k, IntKind.i64.wrap (h.n + n), h.a, h.l⟩ : Hd) = _; rw [IntKind.wrap_i64]; first | rfl | (unfold wrap64; rfl))
    rw [hnn]
    obtain ⟨W1, hW1⟩ : ∃ W1, w3.setCell ⟨w.heap.size + 1, 1, none⟩ (.int .i64 nn) = W1 := ⟨_, rfl⟩
    have PB : Hid (Below w.heap.size w W1) := Lib.hid (by rw [← hW1]; exact HB3.out.setCell (p := ⟨w.heap.size + 1, 1, none⟩) (Nat.le_succ _) _)
    have PS : Hid (w.heap.size + 3 ≤ W1.heap.size) := Lib.hid (by rw [← hW1, World.size_setCell]; exact HS3.out)
    have P24 : Hid (∀ o v, zeros[o]? = some v → U W1 (w.heap.size + 1 + 1) o = some v) := fun o v hv => by
      rw [← hW1]; exact U_set_other (P23.out o v hv) (ne_blk (by omega))
    rw [hW1]
    clear hW1 hnn
    clear P13 P23 P1 P2 HB2 HS2 HB3 HS3 CF3 CN3 k0 k1 k2 k3 k4 k5 CF CN
    refine (own_any h.k nn h.a h.l q r nl c m e W1 (HL.out.on PB.out) HSZ.out).mono ?_
    rintro en w5 ⟨q', n', c', S, rfl, hb5, ho5, hn5⟩
    have HO := Lib.hid ho5
    have HN := Lib.hid hn5
    have HB5 := Lib.hid (below_step PB.out hb5)
    have P25 : Hid (∀ o v, zeros[o]? = some v → U w5 (w.heap.size + 1 + 1) o = some v) := fun o v hv => U_below hb5 _ _ _ (by have := PS.out; omega) (P24.out o v hv)
    clear hb5 ho5 hn5 P24
    have m0 := U_cell (P25.out 0 _ rfl)
    have m1 := U_cell (P25.out 1 _ rfl)
    have m2 := U_cell (P25.out 2 _ rfl)
    have m3 := U_cell (P25.out 3 _ rfl)
    have m4 := U_cell (P25.out 4 _ rfl)
    have o0 := U_frozen (P25.out 0 _ rfl)
    have o1 := U_frozen (P25.out 1 _ rfl)
    have o2 := U_frozen (P25.out 2 _ rfl)
    have o3 := U_frozen (P25.out 3 _ rfl)
    have o4 := U_frozen (P25.out 4 _ rfl)
    go_wp2_with fail
    obtain ⟨W, hW⟩ : ∃ W, ((((w5.setCell ⟨w.heap.size + 1 + 1, 0, none⟩ (.int .i64 h.k)).setCell ⟨w.heap.size + 1 + 1, 1, none⟩ (.int .i64 nn)).setCell ⟨w.heap.size + 1 + 1, 2, none⟩ (.int .i64 h.a)).setCell ⟨w.heap.size + 1 + 1, 3, none⟩ (.slice q' n' c')).setCell ⟨w.heap.size + 1 + 1, 4, none⟩ (.slice r m e) = W := ⟨_, rfl⟩
    obtain ⟨⟨y0, y1, y2, y3, y4⟩, hBF, hkW⟩ := res5 P25.out HB5.out (by omega) hW
    rw [hW]
    refine bodyPost_ret (v := .tuple #[.agg #[.int .i64 h.k, .int .i64 nn, .int .i64 h.a, .slice q' n' c', .slice r m e], .bool false]) (by simp [results, Tryz.results123, go_sem, y0, y1, y2, y3, y4]) rfl ⟨q', n', c', S, by rw [HE.out], hBF, ?_, HN.out⟩
    rw [HE.out]
    exact (HO.out.lower (by have := PS.out; omega)).kept fun b hb => hkW b (by have := (HO.out.mem b hb).1; have := PS.out; omega)
  have HLF := Lib.hid hlift
  clear hlift
  by_cases g1 : h.k = 1
  · have b1 : (h.k == 1) = true := by simpa using g1
    by_cases g2 : (d : Int) ≤ h.n
    · have b2 : decide ((d : Int) ≤ h.n) = true := decide_eq_true g2
      have g3 : ¬ f ≤ h.n - d := fun g3 => hno ⟨g1, g2, g3⟩
      have b3 : decide (f ≤ h.n - (d : Int)) = false := decide_eq_false g3
      have b4 : wrap64 (h.n - (d : Int)) = h.n - (d : Int) := by unfold wrap64; omega
      clear hno g1 g2 g3
      go_wp2_with fail
      clear b1 b2 b3 b4
      obtain ⟨nn, hnn⟩ : ∃ nn, h.n = nn := ⟨_, rfl⟩
      have HE : Hid (h.lift n f d = ⟨h.k, nn, h.a, h.l⟩) := Lib.hid (by rw [HLF.out, ← hnn])
      obtain ⟨W1, hW1⟩ : ∃ W1, w3 = W1 := ⟨_, rfl⟩
      have PB : Hid (Below w.heap.size w W1) := Lib.hid (by rw [← hW1]; exact HB3.out)
      have PS : Hid (w.heap.size + 3 ≤ W1.heap.size) := Lib.hid (by rw [← hW1]; exact HS3.out)
      have P24 : Hid (∀ o v, zeros[o]? = some v → U W1 (w.heap.size + 1 + 1) o = some v) := Lib.hid (by rw [← hW1]; exact P23.out)
      rw [hnn, hW1]
      clear hW1 hnn
      clear P13 P23 P1 P2 HB2 HS2 HB3 HS3 CF3 CN3 k0 k1 k2 k3 k4 k5 CF CN
      refine (own_any h.k nn h.a h.l q r nl c m e W1 (HL.out.on PB.out) HSZ.out).mono ?_
      rintro en w5 ⟨q', n', c', S, rfl, hb5, ho5, hn5⟩
      have HO := Lib.hid ho5
      have HN := Lib.hid hn5
      have HB5 := Lib.hid (below_step PB.out hb5)
      have P25 : Hid (∀ o v, zeros[o]? = some v → U w5 (w.heap.size + 1 + 1) o = some v) := fun o v hv => U_below hb5 _ _ _ (by have := PS.out; omega) (P24.out o v hv)
      clear hb5 ho5 hn5 P24
      have m0 := U_cell (P25.out 0 _ rfl)
      have m1 := U_cell (P25.out 1 _ rfl)
      have m2 := U_cell (P25.out 2 _ rfl)
      have m3 := U_cell (P25.out 3 _ rfl)
      have m4 := U_cell (P25.out 4 _ rfl)
      have o0 := U_frozen (P25.out 0 _ rfl)
      have o1 := U_frozen (P25.out 1 _ rfl)
      have o2 := U_frozen (P25.out 2 _ rfl)
      have o3 := U_frozen (P25.out 3 _ rfl)
      have o4 := U_frozen (P25.out 4 _ rfl)
      go_wp2_with fail
      obtain ⟨W, hW⟩ : ∃ W, ((((w5.setCell ⟨w.heap.size + 1 + 1, 0, none⟩ (.int .i64 h.k)).setCell ⟨w.heap.size + 1 + 1, 1, none⟩ (.int .i64 nn)).setCell ⟨w.heap.size + 1 + 1, 2, none⟩ (.int .i64 h.a)).setCell ⟨w.heap.size + 1 + 1, 3, none⟩ (.slice q' n' c')).setCell ⟨w.heap.size + 1 + 1, 4, none⟩ (.slice r m e) = W := ⟨_, rfl⟩
      obtain ⟨⟨y0, y1, y2, y3, y4⟩, hBF, hkW⟩ := res5 P25.out HB5.out (by omega) hW
      rw [hW]
      refine bodyPost_ret (v := .tuple #[.agg #[.int .i64 h.k, .int .i64 nn, .int .i64 h.a, .slice q' n' c', .slice r m e], .bool false]) (by simp [results, Tryz.results123, go_sem, y0, y1, y2, y3, y4]) rfl ⟨q', n', c', S, by rw [HE.out], hBF, ?_, HN.out⟩
      rw [HE.out]
      exact (HO.out.lower (by have := PS.out; omega)).kept fun b hb => hkW b (by have := (HO.out.mem b hb).1; have := PS.out; omega)
    · have b2 : decide ((d : Int) ≤ h.n) = false := decide_eq_false g2
      clear hno g1 g2
      go_wp2_with fail
      clear b1 b2
      obtain ⟨nn, hnn⟩ : ∃ nn, h.n = nn := ⟨_, rfl⟩
      have HE : Hid (h.lift n f d = ⟨h.k, nn, h.a, h.l⟩) := Lib.hid (by rw [HLF.out, ← hnn])
      obtain ⟨W1, hW1⟩ : ∃ W1, w3 = W1 := ⟨_, rfl⟩
      have PB : Hid (Below w.heap.size w W1) := Lib.hid (by rw [← hW1]; exact HB3.out)
      have PS : Hid (w.heap.size + 3 ≤ W1.heap.size) := Lib.hid (by rw [← hW1]; exact HS3.out)
      have P24 : Hid (∀ o v, zeros[o]? = some v → U W1 (w.heap.size + 1 + 1) o = some v) := Lib.hid (by rw [← hW1]; exact P23.out)
      rw [hnn, hW1]
      clear hW1 hnn
      clear P13 P23 P1 P2 HB2 HS2 HB3 HS3 CF3 CN3 k0 k1 k2 k3 k4 k5 CF CN
      refine (own_any h.k nn h.a h.l q r nl c m e W1 (HL.out.on PB.out) HSZ.out).mono ?_
      rintro en w5 ⟨q', n', c', S, rfl, hb5, ho5, hn5⟩
      have HO := Lib.hid ho5
      have HN := Lib.hid hn5
      have HB5 := Lib.hid (below_step PB.out hb5)
      have P25 : Hid (∀ o v, zeros[o]? = some v → U w5 (w.heap.size + 1 + 1) o = some v) := fun o v hv => U_below hb5 _ _ _ (by have := PS.out; omega) (P24.out o v hv)
      clear hb5 ho5 hn5 P24
      have m0 := U_cell (P25.out 0 _ rfl)
      have m1 := U_cell (P25.out 1 _ rfl)
      have m2 := U_cell (P25.out 2 _ rfl)
      have m3 := U_cell (P25.out 3 _ rfl)
      have m4 := U_cell (P25.out 4 _ rfl)
      have o0 := U_frozen (P25.out 0 _ rfl)
      have o1 := U_frozen (P25.out 1 _ rfl)
      have o2 := U_frozen (P25.out 2 _ rfl)
      have o3 := U_frozen (P25.out 3 _ rfl)
      have o4 := U_frozen (P25.out 4 _ rfl)
      go_wp2_with fail
      obtain ⟨W, hW⟩ : ∃ W, ((((w5.setCell ⟨w.heap.size + 1 + 1, 0, none⟩ (.int .i64 h.k)).setCell ⟨w.heap.size + 1 + 1, 1, none⟩ (.int .i64 nn)).setCell ⟨w.heap.size + 1 + 1, 2, none⟩ (.int .i64 h.a)).setCell ⟨w.heap.size + 1 + 1, 3, none⟩ (.slice q' n' c')).setCell ⟨w.heap.size + 1 + 1, 4, none⟩ (.slice r m e) = W := ⟨_, rfl⟩
      obtain ⟨⟨y0, y1, y2, y3, y4⟩, hBF, hkW⟩ := res5 P25.out HB5.out (by omega) hW
      rw [hW]
      refine bodyPost_ret (v := .tuple #[.agg #[.int .i64 h.k, .int .i64 nn, .int .i64 h.a, .slice q' n' c', .slice r m e], .bool false]) (by simp [results, Tryz.results123, go_sem, y0, y1, y2, y3, y4]) rfl ⟨q', n', c', S, by rw [HE.out], hBF, ?_, HN.out⟩
      rw [HE.out]
      exact (HO.out.lower (by have := PS.out; omega)).kept fun b hb => hkW b (by have := (HO.out.mem b hb).1; have := PS.out; omega)
  · have b1 : (h.k == 1) = false := by simpa using g1
    clear hno g1
    go_wp2_with fail
    clear b1
    obtain ⟨nn, hnn⟩ : ∃ nn, h.n = nn := ⟨_, rfl⟩
    have HE : Hid (h.lift n f d = ⟨h.k, nn, h.a, h.l⟩) := Lib.hid (by rw [HLF.out, ← hnn])
    obtain ⟨W1, hW1⟩ : ∃ W1, w3 = W1 := ⟨_, rfl⟩
    have PB : Hid (Below w.heap.size w W1) := Lib.hid (by rw [← hW1]; exact HB3.out)
    have PS : Hid (w.heap.size + 3 ≤ W1.heap.size) := Lib.hid (by rw [← hW1]; exact HS3.out)
    have P24 : Hid (∀ o v, zeros[o]? = some v → U W1 (w.heap.size + 1 + 1) o = some v) := Lib.hid (by rw [← hW1]; exact P23.out)
    rw [hnn, hW1]
    clear hW1 hnn
    clear P13 P23 P1 P2 HB2 HS2 HB3 HS3 CF3 CN3 k0 k1 k2 k3 k4 k5 CF CN
    refine (own_any h.k nn h.a h.l q r nl c m e W1 (HL.out.on PB.out) HSZ.out).mono ?_
    rintro en w5 ⟨q', n', c', S, rfl, hb5, ho5, hn5⟩
    have HO := Lib.hid ho5
    have HN := Lib.hid hn5
    have HB5 := Lib.hid (below_step PB.out hb5)
    have P25 : Hid (∀ o v, zeros[o]? = some v → U w5 (w.heap.size + 1 + 1) o = some v) := fun o v hv => U_below hb5 _ _ _ (by have := PS.out; omega) (P24.out o v hv)
    clear hb5 ho5 hn5 P24
    have m0 := U_cell (P25.out 0 _ rfl)
    have m1 := U_cell (P25.out 1 _ rfl)
    have m2 := U_cell (P25.out 2 _ rfl)
    have m3 := U_cell (P25.out 3 _ rfl)
    have m4 := U_cell (P25.out 4 _ rfl)
    have o0 := U_frozen (P25.out 0 _ rfl)
    have o1 := U_frozen (P25.out 1 _ rfl)
    have o2 := U_frozen (P25.out 2 _ rfl)
    have o3 := U_frozen (P25.out 3 _ rfl)
    have o4 := U_frozen (P25.out 4 _ rfl)
    go_wp2_with fail
    obtain ⟨W, hW⟩ : ∃ W, ((((w5.setCell ⟨w.heap.size + 1 + 1, 0, none⟩ (.int .i64 h.k)).setCell ⟨w.heap.size + 1 + 1, 1, none⟩ (.int .i64 nn)).setCell ⟨w.heap.size + 1 + 1, 2, none⟩ (.int .i64 h.a)).setCell ⟨w.heap.size + 1 + 1, 3, none⟩ (.slice q' n' c')).setCell ⟨w.heap.size + 1 + 1, 4, none⟩ (.slice r m e) = W := ⟨_, rfl⟩
    obtain ⟨⟨y0, y1, y2, y3, y4⟩, hBF, hkW⟩ := res5 P25.out HB5.out (by omega) hW
    rw [hW]
    refine bodyPost_ret (v := .tuple #[.agg #[.int .i64 h.k, .int .i64 nn, .int .i64 h.a, .slice q' n' c', .slice r m e], .bool false]) (by simp [results, Tryz.results123, go_sem, y0, y1, y2, y3, y4]) rfl ⟨q', n', c', S, by rw [HE.out], hBF, ?_, HN.out⟩
    rw [HE.out]
    exact (HO.out.lower (by have := PS.out; omega)).kept fun b hb => hkW b (by have := (HO.out.mem b hb).1; have := PS.out; omega)
end Go.Proofs.YtkcmapimcgppmaaGreatDoor
end
section
namespace Go.Proofs.YtkcmapimcgppmaaGreatDoor
open Go.RowKit

/-- The worlds that hold all that lay in w but in some blocks. -/
structure GrownX (ex : Nat → Prop) (w : World) where
  it : World
  keep : ∀ b, b < w.heap.size → ¬ ex b → it.heap[b]? = w.heap[b]?
instance (ex : Nat → Prop) (w : World) : Nonempty (GrownX ex w) := ⟨⟨w, fun _ _ _ => rfl⟩⟩
theorem GrownX.cell {ex : Nat → Prop} {w : World} {b o : Nat} {v : Value} (h : U w b o = some v) (hb : ¬ ex b) : ∀ n : GrownX ex w, n.it.cell? ⟨b, o, none⟩ = some v := fun n => U_cell ((U_block (n.keep b (U_lt h) hb) o).trans h)
theorem wp_region_take_X {P : Program} {id : Nat} {Q : Exit → Act → World → Prop} {a : Act} {w : World} {L : List Oper} (ex : Nat → Prop) (is : List Nat) (hn : is.length ≤ L.length) (hm : P.follows .mixedOrders = true) (hs : Region.noSelect L.toArray = true)
    (hi : is.all (fun i => decide (i < L.length)) = true) (ht : takesL .any L.toArray (Array.replicate L.length false) is = true) (hQ : ∀ c a d v w, Q (.panic c) (Act.put a d v) w → Q (.panic c) a w)
    (h : wpQuiet P L.toArray (fun w' => ∃ n : GrownX ex w, w' = n.it) (fun a' => wpAnyH P .any L.toArray Q (fun w' => ∃ n : GrownX ex w, w' = n.it) (L.length - is.length) (markedL (Array.replicate L.length false) is) a' w.drew) ((is.map fun i => L.getD i noOp).map bar) a) :
    (Code.region id L.toArray true).wp P Q a w := by
  refine wp_region_held (S := fun w' => ∃ n : GrownX ex w, w' = n.it) hm ?_
  have := takeReadsL (md := .any) (Q := Q) (S := fun w' => ∃ n : GrownX ex w, w' = n.it) hs hQ (w := w.drew) ⟨⟨w.drew, fun _ _ _ => rfl⟩, rfl⟩ (L.length - is.length) is (Array.replicate L.length false) a hi ht h
  have e4 : L.toArray.size = L.length - is.length + is.length := by simp; omega
  have e5 : Array.replicate L.length false = Array.replicate L.toArray.size false := by simp
  rw [e5] at this
  rw [e4] at this ⊢
  exact this
/-- One of two operations that may come up, taken, either way. -/
theorem tail_two {P : Program} {md : Region.Mode} {ops : Array Oper} {Q : Exit → Act → World → Prop} {S : World → Prop} {fuel : Nat} {listed : Array Bool} {a : Act} {w : World} {i j : Nat} {o o' : Oper} (hr : Region.ready md ops listed = [i, j]) (ho : ops[i]? = some o) (ho' : ops[j]? = some o') (hw : Region.wanted o (yielded ops a.tmps) = true) (hw' : Region.wanted o' (yielded ops a.tmps) = true)
    (h : ∀ K' : Act → World → Prop, Shut (∀ a w, S w → (S w → wpAnyH P md ops Q S fuel (listed.setIfInBounds i true) a w) → K' a w) → Oper.wp P o a w K' Q)
    (h' : ∀ K' : Act → World → Prop, Shut (∀ a w, S w → (S w → wpAnyH P md ops Q S fuel (listed.setIfInBounds j true) a w) → K' a w) → Oper.wp P o' a w K' Q) : wpAnyH P md ops Q S (fuel + 1) listed a w :=
  wpAnyH_ready hr (by simp) (AllReadyH.cons ho (fun K' hK => by rw [if_pos hw]; exact h K' hK) (AllReadyH.cons ho' (fun K' hK => by rw [if_pos hw']; exact h' K' hK) AllReadyH.nil))
end Go.Proofs.YtkcmapimcgppmaaGreatDoor
end
