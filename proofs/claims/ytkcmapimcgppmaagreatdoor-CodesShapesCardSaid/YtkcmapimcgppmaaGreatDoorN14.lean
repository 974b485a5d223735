/-
  The program's small makers of terms; tuple types and tuples. Conditions: no more than 1000000 nodes, levels, parts; numbers that a word holds; the table of kinds lies where it was laid. The program's parts of a tuple. Conditions: no more than 1000000 nodes, levels, parts; twelve parts at most; numbers that a word holds; the table of kinds lies where it was laid. The document's tuples. Conditions: no more than 2000000 nodes, levels, parts; numbers that a word holds. Contracts over data: terms as cells; what was shown before, so told. Conditions: those that were shown before. Levels, rows of terms, terms that came in, as data; their size against their bulk. The table of kinds that a row lists: its bounds, cell by cell. What each of the seat's rows asks besides its walk: a world that fits, the law's answer under 'nothing below has turned'. Conditions: as each lemma states them.
-/
import Derived.Test.YtkcmapimcgppmaaGreatDoorN13
import Derived.Test.YtkcmapimcgppmaaGreatDoorN08
import Derived.Test.YtkcmapimcgppmaaGreatDoorN02
import Derived.Test.YtkcmapimcgppmaaGreatDoorN01
import Derived.WalkKit
import Derived.ProofKit
import Derived.OpenShut
import Derived.Below
import Derived.ChangeSame
import Derived.ChangeMaps5
import Derived.Carry
import Derived.Deep.DeepHandedRow
set_option linter.all false
set_option linter.unusedVariables false
set_option linter.unusedSimpArgs false
set_option linter.unnecessarySimpa false
section
namespace Go.Proofs.YtkcmapimcgppmaaGreatDoor
open Go.RowKit

set_option maxRecDepth 100000 in
set_option maxHeartbeats 1000000 in
theorem fin_any (n : Int) (w : World) : Calls Tryz.prog 57 #[.int .i64 n] w fun e w' => e = .returned (.agg #[.int .i64 22, .int .i64 n, .int .i64 0, .slice none 0 0, .slice none 0 0]) ∧ Below w.heap.size w w' := by
  go_enter Tryz.func57, Tryz.ntmps57
  go_wp2_with fail
  refine bodyPost_ret (v := .agg #[.int .i64 22, .int .i64 n, .int .i64 0, .slice none 0 0, .slice none 0 0]) (by simp [results, Tryz.results57, go_sem]) rfl ⟨rfl, below_alloc _ _⟩
set_option maxRecDepth 100000 in
set_option maxHeartbeats 1000000 in
theorem elem_any (k n : Int) (w : World) : Calls Tryz.prog 58 #[.int .i64 k, .int .i64 n] w fun e w' => e = .returned (.agg #[.int .i64 23, .int .i64 k, .int .i64 n, .slice none 0 0, .slice none 0 0]) ∧ Below w.heap.size w w' := by
  go_enter Tryz.func58, Tryz.ntmps58
  go_wp2_with fail
  refine bodyPost_ret (v := .agg #[.int .i64 23, .int .i64 k, .int .i64 n, .slice none 0 0, .slice none 0 0]) (by simp [results, Tryz.results58, go_sem]) rfl ⟨rfl, below_alloc _ _⟩

/-- A result's box, laid ahead of all. -/
theorem box_zero (w : World) : ∀ o v, zeros[o]? = some v → U (w.alloc (.cells zeros 26)) w.heap.size o = some v := fun o v hv => laid_cell hv
theorem kH_fits {k : Int} (hk : 0 ≤ k ∧ k ≤ 100) : (kH k).fits := ⟨⟨by show -9223372036854775808 ≤ k; omega, by show k ≤ 9223372036854775807; omega⟩, ⟨by show (-9223372036854775808 : Int) ≤ 0; decide, by show (0 : Int) ≤ 9223372036854775807; decide⟩, ⟨by show (-9223372036854775808 : Int) ≤ 0; decide, by show (0 : Int) ≤ 9223372036854775807; decide⟩, fun p hp => by cases hp⟩
theorem num_fits {k n a : Int} (hk : 0 ≤ k ∧ k ≤ 100) (hn : 0 ≤ n ∧ n ≤ 1000000000) (ha : 0 ≤ a ∧ a ≤ 1000000000) : Hd.fits ⟨k, n, a, []⟩ := ⟨⟨by show -9223372036854775808 ≤ k; omega, by show k ≤ 9223372036854775807; omega⟩, ⟨by show -9223372036854775808 ≤ n; omega, by show n ≤ 9223372036854775807; omega⟩, ⟨by show -9223372036854775808 ≤ a; omega, by show a ≤ 9223372036854775807; omega⟩, fun p hp => by cases hp⟩

set_option maxRecDepth 100000 in
set_option maxHeartbeats 1000000 in
theorem of_any (k : Int) (p : Option Addr) (n c : Nat) (x : Ts) (w : World) (ha : RT ty w (.slice p n c) x) (hf : x.fits) (hs : x.size ≤ 2000000) (hk : 0 ≤ k ∧ k ≤ 100) (hKA : KA w) : Calls Tryz.prog 59 #[.int .i64 k, .slice p n c] w (MakesT (kH k) x w) := by
  obtain ⟨w2, hw2⟩ : ∃ w2, w.alloc (.cells zeros 26) = w2 := ⟨_, rfl⟩
  have hb2 : Below w.heap.size w w2 := by rw [← hw2]; exact below_alloc _ _
  have hs2 : w2.heap.size = w.heap.size + 1 := by rw [← hw2]; simp
  have hz2 : ∀ o v, zeros[o]? = some v → U w2 w.heap.size o = some v := by rw [← hw2]; exact box_zero w
  have HL := Lib.hid (liftT_any (kH k) x (.agg #[.int .i64 k, .int .i64 0, .int .i64 0, .slice none 0 0, .slice p n c]) 0 0 w2 ⟨_, _, _, _, _, _, rfl, Rd.none_ _ _ _, RT.on ha hb2⟩ (kH_fits hk) hf (by show 0 + _ ≤ _; omega) (hKA.on hb2 hKA.1))
  rw [Hd.lift_zero (kH_fits hk), Ts.lift_zero hf] at HL
  have HB2 := Lib.hid hb2
  have HS2 := Lib.hid hs2
  have HZ2 := Lib.hid hz2
  unfold zeros at hw2
  clear ha hf hs hKA hb2 hs2 hz2
  go_enter Tryz.func59, Tryz.ntmps59
  go_wp2_with fail
  refine HL.out.mono ?_
  rintro e wy ⟨s1, n1, d1, s2, n2, d2, S, rfl, hby, ho, hn⟩
  have Z2 : Hid (∀ o v, zeros[o]? = some v → U wy w.heap.size o = some v) := fun o v hv => U_below hby _ _ _ (by have := HS2.out; omega) (HZ2.out o v hv)
  have HBY := Lib.hid (below_step HB2.out hby)
  have HGE : Hid (∀ b ∈ S, w.heap.size + 1 ≤ b) := fun b hb => by have := (ho.mem b hb).1; have := HS2.out; omega
  have HO := Lib.hid (ho.lower (base' := w.heap.size) (by have := HS2.out; omega))
  have HN := Lib.hid hn
  rw [show (kH k).k = k from rfl, show (kH k).n = 0 from rfl, show (kH k).a = 0 from rfl] at HO ⊢
  clear hby ho hn hw2 HL
  have m0 := U_cell (Z2.out 0 _ rfl)
  have m1 := U_cell (Z2.out 1 _ rfl)
  have m2 := U_cell (Z2.out 2 _ rfl)
  have m3 := U_cell (Z2.out 3 _ rfl)
  have m4 := U_cell (Z2.out 4 _ rfl)
  have o0 := U_frozen (Z2.out 0 _ rfl)
  have o1 := U_frozen (Z2.out 1 _ rfl)
  have o2 := U_frozen (Z2.out 2 _ rfl)
  have o3 := U_frozen (Z2.out 3 _ rfl)
  have o4 := U_frozen (Z2.out 4 _ rfl)
  go_wp2_with fail
  obtain ⟨W, hW⟩ : ∃ W, ((((wy.setCell ⟨w.heap.size, 0, none⟩ (.int .i64 k)).setCell ⟨w.heap.size, 1, none⟩ (.int .i64 0)).setCell ⟨w.heap.size, 2, none⟩ (.int .i64 0)).setCell ⟨w.heap.size, 3, none⟩ (.slice s1 n1 d1)).setCell ⟨w.heap.size, 4, none⟩ (.slice s2 n2 d2) = W := ⟨_, rfl⟩
  obtain ⟨⟨x0, x1, x2, x3, x4⟩, hBF, hkW⟩ := res5 Z2.out HBY.out (by omega) hW
  rw [hW]
  refine bodyPost_ret (v := .agg #[.int .i64 k, .int .i64 0, .int .i64 0, .slice s1 n1 d1, .slice s2 n2 d2]) (by simp [results, Tryz.results59, go_sem, x0, x1, x2, x3, x4]) rfl ⟨s1, n1, d1, s2, n2, d2, S, rfl, hBF, ?_, HN.out⟩
  exact HO.out.kept fun b hb => hkW b (by have := HGE.out b hb; omega)

set_option maxRecDepth 100000 in
set_option maxHeartbeats 1000000 in
theorem tup_any (t : Ts) (va : Value) (w : World) (ha : RT ty w va t) (hf : t.fits) (hs : t.size ≤ 1000000) (hKA : KA w) : Calls Tryz.prog 12 #[va] w (MakesT (tup t).h (tup t).x w) := by
  obtain ⟨q, c, rfl, -, hc, -⟩ := ha.slice
  unfold maxLen at hc
  obtain ⟨w2, hw2⟩ : ∃ w2, w.alloc (.cells zeros 26) = w2 := ⟨_, rfl⟩
  have hb2 : Below w.heap.size w w2 := by rw [← hw2]; exact below_alloc _ _
  have hs2 : w2.heap.size = w.heap.size + 1 := by rw [← hw2]; simp
  have hz2 : ∀ o v, zeros[o]? = some v → U w2 w.heap.size o = some v := by rw [← hw2]; exact box_zero w
  have HB2 := Lib.hid hb2
  have HS2 := Lib.hid hs2
  have HZ2 := Lib.hid hz2
  have HFO : Hid (∀ W, Below w.heap.size w W → Calls Tryz.prog 56 #[.int .i64 12, .agg #[.int .i64 22, .int .i64 1, .int .i64 0, .slice none 0 0, .slice none 0 0], .slice q t.len c] W (MakesT (tup t).h (tup t).x W)) := fun W hW => folded_any 12 22 1 0 _ t W (RT.on ha hW) hf (num_fits (by decide) (by decide) (by decide)) hs (hKA.on hW hKA.1) (by decide)
  obtain ⟨T, hT⟩ : ∃ T, tup t = T := ⟨_, rfl⟩
  rw [hT] at HFO ⊢
  unfold zeros at hw2
  clear ha hf hs hKA hb2 hs2 hz2 hT
  go_enter Tryz.func12, Tryz.ntmps12
  go_wp2_with fail
  refine (fin_any 1 _).mono ?_
  rintro e w3 ⟨rfl, hb3⟩
  have HB3 := Lib.hid hb3
  clear hb3 hw2
  go_wp2_with fail
  refine (HFO.out _ (below_step HB2.out HB3.out)).mono ?_
  rintro e wy ⟨s1, n1, d1, s2, n2, d2, S, rfl, hby, ho, hn⟩
  have hs3 := HB3.out.size
  have Z2 : Hid (∀ o v, zeros[o]? = some v → U wy w.heap.size o = some v) := fun o v hv => U_below hby _ _ _ (by have := HS2.out; omega) (U_below HB3.out _ _ _ (by have := HS2.out; omega) (HZ2.out o v hv))
  have HBY := Lib.hid (below_step (below_step HB2.out HB3.out) hby)
  have HGE : Hid (∀ b ∈ S, w.heap.size + 1 ≤ b) := fun b hb => by have := (ho.mem b hb).1; have := HS2.out; omega
  have HO := Lib.hid (ho.lower (base' := w.heap.size) (by have := HS2.out; omega))
  have HN := Lib.hid hn
  clear hby ho hn hs3
  have m0 := U_cell (Z2.out 0 _ rfl)
  have m1 := U_cell (Z2.out 1 _ rfl)
  have m2 := U_cell (Z2.out 2 _ rfl)
  have m3 := U_cell (Z2.out 3 _ rfl)
  have m4 := U_cell (Z2.out 4 _ rfl)
  have o0 := U_frozen (Z2.out 0 _ rfl)
  have o1 := U_frozen (Z2.out 1 _ rfl)
  have o2 := U_frozen (Z2.out 2 _ rfl)
  have o3 := U_frozen (Z2.out 3 _ rfl)
  have o4 := U_frozen (Z2.out 4 _ rfl)
  go_wp2_with fail
  obtain ⟨W, hW⟩ : ∃ W, ((((wy.setCell ⟨w.heap.size, 0, none⟩ (.int .i64 T.h.k)).setCell ⟨w.heap.size, 1, none⟩ (.int .i64 T.h.n)).setCell ⟨w.heap.size, 2, none⟩ (.int .i64 T.h.a)).setCell ⟨w.heap.size, 3, none⟩ (.slice s1 n1 d1)).setCell ⟨w.heap.size, 4, none⟩ (.slice s2 n2 d2) = W := ⟨_, rfl⟩
  obtain ⟨⟨x0, x1, x2, x3, x4⟩, hBF, hkW⟩ := res5 Z2.out HBY.out (by omega) hW
  rw [hW]
  refine bodyPost_ret (v := .agg #[.int .i64 T.h.k, .int .i64 T.h.n, .int .i64 T.h.a, .slice s1 n1 d1, .slice s2 n2 d2]) (by simp [results, Tryz.results12, go_sem, x0, x1, x2, x3, x4]) rfl ⟨s1, n1, d1, s2, n2, d2, S, rfl, hBF, ?_, HN.out⟩
  exact HO.out.kept fun b hb => hkW b (by have := HGE.out b hb; omega)

set_option maxRecDepth 100000 in
set_option maxHeartbeats 1000000 in
theorem pack_any (t : Ts) (va : Value) (w : World) (ha : RT ty w va t) (hf : t.fits) (hs : t.size ≤ 1000000) (hKA : KA w) : Calls Tryz.prog 13 #[va] w (MakesT (pack t).h (pack t).x w) := by
  obtain ⟨q, c, rfl, -, hc, -⟩ := ha.slice
  unfold maxLen at hc
  obtain ⟨w2, hw2⟩ : ∃ w2, w.alloc (.cells zeros 26) = w2 := ⟨_, rfl⟩
  have hb2 : Below w.heap.size w w2 := by rw [← hw2]; exact below_alloc _ _
  have hs2 : w2.heap.size = w.heap.size + 1 := by rw [← hw2]; simp
  have hz2 : ∀ o v, zeros[o]? = some v → U w2 w.heap.size o = some v := by rw [← hw2]; exact box_zero w
  have HB2 := Lib.hid hb2
  have HS2 := Lib.hid hs2
  have HZ2 := Lib.hid hz2
  have HFO : Hid (∀ W, Below w.heap.size w W → Calls Tryz.prog 56 #[.int .i64 13, .agg #[.int .i64 23, .int .i64 0, .int .i64 1, .slice none 0 0, .slice none 0 0], .slice q t.len c] W (MakesT (pack t).h (pack t).x W)) := fun W hW => folded_any 13 23 0 1 _ t W (RT.on ha hW) hf (num_fits (by decide) (by decide) (by decide)) hs (hKA.on hW hKA.1) (by decide)
  obtain ⟨T, hT⟩ : ∃ T, pack t = T := ⟨_, rfl⟩
  rw [hT] at HFO ⊢
  unfold zeros at hw2
  clear ha hf hs hKA hb2 hs2 hz2 hT
  go_enter Tryz.func13, Tryz.ntmps13
  go_wp2_with fail
  refine (elem_any 0 1 _).mono ?_
  rintro e w3 ⟨rfl, hb3⟩
  have HB3 := Lib.hid hb3
  clear hb3 hw2
  go_wp2_with fail
  refine (HFO.out _ (below_step HB2.out HB3.out)).mono ?_
  rintro e wy ⟨s1, n1, d1, s2, n2, d2, S, rfl, hby, ho, hn⟩
  have hs3 := HB3.out.size
  have Z2 : Hid (∀ o v, zeros[o]? = some v → U wy w.heap.size o = some v) := fun o v hv => U_below hby _ _ _ (by have := HS2.out; omega) (U_below HB3.out _ _ _ (by have := HS2.out; omega) (HZ2.out o v hv))
  have HBY := Lib.hid (below_step (below_step HB2.out HB3.out) hby)
  have HGE : Hid (∀ b ∈ S, w.heap.size + 1 ≤ b) := fun b hb => by have := (ho.mem b hb).1; have := HS2.out; omega
  have HO := Lib.hid (ho.lower (base' := w.heap.size) (by have := HS2.out; omega))
  have HN := Lib.hid hn
  clear hby ho hn hs3
  have m0 := U_cell (Z2.out 0 _ rfl)
  have m1 := U_cell (Z2.out 1 _ rfl)
  have m2 := U_cell (Z2.out 2 _ rfl)
  have m3 := U_cell (Z2.out 3 _ rfl)
  have m4 := U_cell (Z2.out 4 _ rfl)
  have o0 := U_frozen (Z2.out 0 _ rfl)
  have o1 := U_frozen (Z2.out 1 _ rfl)
  have o2 := U_frozen (Z2.out 2 _ rfl)
  have o3 := U_frozen (Z2.out 3 _ rfl)
  have o4 := U_frozen (Z2.out 4 _ rfl)
  go_wp2_with fail
  obtain ⟨W, hW⟩ : ∃ W, ((((wy.setCell ⟨w.heap.size, 0, none⟩ (.int .i64 T.h.k)).setCell ⟨w.heap.size, 1, none⟩ (.int .i64 T.h.n)).setCell ⟨w.heap.size, 2, none⟩ (.int .i64 T.h.a)).setCell ⟨w.heap.size, 3, none⟩ (.slice s1 n1 d1)).setCell ⟨w.heap.size, 4, none⟩ (.slice s2 n2 d2) = W := ⟨_, rfl⟩
  obtain ⟨⟨x0, x1, x2, x3, x4⟩, hBF, hkW⟩ := res5 Z2.out HBY.out (by omega) hW
  rw [hW]
  refine bodyPost_ret (v := .agg #[.int .i64 T.h.k, .int .i64 T.h.n, .int .i64 T.h.a, .slice s1 n1 d1, .slice s2 n2 d2]) (by simp [results, Tryz.results13, go_sem, x0, x1, x2, x3, x4]) rfl ⟨s1, n1, d1, s2, n2, d2, S, rfl, hBF, ?_, HN.out⟩
  exact HO.out.kept fun b hb => hkW b (by have := HGE.out b hb; omega)
end Go.Proofs.YtkcmapimcgppmaaGreatDoor
end
section
namespace Go.Proofs.YtkcmapimcgppmaaGreatDoor
open Go.RowKit

def sndN : Nat → Tm → Tm
  | 0, t => t
  | j + 1, t => ⟨kH 15, (sndN j t).ts⟩
def fsts : Nat → Tm → Ts
  | 0, _ => .nil
  | j + 1, t => (fsts j t).snoc (kH 14) (sndN j t).ts
theorem parts_split (t : Tm) : ∀ j m, partsT (j + (m + 1)) t = (fsts j t).app (partsT (m + 1) (sndN j t)) := by
  intro j
  induction j with
  | zero => intro m; simp [fsts, sndN, Ts.app]
  | succ j ih =>
    intro m
    rw [show j + 1 + (m + 1) = j + (m + 1 + 1) by omega, ih (m + 1)]
    show (fsts j t).app (partsT (m + 2) (sndN j t)) = ((fsts j t).snoc (kH 14) (sndN j t).ts).app (partsT (m + 1) ⟨kH 15, (sndN j t).ts⟩)
    rw [Ts.snoc, Ts.app_assoc]
    rfl
theorem parts_last (t : Tm) (j : Nat) : (fsts j t).app (sndN j t).ts = partsT (j + 1) t := (parts_split t j 0).symm
theorem sndN_size (t : Tm) : ∀ j, lvSize (sndN j t).h.l + (sndN j t).x.size ≤ lvSize t.h.l + t.x.size + j
  | 0 => Nat.le_refl _
  | j + 1 => by
    have := sndN_size t j
    show lvSize [] + (1 + lvSize (sndN j t).h.l + (sndN j t).x.size + 0) ≤ _
    simp only [lvSize]
    omega
theorem sndN_fits {t : Tm} (h : t.h.fits) (hx : t.x.fits) : ∀ j, (sndN j t).h.fits ∧ (sndN j t).x.fits
  | 0 => ⟨h, hx⟩
  | j + 1 => ⟨kH_fits (by decide), (sndN_fits h hx j).1, (sndN_fits h hx j).2, trivial⟩
/-- A block of terms is a row of them. -/
theorem RT.block {W : World} {nb n : Nat} {cs : List Value} {x : Ts} (hb : ∀ j u, cs[j]? = some u → U W nb j = some u) (hW : nb < W.heap.size) (hv : Vs (U W) W.heap.size (tDs ty x) cs) (hn : x.len = n) (hn2 : n ≤ 1000000) : RT ty W (.slice (some ⟨nb, 0, none⟩) n n) x :=
  ⟨_, n, n, rfl, by rw [tDs_len, hn], Nat.le_refl _, by unfold maxLen; omega, by rw [tDs_len, hn]; simp [Ds.len], .inr (.inr ⟨nb, 0, rfl, hW, hv.at_ (fun j u hu => by rw [Nat.zero_add]; exact hb j u hu), trivial⟩)⟩
/-- What is owned reads, by whatever reads the blocks from base on. -/
theorem Own.vsx {F : Nat → Nat → Option Value} {w : World} {base : Nat} (hF : ∀ b o v, base ≤ b → U w b o = some v → F b o = some v) {x : Ds} : ∀ {xs : List Value} {S : List Nat}, Own w base x xs S → Vs F w.heap.size x xs := by
  induction x with
  | nil => rintro xs S ⟨rfl, -⟩; rfl
  | lit v r ih => rintro xs S ⟨ys, e, h⟩; exact ⟨ys, e, ih h⟩
  | row sz e x s r ihx ihs ihr =>
    rintro xs S ⟨v, ys, zs, us, B, S1, S2, S3, e1, h1, h2, h3, h4, rfl⟩
    refine ⟨v, ys, e1, ?_, ihr h4⟩
    have hv := ihx h2
    have hl := h2.len
    have hu := ihs h3
    have hul := h3.len
    rcases h1 with ⟨p, rfl, h5, h6, rfl⟩ | ⟨g, n, cap, cur, rfl, rfl, h4, h5, h6, h7, h8, h9, h10, h11, h12⟩
    · obtain ⟨rfl, rfl⟩ := List.append_eq_nil_iff.1 h6
      have hs : s.len = 0 := by simpa using hul.symm
      refine ⟨p, 0, 0, rfl, by omega, Nat.le_refl _, Nat.zero_le _, by omega, ?_⟩
      by_cases hp : p = none
      · exact .inl ⟨hp, rfl⟩
      · exact .inr (.inl ⟨rfl, hs, hp⟩)
    · have hc := row_cell h5 h12
      refine ⟨_, n, cap, rfl, by omega, h6, h7, by rw [← hl, ← hul, ← List.length_append]; exact h11, .inr (.inr ⟨g, 0, rfl, (Array.getElem?_eq_some_iff.1 h5).1, hv.at_ (fun j u hj => hF _ _ _ h4 (hc j u ?_)), hu.at_ (fun j u hj => ?_)⟩)⟩
      · rw [List.getElem?_append_left (List.getElem?_eq_some_iff.1 hj).1]; exact hj
      · have := hc (x.len + j) u (by rw [← hl, List.getElem?_append_right (by omega)]; simpa using hj)
        rw [← Nat.add_assoc] at this; exact hF _ _ _ h4 this
theorem Vs.rmx {F : Nat → Nat → Option Value} {hi : Nat} {h : Hd} {x : Ts} {r r' : Option Addr} {m d m' d' : Nat} {k n a : Value} (hv : Vs F hi (tDs ty (.cons h x .nil)) [k, n, a, .slice r m d, .slice r' m' d']) : RMx F hi (.agg #[k, n, a, .slice r m d, .slice r' m' d']) h x := by
  obtain ⟨_, e1, _, e2, _, e3, v, ys, e4, h1, v', ys', e5, h2, -⟩ := hv
  cases e1
  cases e2
  cases e3
  cases e4
  cases e5
  exact ⟨_, _, _, _, _, _, rfl, h1, h2⟩
theorem RowG.keep {w w' : World} {base sz e n : Nat} {v : Value} {x : Ds} {S : List Nat} (h : RowG w base sz e v n x S) (hk : ∀ b, base ≤ b → b < w.heap.size → w'.heap[b]? = w.heap[b]?) : RowG w' base sz e v n x S := by
  obtain ⟨xs, h1, h2, h3⟩ := h
  refine ⟨xs, ⟨h1.1, ?_⟩, h2.kept fun b hb => hk b (h2.mem b hb).1 (h2.mem b hb).2, h3⟩
  rcases h1.2 with h6 | ⟨g, cap, cur, e1, h6, h7, h8⟩
  · exact .inl h6
  · exact .inr ⟨g, cap, cur, e1, h6, (hk g h6 (Array.getElem?_eq_some_iff.1 h7).1).trans h7, h8⟩
/-- A term made, appended to a row of the call's own (w1: the world in which the term was made; base: below all of it). -/
theorem RowG.appendT {w0 w1 : World} {base j m0 : Nat} {v : Value} {y : Ts} {h : Hd} {x : Ts} {S S2 : List Nat} {r r' : Option Addr} {n c n' c' : Nat} (hR : RowG w1 base 5 26 v j (tDs ty y) S) (hlt : ∀ b ∈ v.ownBlock.toList ++ S, b < m0)
    (ho : Own w1 m0 (tDs ty (.cons h x .nil)) [.int .i64 h.k, .int .i64 h.n, .int .i64 h.a, .slice r n c, .slice r' n' c'] S2) (hnd : S2.Nodup) (hj : j ≤ 1000000) (hm0 : base ≤ m0) (hb1 : base ≤ w1.heap.size) (_ : w0 = w1) :
    ∃ v' w2, (Builtin.append_ #[22, 22] 22 #[v, .slice (some ⟨w1.heap.size, 0, none⟩) 1 1]).run Tryz.prog (w1.alloc (.cells #[.int .i64 h.k, .int .i64 h.n, .int .i64 h.a, .slice r n c, .slice r' n' c'] 26)) = .ok v' w2 ∧
      RowG w2 base 5 26 v' (j + 1) (tDs ty (y.snoc h x)) (S ++ S2) ∧ Below base w1 w2 ∧ (∃ wz, w1.alloc (.cells #[.int .i64 h.k, .int .i64 h.n, .int .i64 h.a, .slice r n c, .slice r' n' c'] 26) = wz ∧ wz.grownBy w2 v.ownBlock) := by
  have hBz := below_alloc w1 (.cells #[.int .i64 h.k, .int .i64 h.n, .int .i64 h.a, .slice r n c, .slice r' n' c'] 26)
  have hOz := (ho.below hBz).lower hm0
  have hones : (tDs ty (.cons h x .nil)).ones := ⟨rfl, rfl, rfl, trivial⟩
  obtain ⟨v', w2, hrun, hR2, hg, -⟩ := RowG.append (ty := 22) (k := 1) elT (hR.below hBz) hlt hOz hnd (fun b hb => (ho.mem b hb).1) hones ⟨w1.heap.size, 0, none⟩ 1 rfl (new_cells _ _ 26) (by omega) (by rw [World.size_alloc]; omega)
  refine ⟨v', w2, hrun, by rw [tDs_snoc]; exact hR2, (hBz.mono hb1).grown hg (by rw [World.size_alloc]; omega) (hR.below hBz).ge, _, rfl, hg⟩
end Go.Proofs.YtkcmapimcgppmaaGreatDoor
end
section
namespace Go.Proofs.YtkcmapimcgppmaaGreatDoor
open Go.RowKit

set_option maxRecDepth 100000 in
set_option maxHeartbeats 4000000 in
theorem refPack_any : ∀ (t : Ts) (va : Value) (w : World), RT ty w va t → t.fits → t.size ≤ 2000000 → Calls Tryz.prog 18 #[va] w (MakesT (pack t).h (pack t).x w) := by
  intro t
  induction t with
  | nil =>
    intro va w ha _ _
    obtain ⟨q, c, rfl, -, hc, -⟩ := ha.slice
    unfold maxLen at hc
    clear ha
    go_enter Tryz.func18, Tryz.ntmps18
    go_wp2_with fail
    refine (refElem_any 0 1 _).mono ?_
    rintro e w1 ⟨rfl, hb1⟩
    have HB := Lib.hid (below_step (below_alloc w (.cells zeros 26)) hb1)
    have Z : Hid (∀ o v, zeros[o]? = some v → U w1 w.heap.size o = some v) := fun o v hv => U_below hb1 _ _ _ (by simp) (laid_cell hv)
    clear hb1
    have m0 := U_cell (Z.out 0 _ rfl)
    have m1 := U_cell (Z.out 1 _ rfl)
    have m2 := U_cell (Z.out 2 _ rfl)
    have m3 := U_cell (Z.out 3 _ rfl)
    have m4 := U_cell (Z.out 4 _ rfl)
    have o0 := U_frozen (Z.out 0 _ rfl)
    have o1 := U_frozen (Z.out 1 _ rfl)
    have o2 := U_frozen (Z.out 2 _ rfl)
    have o3 := U_frozen (Z.out 3 _ rfl)
    have o4 := U_frozen (Z.out 4 _ rfl)
    go_wp2_with fail
    obtain ⟨W, hW⟩ : ∃ W, ((((w1.setCell ⟨w.heap.size, 0, none⟩ (.int .i64 23)).setCell ⟨w.heap.size, 1, none⟩ (.int .i64 0)).setCell ⟨w.heap.size, 2, none⟩ (.int .i64 1)).setCell ⟨w.heap.size, 3, none⟩ (.slice none 0 0)).setCell ⟨w.heap.size, 4, none⟩ (.slice none 0 0) = W := ⟨_, rfl⟩
    obtain ⟨⟨x0, x1, x2, x3, x4⟩, hBF, hkW⟩ := res5 Z.out HB.out (by omega) hW
    rw [hW]
    refine bodyPost_ret (v := .agg #[.int .i64 23, .int .i64 0, .int .i64 1, .slice none 0 0, .slice none 0 0]) (by simp [results, Tryz.results18, go_sem, x0, x1, x2, x3, x4]) rfl ⟨_, _, _, _, _, _, [], rfl, hBF, ?_, by simp⟩
    exact own_plain _ _ _ _ _
  | cons h x r _ ih =>
    intro va w ha hf hs
    have hlen : ∀ m : Nat, ((m : Int) + 1 == 0) = false := fun m => by simp; omega
    obtain ⟨b, o, e1, hb, hRT⟩ : ∃ b o, (∃ n c, va = .slice (some ⟨b, o, none⟩) n c ∧ n = r.len + 1 ∧ n ≤ c ∧ c ≤ maxLen) ∧ b < w.heap.size ∧ ∀ c, va = .slice (some ⟨b, o, none⟩) (r.len + 1) c → RT ty w (.slice (some ⟨b, o + 5, none⟩) r.len (c - 1)) r := by
      obtain ⟨q, c, rfl, h1, h2, -⟩ := ha.slice
      obtain ⟨b, o, rfl, hb, hr⟩ := ha.tail
      exact ⟨b, o, ⟨_, _, rfl, rfl, h1, h2⟩, hb, fun c' e => by cases e; exact hr⟩
    obtain ⟨n, c, rfl, rfl, hc1, hc2⟩ := e1
    have hRT' := hRT c rfl
    obtain ⟨b', o', e2, -, hu1, hu2, hu3, ⟨r2, d2, hu4, -, -, hRL⟩, ⟨r3, d3, hu5, -, -, hRX⟩⟩ := ha.at_ (k := 0) (by simp [Ts.len])
    cases e2
    have hRM : Hid (∀ W, Below w.heap.size w W → RM ty W (.agg #[.int .i64 h.k, .int .i64 h.n, .int .i64 h.a, .slice r2 h.l.length d2, .slice r3 x.len d3]) h x) := fun W hW => ⟨r2, _, d2, r3, _, d3, rfl, hRL.on hW, hRX.on hW⟩
    unfold maxLen at hc2
    obtain ⟨z1, hz1⟩ : ∃ z, h.l.length = z := ⟨_, rfl⟩
    obtain ⟨z2, hz2⟩ : ∃ z, x.len = z := ⟨_, rfl⟩
    have v1 : U w b o = some (.int .i64 h.k) := by simpa [Ts.hd] using hu1
    have v2 : U w b (o + 1) = some (.int .i64 h.n) := by simpa [Ts.hd] using hu2
    have v3 : U w b (o + 2) = some (.int .i64 h.a) := by simpa [Ts.hd] using hu3
    have v4 : U w b (o + 3) = some (.slice r2 z1 d2) := by rw [← hz1]; simpa [Ts.hd] using hu4
    have v5 : U w b (o + 4) = some (.slice r3 z2 d3) := by rw [← hz2]; simpa [Ts.kd] using hu5
    rw [hz1, hz2] at hRM
    have H63 : Hid (∀ W, Below w.heap.size w W → Calls Tryz.prog 63 #[.agg #[.int .i64 h.k, .int .i64 h.n, .int .i64 h.a, .slice r2 z1 d2, .slice r3 z2 d3], .int .i64 0, .int .i64 0] W (MakesT h x W)) := fun W hW => by
      have := refLiftT_any h x _ 0 0 W (hRM.out W hW) hf.1 hf.2.1 (by simp only [Ts.size] at hs; omega)
      rw [Hd.lift_zero hf.1, Ts.lift_zero hf.2.1] at this
      exact this
    have HIH : Hid (∀ W, Below w.heap.size w W → Calls Tryz.prog 18 #[.slice (some ⟨b, o + 5, none⟩) r.len (c - 1)] W (MakesT (pack r).h (pack r).x W)) := fun W hW => ih _ W (hRT'.on hW) hf.2.2 (by simp only [Ts.size] at hs; omega)
    have hZ0 : ∀ o v, zeros[o]? = some v → U (w.alloc (.cells zeros 26)) w.heap.size o = some v := fun o v hv => laid_cell hv
    have up : ∀ {o : Nat} {v : Value}, U w b o = some v → U (w.alloc (.cells zeros 26)) b o = some v := fun h => U_below (below_alloc _ _) _ _ _ hb h
    cases r with
    | nil =>
      have e1 := U_cell (up v1)
      have e2 := U_cell (up v2)
      have e3 := U_cell (up v3)
      have e4 := U_cell (up v4)
      have e5 := U_cell (up v5)
      unfold zeros at e1 e2 e3 e4 e5
      clear hu1 hu2 hu3 hu4 hu5 hRL hRX ha hRT hRT' hz1 hz2 ih v1 v2 v3 v4 v5 up HIH hRM
      go_enter Tryz.func18, Tryz.ntmps18
      go_wp2_with fail
      refine (H63.out _ (below_alloc _ _)).mono ?_
      rintro e w1 ⟨s1, n1, d1, s2, n2, f2, S, rfl, hb1, ho, hn⟩
      have HB := Lib.hid (below_step (below_alloc w (.cells zeros 26)) hb1)
      have Z : Hid (∀ o v, zeros[o]? = some v → U w1 w.heap.size o = some v) := fun o v hv => U_below hb1 _ _ _ (by simp) (hZ0 o v hv)
      have HO := Lib.hid ho
      have HN := Lib.hid hn
      clear hb1 hZ0 ho hn e1 e2 e3 e4 e5
      have m0 := U_cell (Z.out 0 _ rfl)
      have m1 := U_cell (Z.out 1 _ rfl)
      have m2 := U_cell (Z.out 2 _ rfl)
      have m3 := U_cell (Z.out 3 _ rfl)
      have m4 := U_cell (Z.out 4 _ rfl)
      have o0 := U_frozen (Z.out 0 _ rfl)
      have o1 := U_frozen (Z.out 1 _ rfl)
      have o2 := U_frozen (Z.out 2 _ rfl)
      have o3 := U_frozen (Z.out 3 _ rfl)
      have o4 := U_frozen (Z.out 4 _ rfl)
      go_wp2_with fail
      obtain ⟨W, hW⟩ : ∃ W, ((((w1.setCell ⟨w.heap.size, 0, none⟩ (.int .i64 h.k)).setCell ⟨w.heap.size, 1, none⟩ (.int .i64 h.n)).setCell ⟨w.heap.size, 2, none⟩ (.int .i64 h.a)).setCell ⟨w.heap.size, 3, none⟩ (.slice s1 n1 d1)).setCell ⟨w.heap.size, 4, none⟩ (.slice s2 n2 f2) = W := ⟨_, rfl⟩
      obtain ⟨⟨x0, x1, x2, x3, x4⟩, hBF, hkW⟩ := res5 Z.out HB.out (by omega) hW
      rw [hW]
      refine bodyPost_ret (v := .agg #[.int .i64 h.k, .int .i64 h.n, .int .i64 h.a, .slice s1 n1 d1, .slice s2 n2 f2]) (by simp [results, Tryz.results18, go_sem, x0, x1, x2, x3, x4]) rfl ⟨_, _, _, _, _, _, S, rfl, hBF, ?_, HN.out⟩
      exact (HO.out.lower (by simp)).kept fun b hb => hkW b (by have := (HO.out.mem b hb).1; simp at this; omega)
    | cons h' x' r' =>
      obtain ⟨rr, hrr⟩ : ∃ rr, Ts.cons h' x' r' = rr := ⟨_, rfl⟩
      have hr0 : 0 < rr.len := by rw [← hrr]; simp [Ts.len]
      have hsp : pack (.cons h x rr) = ⟨kH 13, .cons h x (pack rr).ts⟩ := fold_step _ _ _ _ _ hr0
      rw [hrr] at hs hf HIH hc1 ⊢
      rw [hsp]
      obtain ⟨X, hX⟩ : ∃ X, rr.len = X := ⟨_, rfl⟩
      obtain ⟨TT, hTT⟩ : ∃ TT, pack rr = TT := ⟨_, rfl⟩
      rw [hX] at hr0 HIH hc1 ⊢
      rw [hTT] at HIH ⊢
      clear hu1 hu2 hu3 hu4 hu5 hRL hRX ha hRT hRT' hz1 hz2 ih hRM hrr hsp hs hf
      obtain ⟨w0, hw0⟩ : ∃ w0, w.alloc (.cells zeros 26) = w0 := ⟨_, rfl⟩
      have hb0 : Below w.heap.size w w0 := by rw [← hw0]; exact below_alloc _ _
      have hs0 : w0.heap.size = w.heap.size + 1 := by rw [← hw0]; simp
      rw [hw0] at hZ0
      have gr : ∀ {o : Nat} {v : Value}, U w b o = some v → ∀ n : GrownB w.heap.size w0, n.it.cell? ⟨b, o, none⟩ = some v := fun h => GrownB.cell (U_below hb0 _ _ _ hb h) hb
      have e1 := gr v1
      have e2 := gr v2
      have e3 := gr v3
      have e4 := gr v4
      have e5 := gr v5
      have i0 : (X : Int) + 1 ≠ 1 := by omega
      have i1 : ((X : Int) + 1 == 1) = false := by simpa using i0
      have i2 : (0 : Int) < (X : Int) + 1 := by omega
      have i3 : ((X : Int) + 1 == 0) = false := hlen X
      have HB0 := Lib.hid hb0
      have HS0 := Lib.hid hs0
      have HZ0 := Lib.hid hZ0
      have HX := Lib.hid hX
      have HTT := Lib.hid hTT
      unfold zeros at hw0
      clear v1 v2 v3 v4 v5 up hb0 hs0 gr hZ0 hX hTT hlen i0
      go_enter Tryz.func18, Tryz.ntmps18
      go_wp2_with fail
      refine wp_region_take_I w.heap.size [0, 1, 2, 4, 5] (by decide) (by kernel_rfl) (by kernel_rfl) (by kernel_rfl) (by kernel_rfl) (fun _ _ d _ _ h => by cases d <;> exact h) ?_
      simp only [List.map_cons, List.map_nil, List.getD_cons_zero, List.getD_cons_succ, bar, readKind, List.size_toArray, List.length_cons, List.length_nil, Nat.zero_add, Nat.reduceAdd, if_true, if_false, Bool.false_eq_true]
      repeat (go_big_quiet_step (fail))
      refine wpQuiet_nil ?_
      clear e1 e2 e3 e4 e5
      have hB0 : Below w.heap.size w w0.drew := below_step HB0.out (below_drew w0)
      refine tail_step (i := 3) (fuel := 3) (by kernel_rfl) rfl (by rfl) (fun K' hK => ?_)
      go_simp
      refine (H63.out _ hB0).mono ?_
      rintro e w1 ⟨s1, n1, d1, s2, n2, f2, S1, rfl, hb1, ho1, hn1⟩
      have hB1 : Below w.heap.size w w1 := below_step hB0 hb1
      have hC1 : Below w0.heap.size w0 w1 := below_step (below_drew w0) hb1
      refine hK.out _ _ ⟨⟨w1, hC1.mono (by have := HS0.out; omega)⟩, rfl⟩ (fun _ => ?_)
      clear hK K'
      refine tail_step (i := 6) (fuel := 2) (by kernel_rfl) rfl (by rfl) (fun K' hK => ?_)
      go_simp
      refine (HIH.out _ hB1).mono ?_
      rintro e w2 ⟨t1, m1, c1, t2, m2, c2, S2, rfl, hb2, ho2, hn2⟩
      have hB2 : Below w.heap.size w w2 := below_step hB1 hb2
      have hC2 : Below w0.heap.size w0 w2 := below_step hC1 hb2
      refine hK.out _ _ ⟨⟨w2, hC2.mono (by have := HS0.out; omega)⟩, rfl⟩ (fun _ => ?_)
      clear hK K'
      refine tail_step (i := 7) (fuel := 1) (by kernel_rfl) rfl (by rfl) (fun K' hK => ?_)
      go_simp
      refine (refTwo_any 13 _ _ _ _ _ _ _ _ _ _ _ _ _ _ _ _ _ _ w2).mono ?_
      rintro e w3 ⟨g, rfl, hb3, hg, hG⟩
      have hB3 : Below w.heap.size w w3 := below_step hB2 hb3
      have hC3 : Below w0.heap.size w0 w3 := below_step hC2 hb3
      refine hK.out _ _ ⟨⟨w3, hC3.mono (by have := HS0.out; omega)⟩, rfl⟩ (fun _ => ?_)
      clear hK K'
      have Z : Hid (∀ o v, zeros[o]? = some v → U w3 w.heap.size o = some v) := fun o v hv => U_below hC3 _ _ _ (by have := HS0.out; omega) (HZ0.out o v hv)
      have HB := Lib.hid hB3
      have HC := Lib.hid hC3
      have hs1 : w1.heap.size ≤ w2.heap.size := hb2.size
      have hs2 : w0.heap.size ≤ w1.heap.size := hC1.size
      have hown : Own w3 w.heap.size (tDs ty (.cons h x TT.ts)) ([.int .i64 h.k, .int .i64 h.n, .int .i64 h.a, .slice s1 n1 d1, .slice s2 n2 f2] ++ [.int .i64 TT.h.k, .int .i64 TT.h.n, .int .i64 TT.h.a, .slice t1 m1 c1, .slice t2 m2 c2]) (S1 ++ S2) :=
        Own.app ((ho2.below hb3).lower (by have := hB1.size; omega)) (((ho1.below hb2).below hb3).lower (by have := hB0.size; simpa using this))
      have hlt1 : ∀ b ∈ S1, b < w1.heap.size := fun b hb => (ho1.mem b hb).2
      have hge2 : ∀ b ∈ S2, w1.heap.size ≤ b := fun b hb => (ho2.mem b hb).1
      have hnd : (S1 ++ S2).Nodup := nodup_two w1.heap.size hn1 hn2 hlt1 hge2
      have hgS : g ∉ S1 ++ S2 := fun hm => by
        rcases List.mem_append.1 hm with hm | hm
        · have := hlt1 g hm; omega
        · have := (ho2.mem g hm).2; omega
      obtain ⟨ho3, hn3⟩ := Own.block (sz := 5) (e := 26) (n := 2) hown hnd hG (by have := hB2.size; omega) hgS rfl (by decide)
      have HO := Lib.hid (own_node (k := 13) (n := 0) (a := 0) ho3)
      have HN := Lib.hid hn3
      have HGE : Hid (∀ b ∈ [g] ++ (S1 ++ S2), w.heap.size + 1 ≤ b) := fun b hb => by
        have h0 := HS0.out
        rcases List.mem_append.1 hb with hb | hb
        · simp at hb; omega
        · rcases List.mem_append.1 hb with hb | hb
          · have := (ho1.mem b hb).1; simp at this; omega
          · have := hge2 b hb; omega
      have m0 := U_cell (Z.out 0 _ rfl)
      have m1' := U_cell (Z.out 1 _ rfl)
      have m2' := U_cell (Z.out 2 _ rfl)
      have m3 := U_cell (Z.out 3 _ rfl)
      have m4 := U_cell (Z.out 4 _ rfl)
      have o0 := U_frozen (Z.out 0 _ rfl)
      have o1 := U_frozen (Z.out 1 _ rfl)
      have o2 := U_frozen (Z.out 2 _ rfl)
      have o3 := U_frozen (Z.out 3 _ rfl)
      have o4 := U_frozen (Z.out 4 _ rfl)
      clear hb1 hb2 hb3 ho1 ho2 ho3 hn1 hn2 hn3 hB0 hB1 hB2 hB3 hC1 hC2 hC3 hs1 hs2 hown hlt1 hge2 hnd hgS hG hg
      obtain ⟨W, hW⟩ : ∃ W, ((((w3.setCell ⟨w.heap.size, 0, none⟩ (.int .i64 13)).setCell ⟨w.heap.size, 1, none⟩ (.int .i64 0)).setCell ⟨w.heap.size, 2, none⟩ (.int .i64 0)).setCell ⟨w.heap.size, 3, none⟩ (.slice none 0 0)).setCell ⟨w.heap.size, 4, none⟩ (.slice (some ⟨g, 0, none⟩) 2 2) = W := ⟨_, rfl⟩
      obtain ⟨⟨x0, x1, x2, x3, x4⟩, hBF, hkW⟩ := res5 Z.out HB.out (Nat.le_refl _) hW
      have hC0 : Below w.heap.size w0 w3 := HC.out.mono (by have := HS0.out; omega)
      have hCF : Below w.heap.size w0 W := by
        rw [← hW]
        exact ((((hC0.setCell (p := ⟨w.heap.size, 0, none⟩) (Nat.le_refl _) _).setCell (p := ⟨w.heap.size, 1, none⟩) (Nat.le_refl _) _).setCell (p := ⟨w.heap.size, 2, none⟩) (Nat.le_refl _) _).setCell (p := ⟨w.heap.size, 3, none⟩) (Nat.le_refl _) _).setCell (p := ⟨w.heap.size, 4, none⟩) (Nat.le_refl _) _
      refine tail_step (i := 8) (fuel := 0) (by kernel_rfl) rfl (by rfl) (fun K' hK => ?_)
      go_simp
      try rw [hW]
      refine hK.out _ _ ⟨⟨W, hCF⟩, rfl⟩ (fun _ => ?_)
      clear hK K'
      refine wpAnyH_done (by kernel_rfl) ?_ _
      clear m0 m1' m2' m3 m4 o0 o1 o2 o3 o4
      have HW := Lib.hid hW
      clear hW
      go_wp2_with fail
      refine bodyPost_ret (v := .agg #[.int .i64 13, .int .i64 0, .int .i64 0, .slice none 0 0, .slice (some ⟨g, 0, none⟩) 2 2]) (by simp [results, Tryz.results18, go_sem, x0, x1, x2, x3, x4]) rfl ⟨_, _, _, _, _, _, _, rfl, hBF, HO.out.kept (fun b hb => hkW b (by have := HGE.out b hb; omega)), HN.out⟩
end Go.Proofs.YtkcmapimcgppmaaGreatDoor
end
section
namespace Go.Proofs.YtkcmapimcgppmaaGreatDoor
open Go.RowKit

section
variable {P : Program} {G : World → Prop} {tb : TB} {N : Nat} {Q : Exit → St → Prop} {st : St}
/-- The code behind, and then. -/
def seqK (P : Program) (G : World → Prop) (tb : TB) (N : Nat) (y : Code) (Q : Exit → St → Prop) : Exit → St → Prop := thenK (acode P G tb N y Q) Q
theorem seqK_n {y : Code} : seqK P G tb N y Q .normal st = acode P G tb N y Q st := rfl
theorem seqK_r {y : Code} : seqK P G tb N y Q .ret st = Q .ret st := rfl
theorem seqK_e {y : Code} {i : Nat} : seqK P G tb N y Q (.exit i) st = Q (.exit i) st := rfl
/-- What is left at a call. -/
def AskO (P : Program) (G : World → Prop) (tb : TB) (N : Nat) (ops : Array Oper) (os : List Oper) (K : Exit → St → Prop) (o : Oper) (f : Nat) (args : AV) (st : St) : Prop := Ask P G o f args (vops P G tb N ops os K) st
theorem asks {ops : Array Oper} {os : List Oper} {K : Exit → St → Prop} {o : Oper} {f : Nat} {args ps res : AV} (h : Holds P G f ps res) (ha : args.arg st.bx ps) (hn : st.τ (nmOf o) = none) (k : vops P G tb N ops os K (st.out o { av := res.ren (nmOf o), tu := some (nmOf o, 0) })) : AskO P G tb N ops os K o f args st := ask h ha hn k
theorem ac_skip : acode P G tb N .skip Q st = Q .normal st := rfl
theorem ac_label {l : Nat} : acode P G tb N (.label l) Q st = Q .normal st := rfl
theorem ac_region {i : Nat} {ops : Array Oper} {d : Bool} : acode P G tb N (.region i ops d) Q st = ((d = true → ordOk ops = true) ∧ vops P G tb N ops ops.toList Q st) := rfl
theorem ac_seq {x y : Code} : acode P G tb N (.seq x y) Q st = acode P G tb N x (seqK P G tb N y Q) st := rfl
theorem ac_cond {c : Operand} {x y : Code} : acode P G tb N (.cond c x y) Q st = match ev st N c with
    | .v (.bool b) => if b = true then acode P G tb N x Q st else acode P G tb N y Q st
    | _ => False := rfl
theorem ac_block {i : Nat} {c : Code} : acode P G tb N (.block i c) Q st = acode P G tb N c (blkK i Q) st := rfl
theorem ac_loop {c : Code} : acode P G tb N (.loop c) Q st = ALoop P G N c Q st := rfl
theorem ac_exit {i : Nat} : acode P G tb N (.exit i) Q st = Q (.exit i) st := rfl
theorem ac_ret : acode P G tb N .ret Q st = Q .ret st := rfl
theorem vo_nil {ops : Array Oper} : vops P G tb N ops [] Q st = Q .normal st := rfl
theorem vo_cons {ops : Array Oper} {o : Oper} {os : List Oper} : vops P G tb N ops (o :: os) Q st =
    let go := match callOf o.op with
      | some (fo, xs) => match calleeOf (ev st N fo) with
        | some (f, x, y) => (x.isLL = true ∧ y.isLL = true) ∧ AskO P G tb N ops os Q o f (x.app ((AV.list (xs.map (ev st N))).app y)) st
        | none => False
      | none => match vout tb N o st with
        | some (c, r) => c ∧ vops P G tb N ops os Q (st.out o r)
        | none => False
    match o.guard with
    | none => go
    | some (j, want) => match (ops[j]?).bind (·.dst) with
      | some d => match ev st N (.tmp d) with
        | .v (.bool b) => if b = want then go else vops P G tb N ops os Q (st.out o { av := .v undef })
        | _ => False
      | none => False := rfl
end
theorem stKA : Stays KA := fun _ _ hb h => ⟨Nat.lt_of_lt_of_le h.1 hb.size, fun k hk => (hb.cell (p := ⟨0, k * 5 + 4, none⟩) h.1).trans (h.2 k hk)⟩
/-- No name in it. -/
def Dc.bare : Dc → Bool
  | .nil => true
  | .lit _ r => r.bare
  | .nilr _ _ r => r.bare
  | .row _ _ _ _ r => r.bare
  | .seg _ _ r => r.bare
  | .blk _ _ _ _ _ _ => false
def AV.bare : AV → Bool
  | .c d => d.bare
  | .agg d => d.bare
  | .bx _ _ => false
  | .cons a r => a.bare && r.bare
  | .tup l => l.bare
  | .fn _ a b => a.bare && b.bare
  | _ => true
theorem Dc.bare_ok {d : Dc} (h : d.bare = true) (τ : Nat → Option Nat) : d.ok τ := by
  induction d with
  | nil => trivial
  | lit v r ih => exact ih h
  | nilr sz e r ih => exact ih h
  | row k sz e x r ih => exact ih h
  | seg k d r ih => exact ih h
  | blk k v sz e x r _ _ => cases h
theorem AV.bare_ok {a : AV} (h : a.bare = true) (bx : Nat → Option (Nat × Dc)) (τ : Nat → Option Nat) : a.ok bx τ := by
  induction a with
  | c d => exact Dc.bare_ok h τ
  | agg d => exact Dc.bare_ok h τ
  | bx k o => cases h
  | cons a r iha ihr => simp only [AV.bare, Bool.and_eq_true] at h; exact ⟨iha h.1, ihr h.2⟩
  | tup l ih => exact ih h
  | fn f a b iha ihb => simp only [AV.bare, Bool.and_eq_true] at h; exact ⟨iha h.1, ihb h.2⟩
  | _ => trivial
/-- A contract of a function of this program. -/
abbrev HH (f : Nat) (ps : List AV) (r : AV) : Prop := Holds Tryz.prog KA f (.list ps) r
theorem ab {f : Nat} {fn : Func} {c : Code} {l : List AV} {r : AV} {N : Nat} {rs : Array ResultVar} (hf : Tryz.prog.funcs[f]? = some fn) (hN : fn.ntmps = N) (hrs : fn.results = rs) (hb : fn.body = some c) (hname : fn.name ≠ "runtime.NumGoroutine")
    (hl : l.length ≤ N) (ho : (l.all AV.bare) = true) (hr : (r.plain && r.still && r.flat) = true) (h : acode Tryz.prog KA tb N c (retK tb N rs.toList r) (startSt l)) : HH f l r := by
  subst hN hrs
  simp only [Bool.and_eq_true] at hr
  exact holds_of tbOk stKA mixed hf hb hname hl (fun a ha => AV.bare_ok (List.all_eq_true.1 ho a ha) _ _) hr.1.1 hr.1.2 hr.2 h
theorem lp {α : Type} (I : α → St) (μ : α → Nat) (x0 : α) {c : Code} {Q : Exit → St → Prop} {st : St} {N : Nat} (h0 : Le KA N st (I x0)) (hr : ∀ x, acode Tryz.prog KA tb N c (loopK KA N I μ x Q) (I x)) : ALoop Tryz.prog KA N c Q st := aloop tbOk stKA mixed I μ x0 h0 hr

theorem ty_p : ty.p = 77 := rfl
theorem ty_l : ty.l = 43 := rfl
theorem ty_t : ty.t = 26 := rfl
/-- Terms as cells; a row of them. -/
def tmC (k j : Option Tk) (h : Hd) (x : Ts) : Dc := .lit (.int .i64 h.k) (.lit (.int .i64 h.n) (.lit (.int .i64 h.a) (.row k 1 43 (lvDs ty h.l) (.row j 5 26 (tDs ty x) .nil))))
def tmA (k j : Option Tk) (t : Tm) : AV := .agg (tmC k j t.h t.x)
def tsA (k : Option Tk) (t : Ts) : AV := .c (.row k 5 26 (tDs ty t) .nil)
def iA (n : Int) : AV := .v (.int .i64 n)
/-- An owned, a lent one. -/
abbrev tmO (t : Tm) : AV := tmA (some (0, 0)) (some (0, 1)) t
abbrev tmL (t : Tm) : AV := tmA none none t
theorem tmA_rm {F : Mem} {w : World} {t : Tm} {v : Value} (hF : ∀ b o v, F b o = some v → U w b o = some v) (h : RepV (argGh F w) (tmL t) [v]) : RM ty w v t.h t.x := by
  obtain ⟨ys, e, h⟩ := h
  obtain ⟨-, _, rfl, -, _, rfl, -, _, rfl, -, v1, _, rfl, h1, -, -, v2, _, rfl, h2, -, rfl⟩ := h
  cases e
  obtain ⟨p, n, c, rfl, -⟩ := id h1
  obtain ⟨p', n', c', rfl, -⟩ := id h2
  exact ⟨p, n, c, p', n', c', rfl, h1.mono (fun b o v _ hv => hF b o v hv) (Nat.le_refl _), h2.mono (fun b o v _ hv => hF b o v hv) (Nat.le_refl _)⟩
theorem tsA_rt {F : Mem} {w : World} {t : Ts} {v : Value} (hF : ∀ b o v, F b o = some v → U w b o = some v) (h : RepV (argGh F w) (tsA none t) [v]) : RT ty w v t := by
  obtain ⟨-, v1, _, e, h1, -⟩ := h
  cases e
  exact h1.mono (fun b o v _ hv => hF b o v hv) (Nat.le_refl _)
theorem lvDs_good (l : List Lv) : (lvDs ty l).good := by
  have hp : ∀ p : Lv, (ptDs p).good := fun p => by
    induction p with
    | nil => trivial
    | cons a r ih => exact ⟨rfl, rfl, ih⟩
  induction l with
  | nil => trivial
  | cons a r ih => exact ⟨hp a, trivial, ih⟩
theorem tDs_good (t : Ts) : (tDs ty t).good := by
  induction t with
  | nil => trivial
  | cons h x r ihx ih => exact ⟨rfl, rfl, rfl, lvDs_good _, trivial, ihx, trivial, ih⟩
theorem Vs.res {F : Mem} {w w' : World} {fp : Tk → List Nat} {base : Nat} (hbs : w.heap.size ≤ base) {x : Ds} {xs : List Value} {S : List Nat} (h : Own w' base x xs S) : Vs (resGh F w w' fp).F w'.heap.size x xs := by
  have key : ∀ (x : Ds) (xs : List Value) (S : List Nat), Own w' base x xs S → Vs (resGh F w w' fp).F w'.heap.size x xs := by
    intro x
    induction x with
    | nil => rintro xs S ⟨rfl, -⟩; rfl
    | lit v r ih => rintro xs S ⟨ys, e, h⟩; exact ⟨ys, e, ih _ _ h⟩
    | row sz e x s r ihx ihs ihr =>
      rintro xs S ⟨v, ys, zs, us, B, S1, S2, S3, e1, h1, h2, h3, h4, rfl⟩
      refine ⟨v, ys, e1, ?_, ihr _ _ h4⟩
      have hv := ihx _ _ h2
      have hl := h2.len
      have hu := ihs _ _ h3
      have hul := h3.len
      rcases h1 with ⟨p, rfl, h5, h6, rfl⟩ | ⟨g, n, cap, cur, rfl, rfl, hbg, h5, h6, h7, h8, h9, h10, h11, h12⟩
      · obtain ⟨rfl, rfl⟩ := List.append_eq_nil_iff.1 h6
        have hs : s.len = 0 := by simpa using hul.symm
        refine ⟨p, 0, 0, rfl, by omega, Nat.le_refl _, Nat.zero_le _, by omega, ?_⟩
        by_cases hp : p = none
        · exact .inl ⟨hp, rfl⟩
        · exact .inr (.inl ⟨rfl, hs, hp⟩)
      · have hc : ∀ j u, (zs ++ us)[j]? = some u → (resGh F w w' fp).F g (0 + j) = some u := fun j u hu => by
          show (if g < w.heap.size then F g (0 + j) else U w' g (0 + j)) = some u
          rw [if_neg (by omega)]
          exact row_cell h5 h12 j u hu
        refine ⟨_, n, cap, rfl, by omega, h6, h7, by rw [← hl, ← hul, ← List.length_append]; exact h11, .inr (.inr ⟨g, 0, rfl, (Array.getElem?_eq_some_iff.1 h5).1, hv.at_ (fun j u hj => hc j u ?_), hu.at_ (fun j u hj => ?_)⟩)⟩
        · rw [List.getElem?_append_left (List.getElem?_eq_some_iff.1 hj).1]; exact hj
        · have := hc (x.len + j) u (by rw [← hl, List.getElem?_append_right (by omega)]; simpa using hj)
          rw [← Nat.add_assoc] at this; exact this
  exact key x xs S h
/-- What hands back a term of its own. -/
theorem holds_tm {f : Nat} {ps : List AV} {t : Tm} (hc : IsCode Tryz.prog f) (h : ∀ (F : Mem) (w : World) (vs : List Value), (∀ b o v, F b o = some v → U w b o = some v) → KA w → RepV (argGh F w) (.list ps) vs → Calls Tryz.prog f vs.toArray w (MakesT t.h t.x w)) : HH f ps (tmO t) := by
  refine ⟨hc, rfl, fun F w vs hF hG hv => (h F w vs hF hG hv).mono ?_⟩
  rintro e w' ⟨r, m, d, r', m', d', S, rfl, hb, ho, hn⟩
  obtain ⟨_, e0, _, e1, _, e2, v1, _, z1, u1, B1, S1, S2, S3, e3, ho1, ho2, ho3, ⟨v2, _, z2, u2, B2, T1, T2, T3, e4, hp1, hp2, hp3, hp4, rfl⟩, rfl⟩ := ho
  cases e0
  cases e1
  cases e2
  cases e3
  cases e4
  have hl : Own w' w.heap.size (.row 1 43 (lvDs ty t.h.l) .nil .nil) [.slice r m d] (B1 ++ (S1 ++ (S2 ++ []))) := ⟨_, [], z1, u1, B1, S1, S2, [], rfl, ho1, ho2, ho3, ⟨rfl, rfl⟩, rfl⟩
  have hx : Own w' w.heap.size (.row 5 26 (tDs ty t.x) .nil .nil) [.slice r' m' d'] (B2 ++ (T1 ++ (T2 ++ []))) := ⟨_, [], z2, u2, B2, T1, T2, [], rfl, hp1, hp2, hp3, ⟨rfl, rfl⟩, rfl⟩
  have hS3 : T3 = [] := hp4.2
  subst hS3
  have hn' : ((B1 ++ (S1 ++ (S2 ++ []))) ++ (B2 ++ (T1 ++ (T2 ++ [])))).Nodup := by simpa [List.append_assoc] using hn
  obtain ⟨n1, n2, n3⟩ := List.nodup_append.1 hn'
  let fp : Tk → List Nat := fun k => if k = (0, 0) then B1 ++ (S1 ++ (S2 ++ [])) else if k = (0, 1) then B2 ++ (T1 ++ (T2 ++ [])) else []
  refine ⟨_, fp, rfl, hb, ⟨_, rfl, rfl, _, rfl, rfl, _, rfl, rfl, _, rfl, lvDs_good _, _, _, rfl, ?_, ?_, tDs_good _, _, _, rfl, ?_, ?_, rfl⟩, fun k b hb' => ?_, fun k k' b h1 h2 => ?_⟩
  · obtain ⟨_, _, e, h1, -⟩ := Vs.res (F := F) (fp := fp) (Nat.le_refl _) hl
    cases e; exact h1
  · intro j e
    cases e
    exact ⟨rfl, _, hl, n1, fun b hb => hb⟩
  · obtain ⟨_, _, e, h1, -⟩ := Vs.res (F := F) (fp := fp) (Nat.le_refl _) hx
    cases e; exact h1
  · intro j e
    cases e
    exact ⟨rfl, _, hx, n2, fun b hb => hb⟩
  · have : b ∈ fp k := hb'
    simp only [fp] at this
    split at this
    · exact hl.mem b this
    · split at this
      · exact hx.mem b this
      · cases this
  · have two : ∀ (x : Nat) (k : Tk), x ∈ fp k → (k = (0, 0) ∧ x ∈ B1 ++ (S1 ++ (S2 ++ []))) ∨ (k = (0, 1) ∧ x ∈ B2 ++ (T1 ++ (T2 ++ []))) := fun x k hx => by
      simp only [fp] at hx
      split at hx
      · exact .inl ⟨by assumption, hx⟩
      · split at hx
        · exact .inr ⟨by assumption, hx⟩
        · cases hx
    rcases two b k h1 with ⟨rfl, m1⟩ | ⟨rfl, m1⟩ <;> rcases two b k' h2 with ⟨rfl, m2⟩ | ⟨rfl, m2⟩
    · rfl
    · exact absurd rfl (n3 b m1 b m2)
    · exact absurd rfl (n3 b m2 b m1)
    · rfl
/-- A list of values, one by one. -/
theorem list1 {g : Gh} {a : AV} {vs : List Value} (h : RepV g (.list [a]) vs) : ∃ v, vs = [v] ∧ RepV g a [v] := by
  obtain ⟨y, ys, rfl, h1, rfl⟩ := h
  exact ⟨y, rfl, h1⟩
theorem list2 {g : Gh} {a b : AV} {vs : List Value} (h : RepV g (.list [a, b]) vs) : ∃ u v, vs = [u, v] ∧ RepV g a [u] ∧ RepV g b [v] := by
  obtain ⟨y, ys, rfl, h1, z, _, rfl, h2, rfl⟩ := h
  exact ⟨y, z, rfl, h1, h2⟩
theorem list3 {g : Gh} {a b c : AV} {vs : List Value} (h : RepV g (.list [a, b, c]) vs) : ∃ u v w, vs = [u, v, w] ∧ RepV g a [u] ∧ RepV g b [v] ∧ RepV g c [w] := by
  obtain ⟨y, ys, rfl, h1, z, _, rfl, h2, x, _, rfl, h3, rfl⟩ := h
  exact ⟨y, z, x, rfl, h1, h2, h3⟩
theorem iA_eq {g : Gh} {n : Int} {v : Value} (h : RepV g (iA n) [v]) : v = .int .i64 n := by simpa [RepV, iA] using h
theorem code_of {f : Nat} {fn : Func} (hf : Tryz.prog.funcs[f]? = some fn) (h1 : fn.name ≠ "runtime.NumGoroutine") (h2 : fn.body.isNone = false) : IsCode Tryz.prog f := ⟨fn, hf, h1, fun e => by rw [e] at h2; cases h2⟩
def Tm.fits (t : Tm) : Prop := t.h.fits ∧ t.x.fits
def Tm.size (t : Tm) : Nat := lvSize t.h.l + t.x.size
def Tm.lift (t : Tm) (n f : Int) : Tm := ⟨t.h.lift n f 0, t.x.lift n f t.h.k 0 0⟩
theorem h63 (t : Tm) (n f : Int) (hf : t.fits) (hs : t.size ≤ 2000000) : HH 63 [tmL t, iA n, iA f] (tmO (t.lift n f)) :=
  holds_tm (code_of Tryz.func63 (by decide) rfl) fun F w vs hF _ hv => by
    obtain ⟨u, v, z, rfl, h1, h2, h3⟩ := list3 hv
    rw [iA_eq h2, iA_eq h3]
    exact refLiftT_any t.h t.x u n f w (tmA_rm hF h1) hf.1 hf.2 hs
theorem h60 (t : Tm) (n f : Int) (hf : t.fits) (hs : t.size ≤ 1000000) : HH 60 [tmL t, iA n, iA f] (tmO (t.lift n f)) :=
  holds_tm (code_of Tryz.func60 (by decide) rfl) fun F w vs hF hG hv => by
    obtain ⟨u, v, z, rfl, h1, h2, h3⟩ := list3 hv
    rw [iA_eq h2, iA_eq h3]
    exact liftT_any t.h t.x u n f w (tmA_rm hF h1) hf.1 hf.2 (Nat.le_trans hs (by decide)) hG
theorem Tm.lift0 {t : Tm} (h : t.fits) : t.lift 0 0 = t := by
  obtain ⟨a, b⟩ := t
  show Tm.mk _ _ = Tm.mk _ _
  rw [Hd.lift_zero h.1, Ts.lift_zero h.2]
theorem h63' (t : Tm) (hf : t.fits) (hs : t.size ≤ 2000000) : HH 63 [tmL t, iA 0, iA 0] (tmO t) := by
  have := h63 t 0 0 hf hs
  rwa [Tm.lift0 hf] at this
theorem h60' (t : Tm) (hf : t.fits) (hs : t.size ≤ 1000000) : HH 60 [tmL t, iA 0, iA 0] (tmO t) := by
  have := h60 t 0 0 hf hs
  rwa [Tm.lift0 hf] at this
theorem h17 (t : Ts) (hf : t.fits) (hs : t.size ≤ 2000000) : HH 17 [tsA none t] (tmO (tup t)) :=
  holds_tm (code_of Tryz.func17 (by decide) rfl) fun F w vs hF _ hv => by
    obtain ⟨u, rfl, h1⟩ := list1 hv
    exact refTup_any t u w (tsA_rt hF h1) hf hs
theorem h18 (t : Ts) (hf : t.fits) (hs : t.size ≤ 2000000) : HH 18 [tsA none t] (tmO (pack t)) :=
  holds_tm (code_of Tryz.func18 (by decide) rfl) fun F w vs hF _ hv => by
    obtain ⟨u, rfl, h1⟩ := list1 hv
    exact refPack_any t u w (tsA_rt hF h1) hf hs
theorem h12 (t : Ts) (hf : t.fits) (hs : t.size ≤ 1000000) : HH 12 [tsA none t] (tmO (tup t)) :=
  holds_tm (code_of Tryz.func12 (by decide) rfl) fun F w vs hF hG hv => by
    obtain ⟨u, rfl, h1⟩ := list1 hv
    exact tup_any t u w (tsA_rt hF h1) hf hs hG
theorem h13 (t : Ts) (hf : t.fits) (hs : t.size ≤ 1000000) : HH 13 [tsA none t] (tmO (pack t)) :=
  holds_tm (code_of Tryz.func13 (by decide) rfl) fun F w vs hF hG hv => by
    obtain ⟨u, rfl, h1⟩ := list1 hv
    exact pack_any t u w (tsA_rt hF h1) hf hs hG
end Go.Proofs.YtkcmapimcgppmaaGreatDoor
end
section
set_option linter.unusedVariables false
namespace Go.Proofs.YtkcmapimcgppmaaGreatDoor
open Go.RowKit

section
variable {H : Type} {enc : TypeId × Value → H} {W : World} {held : Bool}
end
end Go.Proofs.YtkcmapimcgppmaaGreatDoor
end
section
set_option linter.unusedVariables false
namespace Go.Proofs.YtkcmapimcgppmaaGreatDoor
open Go.RowKit

theorem cells265' : Tryz.prog.cellsOf 265 = 5 := by kernel_rfl
theorem gTab : Tryz.prog.globalNamed "spandrel/term.kinds" = some 0 := by kernel_rfl
theorem gTabType : (Tryz.prog.globals[0]?).map (·.type) = some 266 := by kernel_rfl
theorem array_at {H : Type} {enc : TypeId × Value → H} {P : Program} {w : World} {base : Nat} {sp : Nat → Bool} {held : Bool} {fuel : Nat} {t e : TypeId} {n sz : Nat} {cs : List Value} {x : DataW H × List MemPlace}
    (ht : P.underlying t = some (.array n e)) (hce : P.cellsOf e = sz) (h : DataW.trod enc P w base sp held fuel t cs = some x) :
    ∃ xs : List (DataW H × List MemPlace), x.1 = .agg (xs.map (·.1)) ∧ ∀ i, i < n → ∃ y fuel', xs[i]? = some y ∧ DataW.trod enc P w base sp held fuel' e ((cs.drop (i * sz)).take sz) = some y := by
  cases fuel with
  | zero => simp [DataW.trod] at h
  | succ fuel =>
    simp only [DataW.trod, ht, hce] at h
    split at h
    · obtain ⟨xs, hm, rfl⟩ := Option.map_eq_some_iff.1 h
      refine ⟨xs, rfl, fun i hi => ?_⟩
      obtain ⟨b, hb, hf⟩ := Lib.mapM_at hm i i (by simp [hi])
      exact ⟨b, fuel, hb, hf⟩
    · cases h
def kindD (a b : Bool) (x y z : Int) : DataW Unit := .agg [.lit (.bool a), .lit (.bool b), .lit (.int .i64 x), .lit (.int .i64 y), .lit (.int .i64 z)]
theorem row_bound {w : World} {fuel : Nat} {cs : List Value} {x : DataW Unit × List MemPlace} {a b : Bool} {i j k : Int} (h : DataW.trod (fun _ => ()) Tryz.prog w 0 (fun _ => true) false fuel 265 cs = some x) (hx : x.1 = kindD a b i j k) : cs[4]? = some (.int .i64 k) := by
  obtain ⟨xs, n', rfl, rfl, hl, hxs, hf⟩ := DataW.trod_struct Tryz.underlying265 h
  rw [cells265'] at hl
  obtain ⟨c0, c1, c2, c3, c4, rfl⟩ := five_of hl
  obtain ⟨x0, x1, x2, x3, x4, rfl⟩ := five_of hxs
  have h4 : DataW.trod (fun _ => ()) Tryz.prog w 0 (fun _ => true) false n' 3 (([c0, c1, c2, c3, c4].drop 4).take (Tryz.prog.cellsOf 3)) = some x4 := hf 4 _ rfl
  rw [cells3'] at h4
  obtain ⟨k', e0, rfl, -⟩ := DataW.trod_int Tryz.underlying3 h4
  cases e0
  simp [kindD] at hx
  simp [hx]
theorem ka_of {W : World} (h : laidMetH Tryz.prog Rows.codesTuplesUptoRow.laid W) : KA W := by
  have h' : laidMet Tryz.prog [("spandrel/term.kinds", Rows.laid_spandrel_term_kinds)] W := h
  obtain ⟨ps, ⟨g', t', cs, fuel, p, q, hg', ht', hvar, hd, _, _⟩, _⟩ := h'
  obtain rfl := Option.some.inj (gTab.symm.trans hg')
  obtain rfl := Option.some.inj (gTabType.symm.trans ht')
  obtain ⟨xs, hx, hat⟩ := array_at Tryz.underlying266 cells265' hd
  have hcell : ∀ k : Nat, k < 25 → cs[k * 5 + 4]? = some (.int .i64 (bounds.getD k 0)) := by
    have hxs : xs.map (·.1) = [kindD false false 0 0 0, kindD true false 0 0 (-1), kindD false false 1 0 (-1), kindD true false (-1) 0 (-1), kindD false false 0 2 1, kindD false false 0 2 1, kindD false false 0 2 (-1), kindD false false 0 3 2, kindD true true (-1) 0 (-1), kindD true true (-1) 0 (-1), kindD true true (-1) 0 (-1), kindD false true 0 0 (-1), kindD false false 0 2 1, kindD false false 0 2 (-1), kindD false false 0 1 (-1), kindD false false 0 1 (-1), kindD false false 0 2 1, kindD false false 0 2 (-1), kindD false false 0 5 1, kindD false false 0 3 (-1), kindD false false 0 0 (-1), kindD false false 0 6 (-1), kindD true false 0 0 (-1), kindD true true 0 0 (-1), kindD false true 0 2 (-1)] := by
      have : Rows.laid_spandrel_term_kinds = DataW.agg (xs.map (·.1)) := hx
      unfold Rows.laid_spandrel_term_kinds at this
      exact (DataW.agg.inj this).symm
    have one : ∀ (k : Nat) (a b : Bool) (i j z : Int), k < 25 → (xs.map (·.1))[k]? = some (kindD a b i j z) → cs[k * 5 + 4]? = some (.int .i64 z) := fun k a b i j z hk he => by
      obtain ⟨y, fuel', h1, h2⟩ := hat k hk
      simp only [List.getElem?_map, h1, Option.map_some, Option.some.injEq] at he
      have := row_bound h2 he
      rw [List.getElem?_take, if_pos (by decide), List.getElem?_drop, Array.getElem?_toList] at this
      exact this
    intro k hk
    rw [hxs] at one
    have hall : k = 0 ∨ k = 1 ∨ k = 2 ∨ k = 3 ∨ k = 4 ∨ k = 5 ∨ k = 6 ∨ k = 7 ∨ k = 8 ∨ k = 9 ∨ k = 10 ∨ k = 11 ∨ k = 12 ∨ k = 13 ∨ k = 14 ∨ k = 15 ∨ k = 16 ∨ k = 17 ∨ k = 18 ∨ k = 19 ∨ k = 20 ∨ k = 21 ∨ k = 22 ∨ k = 23 ∨ k = 24 := by omega
    rcases hall with rfl | rfl | rfl | rfl | rfl | rfl | rfl | rfl | rfl | rfl | rfl | rfl | rfl | rfl | rfl | rfl | rfl | rfl | rfl | rfl | rfl | rfl | rfl | rfl | rfl <;> exact one _ _ _ _ _ _ hk rfl
  have hc : ∀ k : Nat, k < 25 → W.cell? ⟨0, k * 5 + 4, none⟩ = some (.int .i64 (bounds.getD k 0)) := fun k hk => by
    rw [World.var?_cell gTab hvar]; exact hcell k hk
  exact ⟨World.block_lt_of_cell? W ⟨0, 0 * 5 + 4, none⟩ (hc 0 (by decide)), hc⟩
end Go.Proofs.YtkcmapimcgppmaaGreatDoor
end
section
set_option linter.unusedVariables false
namespace Go.Proofs.YtkcmapimcgppmaaGreatDoor
open Go.ChangeShapes Go.WideShapes Go.ChangeAt Go.RowKit

theorem own_knob : ownKnob Tryz.prog.godebug = none := by kernel_rfl

section
variable {H : Type} {enc : TypeId × Value → H} {P : Program}
/-- A law's answer, where nothing that lay has turned: the arguments read as they read, through the same places. -/
theorem law_post {f : Func} {s : ChangeSpec} {fresh handsOn again : Bool} {W W' : World} {args : Array Value} {v : Value} {ds gs : List (DataW H)} {before : List MemPlace}
    (hW : DataW.Whole enc P f.params.toList s.vars false W args.toList ds gs before) (hb : Below W.heap.size W W')
    (hres : ∀ (b : Nat) (sp : Nat → Bool) (hd : Bool), DataW.TrodAll enc P W' b sp hd f.resultTypes.toList (v.resultList f.resultTypes.size) (s.fn H (ds ++ gs)).results [])
    (hargs : ∀ sp : Nat → Bool, (∀ p ∈ before, sp p.block = true) → DataW.TrodAll enc P W' 0 sp true f.params.toList args.toList (s.fn H (ds ++ gs)).args before)
    (hvars : ∀ sp : Nat → Bool, DataW.TrodVars enc P W' sp s.vars (s.fn H (ds ++ gs)).vars [])
    (hok : ∀ (j : Nat) (t : TypeId) (r : Value), f.resultTypes[j]? = some t → (v.resultList f.resultTypes.size)[j]? = some r → Value.okWide P W' .any 0 t r) :
    s.post enc P f false fresh handsOn again W args v W' := by
  have hlt : ∀ p ∈ before, p.block < W.heap.size := fun p hp => hW.lt p hp
  have hz := hW
  obtain ⟨_, _, _, _, _, hz, _⟩ := hz
  refine ⟨ds, gs, before, [], before, [], hW, hres _ _ _, hargs (fun b => decide (b < W.heap.size)) (fun p hp => by simpa using hlt p hp), hvars _, World.keptBut_mono (fun p hp => ⟨hp, ?_⟩) (hb.frame (· ∈ before)), fun _ => ⟨hok, _, _, [] ++ before ++ [], ⟨[] ++ before, [], trodAll_append (hargs _ (fun _ _ => rfl)) (hres _ _ _), hvars _, rfl, fun b off hp => ?_, fun h => (by cases h)⟩, fun p hp _ => by simpa using hp⟩⟩
  · simpa using hp
  · have hin : MemPlace.cell b off ∈ before := by simpa using hp
    rw [hb.frozen (hlt _ hin)]
    exact hz b off hin
end

/-- A block's cells, laid anew. -/
def relaid (h : Array Obj) (b : Nat) (vs : Array Value) : Array Obj := h.modify b fun
  | .cells _ t frozen => .cells vs t frozen
  | o => o
def kindRow (a b : Bool) (x y z : Int) : List Value := [.bool a, .bool b, .int .i64 x, .int .i64 y, .int .i64 z]
def kindCells : Array Value := (kindRow false false 0 0 0 ++ kindRow true false 0 0 (-1) ++ kindRow false false 1 0 (-1) ++ kindRow true false (-1) 0 (-1) ++ kindRow false false 0 2 1 ++ kindRow false false 0 2 1 ++ kindRow false false 0 2 (-1) ++ kindRow false false 0 3 2 ++ kindRow true true (-1) 0 (-1) ++ kindRow true true (-1) 0 (-1) ++ kindRow true true (-1) 0 (-1) ++ kindRow false true 0 0 (-1) ++ kindRow false false 0 2 1 ++ kindRow false false 0 2 (-1) ++ kindRow false false 0 1 (-1) ++ kindRow false false 0 1 (-1) ++ kindRow false false 0 2 1 ++ kindRow false false 0 2 (-1) ++ kindRow false false 0 5 1 ++ kindRow false false 0 3 (-1) ++ kindRow false false 0 0 (-1) ++ kindRow false false 0 6 (-1) ++ kindRow true false 0 0 (-1) ++ kindRow true true 0 0 (-1) ++ kindRow false true 0 2 (-1)).toArray
/-- A world for the witness: the settled one, the table laid. -/
noncomputable def laidWorld (os : Os) : World :=
  { World.holding Tryz.prog os ⟨#[], #[], []⟩ with heap := relaid (World.holding Tryz.prog os ⟨#[], #[], []⟩).heap 0 kindCells }
set_option maxRecDepth 100000
section
variable {H : Type} {enc : TypeId × Value → H} {W W' : World}
end
end Go.Proofs.YtkcmapimcgppmaaGreatDoor
end
