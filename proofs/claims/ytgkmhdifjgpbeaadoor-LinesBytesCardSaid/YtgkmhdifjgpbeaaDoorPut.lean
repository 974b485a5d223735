/-
  The program's put: a tree at the end of the last open row. Conditions: rows no longer than 1000000.
-/
import Derived.Test.YtgkmhdifjgpbeaaDoorStk
import Derived.Test.YtgkmhdifjgpbeaaDoorCopied
import Derived.Deep.RegionLaw
import Derived.Deep.AppendLies
namespace Go.Proofs.YtgkmhdifjgpbeaaDoor
open Go.RowKit

def PutSays (X : List Nat) (w : World) (base : Nat) (e eo : TypeId) (g c : Nat) (vs : List Value) (v : Value) (ts : List Ts) (t x : Ts) (wd : ByteArray) (w' : World) : Prop :=
  ∃ v', StkT X w' base e eo (.slice (some ⟨g, 0, none⟩) (vs.length + 1) c) (vs ++ [v']) (ts ++ [t.snoc wd x]) ∧
      Mv (blocks (.slice (some ⟨g, 0, none⟩) (vs.length + 1) c) (vs ++ [v])) w w' ∧
      ∀ b ∈ blocks (.slice (some ⟨g, 0, none⟩) (vs.length + 1) c) (vs ++ [v']), b ∈ blocks (.slice (some ⟨g, 0, none⟩) (vs.length + 1) c) (vs ++ [v]) ∨ w.heap.size ≤ b

set_option maxRecDepth 100000 in
set_option maxHeartbeats 4000000 in
theorem put_any (X : List Nat) (w : World) (base g c : Nat) (v : Value) (p : Option Addr) (nk ck : Nat) (t x : Ts) (wd : ByteArray) (vs : List Value) (ts : List Ts)
    (h : StkT X w base 41 23 (.slice (some ⟨g, 0, none⟩) (vs.length + 1) c) (vs ++ [v]) (ts ++ [t]))
    (hw : wd.size ≤ 140737488355328) (hk : Sl (Fx w (X ++ blocks (.slice (some ⟨g, 0, none⟩) (vs.length + 1) c) (vs ++ [v]))) base w.heap.size (.slice p nk ck) x) (hl : vs.length ≤ 1000000) (ht : t.len ≤ 1000000) :
    Calls Tryd.prog 53 #[.slice (some ⟨g, 0, none⟩) (vs.length + 1) c, .agg #[.string wd, .slice p nk ck]] w fun e w' => e = .returned (.tuple #[]) ∧ PutSays X w base 41 23 g c vs v ts t x wd w' := by
  obtain ⟨i0, hi0, hz0, hz1, hz2⟩ := info_parts info41
  have H := Lib.hid h
  have HK := Lib.hid hk
  have HW := Lib.hid hw
  obtain ⟨xs, hr, hc⟩ := h.last
  have HC := Lib.hid hc
  have hxs := hc.len
  have hvb := hr.lt
  have hvs : ∃ pv cv, v = .slice pv t.len cv := by
    rcases hr.2 with ⟨rfl, h0⟩ | ⟨gv, cap, cur, rfl, _⟩
    · exact ⟨none, 0, by rw [h0]⟩
    · exact ⟨_, _, rfl⟩
  obtain ⟨pv, cv, rfl⟩ := hvs
  have htop := h.top
  rw [List.length_append, List.length_singleton] at htop
  have hglt := (htop.lt g rfl).2
  have hgc := htop.cellAt vs.length (by omega)
  rw [List.getElem?_append_right (Nat.le_refl _), Nat.sub_self] at hgc
  have hgc' : w.cell? ⟨g, vs.length, none⟩ = some (.slice pv t.len cv) := hgc
  have hgf := htop.frozenAt vs.length
  have hfar := h.far
  have hbase : base ≤ w.heap.size := Nat.le_trans (htop.lt g rfl).1 (Nat.le_of_lt hglt)
  clear h hk hw hc hgc htop
  go_enter Tryd.func53, Tryd.ntmps53
  go_wp2_with fail
  obtain ⟨W, hW⟩ : ∃ W, w.alloc (.cells #[.string wd, .slice p nk ck] 41) = W := ⟨_, rfl⟩
  have hbx : W.heap[w.heap.size]? = some (.cells #[.string wd, .slice p nk ck] 41 (0, 0)) := by rw [← hW]; exact heap_alloc_new w _
  have hBW : Below w.heap.size w W := by rw [← hW]; exact (Below.refl _ _).alloc (Nat.le_refl _) _
  have hszW : W.heap.size = w.heap.size + 1 := by rw [← hW]; simp
  rw [hW]
  clear hW
  have bx0 : W.cell? ⟨w.heap.size, 0, none⟩ = some (.string wd) := by simp [World.cell?, hbx]
  have bx1 : W.cell? ⟨w.heap.size, 1, none⟩ = some (.slice p nk ck) := by simp [World.cell?, hbx]
  have hgW : W.cell? ⟨g, vs.length, none⟩ = some (.slice pv t.len cv) := (hBW.cell (p := ⟨g, vs.length, none⟩) hglt).trans hgc'
  have hgfW : W.frozen? ⟨g, vs.length, none⟩ = false := (hBW.frozen (p := ⟨g, vs.length, none⟩) hglt).trans hgf
  have hrW : W.ownsRow base 41 2 (.slice pv t.len cv) t.len xs := ownsRow_below hr hBW
  have hA : Mv [] w W := Mv.of_below _ hBW
  clear hbx hgc' hgf hr
  have hi1 : (vs.length : Int) < ((vs.length + 1 : Nat) : Int) := by omega
  have hi2 : (vs.length : Int) < (vs.length : Int) + 1 := by omega
  have hi3 : (0 : Int) ≤ (vs.length : Int) := by omega
  have hj1 : (t.len : Int) < ((t.len + 1 : Nat) : Int) := by omega
  have hj2 : (t.len : Int) < (t.len : Int) + 1 := by omega
  have hj3 : (0 : Int) ≤ (t.len : Int) := by omega
  have hg0 : g ≠ w.heap.size := by omega
  have hg00 : w.heap.size ≠ g := by omega
  have hgne : (Value.slice pv t.len cv).ownBlock ≠ some g := fun e1 => hfar g e1 rfl
  have hwne : (Value.slice pv t.len cv).ownBlock ≠ some w.heap.size := fun e1 => by have := hvb _ e1; omega
  have hgfW2 : (W.alloc (.cells #[.string ⟨#[]⟩, .slice none 0 0] 41)).drew.frozen? ⟨g, vs.length, none⟩ = false := (World.frozen?_of_block (a := ⟨g, vs.length, none⟩) ((World.grownBy_alloc W _ none).block g (by omega) (by simp))).trans hgfW
  have hgW2 : (W.alloc (.cells #[.string ⟨#[]⟩, .slice none 0 0] 41)).drew.cell? ⟨g, vs.length, none⟩ = some (.slice pv t.len cv) := (World.cell?_of_block (a := ⟨g, vs.length, none⟩) ((World.grownBy_alloc W _ none).block g (by omega) (by simp))).trans hgW
  have HN1 : Hid (∀ gg, (Value.slice pv t.len cv).ownBlock = some gg ∨ gg = w.heap.size + 2 → gg ≠ g) := fun gg h e1 => by
    rcases h with h | h
    · exact hgne (by rw [h, e1])
    · omega
  have HN2 : Hid (∀ gg, (Value.slice pv t.len cv).ownBlock = some gg ∨ gg = w.heap.size + 2 → gg ≠ w.heap.size) := fun gg h e1 => by
    rcases h with h | h
    · exact hwne (by rw [h, e1])
    · omega
  have HNEW : (W.alloc (.cells #[.string ⟨#[]⟩, .slice none 0 0] 41)).drew.heap[w.heap.size + 1]? = some (.cells #[.string ⟨#[]⟩, .slice none 0 0] 41 (0, 0)) := by rw [← hszW]; exact heap_alloc_new W _
  have by0 : (W.alloc (.cells #[.string ⟨#[]⟩, .slice none 0 0] 41)).drew.cell? ⟨w.heap.size, 0, none⟩ = some (.string wd) := (World.cell?_of_block (a := ⟨w.heap.size, 0, none⟩) ((World.grownBy_alloc W _ none).block w.heap.size (by omega) (by simp))).trans bx0
  have by1 : (W.alloc (.cells #[.string ⟨#[]⟩, .slice none 0 0] 41)).drew.cell? ⟨w.heap.size, 1, none⟩ = some (.slice p nk ck) := (World.cell?_of_block (a := ⟨w.heap.size, 1, none⟩) ((World.grownBy_alloc W _ none).block w.heap.size (by omega) (by simp))).trans bx1
  go_region_law
    ((refine step_append_lies _ (by rfl) _ _ _ (by rfl) base 41 i0 _ 2 40 Tryd.underlying23 hi0 hz0 hz1 hz2 rfl (by omega) (.slice pv t.len cv) t.len xs (by rfl) ((hrW.alloc _).drew)
        ⟨w.heap.size + 1, 0, none⟩ 1 1 [.string ⟨#[]⟩, .slice none 0 0] (by rfl) (by rfl) (World.news_of_block (cs := #[.string ⟨#[]⟩, .slice none 0 0]) (t := 41) (fr := (0, 0)) HNEW) (by simp [Value.oneCell'])
        (by omega) (by unfold maxLen; omega) (by omega) (by simp; omega) (w.heap.size + 2) (by simp [hszW]) ?_; intro gg cap w1 hown1 hgrow hat hlt
      have HOWN := Lib.hid hown1
      have d1 : w1.cell? ⟨gg, t.len * 2, none⟩ = some (.string ⟨#[]⟩) := (hown1.cellAt (t.len * 2) (by omega)).trans (by rw [← hxs]; simp)
      have d2 : w1.cell? ⟨gg, t.len * 2 + 1, none⟩ = some (.slice none 0 0) := (hown1.cellAt (t.len * 2 + 1) (by omega)).trans (by rw [← hxs]; simp)
      have f1 := hown1.frozenAt (t.len * 2)
      have f2 := hown1.frozenAt (t.len * 2 + 1)
      have f3 : w1.frozen? ⟨g, vs.length, none⟩ = false := (hgrow.frozen_far ⟨g, vs.length, none⟩ (by simp; omega) (Ne.symm hgne)).trans (by simpa [go_sem] using hgfW2)
      have d3 : w1.cell? ⟨g, vs.length, none⟩ = some (.slice pv t.len cv) := (hgrow.cell_far ⟨g, vs.length, none⟩ (by simp; omega) (Ne.symm hgne)).trans hgW2
      have n1 : gg ≠ g := HN1.out gg hat
      have n2 : g ≠ gg := Ne.symm n1
      have n3 : gg ≠ w.heap.size := HN2.out gg hat
      have n5 : w.heap.size ≠ gg := Ne.symm n3
      clear hown1))
  all_goals go_end0
  all_goals exact ⟨rfl, _, (H.out.put2 HC.out hxs ((hA.alloc _).drewN 1) HOWN.out hgrow (by rcases hat with h | h; exact .inl h; exact .inr (by omega)) HW.out HK.out (by first | exact .inl rfl | exact .inr rfl))⟩
end Go.Proofs.YtgkmhdifjgpbeaaDoor
