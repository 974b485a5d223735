/-
  Rows of strings, of trees, laid one behind the other. Conditions: none.
-/
import Derived.Test.YtgkmhdifjgpbeaaDoorTrees
import Derived.Test.YtgkmhdifjgpbeaaDoorOwn
import Derived.Test.YtgkmhdifjgpbeaaDoorCopied
namespace Go.Proofs.YtgkmhdifjgpbeaaDoor
open Go.RowKit

theorem Sl_none (F : Nat → Nat → Option Value) (lo hi : Nat) : Sl F lo hi (.slice none 0 0) .nil :=
  ⟨none, 0, 0, rfl, rfl, Nat.le_refl _, Nat.zero_le _, .inl ⟨rfl, rfl⟩⟩
theorem laid_cell {w : World} {cs : Array Value} {ty o : Nat} {v : Value} (h : cs[o]? = some v) : U (w.alloc (.cells cs ty)) w.heap.size o = some v := by
  have hb := heap_alloc_new w (.cells cs ty (0, 0))
  exact U_mk (by unfold World.cell?; rw [hb]; simpa using h) (by unfold World.frozen?; rw [hb]; rfl)
theorem Sl.alloc {w : World} {v : Value} {t : Ts} (h : Sl (U w) 0 w.heap.size v t) (o : Obj) : Sl (U (w.alloc o)) 0 (w.alloc o).heap.size v t :=
  (h.below ((Below.refl _ w).alloc (Nat.le_refl _) o) (Nat.le_refl _)).widen (Nat.le_refl _) (by simp)
theorem Sl.on {w w' : World} {v : Value} {t : Ts} (h : Sl (U w) 0 w.heap.size v t) (hb : Below w.heap.size w w') : Sl (U w') 0 w'.heap.size v t :=
  (h.below hb (Nat.le_refl _)).widen (Nat.le_refl _) hb.size
/-- One tree, laid. -/
theorem Sl.row1 {w : World} {s : ByteArray} {v : Value} {X : Ts} {ty : Nat} (hs : s.size ≤ 140737488355328) (h : Sl (U w) 0 w.heap.size v X) :
    Sl (U (w.alloc (.cells #[.string s, v] ty))) 0 (w.alloc (.cells #[.string s, v] ty)).heap.size (.slice (some ⟨w.heap.size, 0, none⟩) 1 1) (.cons s X .nil) :=
  ⟨_, _, _, rfl, rfl, Nat.le_refl _, by decide, .inr (.inr ⟨w.heap.size, 0, rfl, Nat.zero_le _, by simp, TAt_cons.2 ⟨laid_cell rfl, hs, ⟨_, laid_cell rfl, h.alloc _⟩, trivial⟩⟩)⟩
/-- Two trees, laid. -/
theorem Sl.row2 {w : World} {s t : ByteArray} {v u : Value} {X Y : Ts} {ty : Nat} (hs : s.size ≤ 140737488355328) (ht : t.size ≤ 140737488355328) (h : Sl (U w) 0 w.heap.size v X) (k : Sl (U w) 0 w.heap.size u Y) :
    Sl (U (w.alloc (.cells #[.string s, v, .string t, u] ty))) 0 (w.alloc (.cells #[.string s, v, .string t, u] ty)).heap.size (.slice (some ⟨w.heap.size, 0, none⟩) 2 2) (.cons s X (.cons t Y .nil)) :=
  ⟨_, _, _, rfl, rfl, Nat.le_refl _, by decide, .inr (.inr ⟨w.heap.size, 0, rfl, Nat.zero_le _, by simp, TAt_cons.2 ⟨laid_cell rfl, hs, ⟨_, laid_cell rfl, h.alloc _⟩, TAt_cons.2 ⟨laid_cell rfl, ht, ⟨_, laid_cell rfl, k.alloc _⟩, trivial⟩⟩⟩)⟩

/-- A row of short strings. -/
def Strs (w : World) (b n m : Nat) : Prop := b < w.heap.size ∧ ∀ j, j < n → ∃ t : ByteArray, w.cell? ⟨b, j, none⟩ = some (.string t) ∧ t.size ≤ m
theorem Strs.on {w w' : World} {b n m : Nat} (h : Strs w b n m) (hb : Below w.heap.size w w') : Strs w' b n m :=
  ⟨Nat.lt_of_lt_of_le h.1 hb.size, fun j hj => by obtain ⟨t, h1, h2⟩ := h.2 j hj; exact ⟨t, (hb.cell (p := ⟨b, j, none⟩) h.1).trans h1, h2⟩⟩
theorem Strs.mk {w : World} {cs : Array Value} {ty n m : Nat} (h : ∀ j, j < n → ∃ t : ByteArray, cs[j]? = some (.string t) ∧ t.size ≤ m) : Strs (w.alloc (.cells cs ty)) w.heap.size n m :=
  ⟨by simp, fun j hj => by obtain ⟨t, h1, h2⟩ := h j hj; exact ⟨t, U_cell (laid_cell h1), h2⟩⟩
end Go.Proofs.YtgkmhdifjgpbeaaDoor
