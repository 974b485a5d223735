/-
  Rows of blank trees as make lays them, and the trees of a long text's law. Conditions: none.
-/
import Derived.Test.YtgkmhdifjgpbeaaDoorCopied
import Derived.Test.YtgkmhdifjgpbeaaDoorProg
import Derived.Laws.MakeOwn
namespace Go.Proofs.YtgkmhdifjgpbeaaDoor
open Go.RowKit

def blanks : Nat → Ts
  | 0 => .nil
  | k + 1 => .cons ⟨#[]⟩ .nil (blanks k)
theorem blanks_len : ∀ k, (blanks k).len = k
  | 0 => rfl
  | k + 1 => by simp [blanks, Ts.len, blanks_len k]
theorem blanks_deep : ∀ k, (blanks k).deep ≤ 1
  | 0 => by simp [blanks, Ts.deep]
  | k + 1 => by have := blanks_deep k; simp only [blanks, Ts.deep]; omega
theorem blanks_great : ∀ k, (blanks k).great = k
  | 0 => rfl
  | k + 1 => by have := blanks_great k; simp only [blanks, Ts.great]; have h : (⟨#[]⟩ : ByteArray).size = 0 := rfl; omega
def blank : Array Value := #[.string ⟨#[]⟩, .slice none 0 0]
theorem made_zero {k j : Nat} (h : j < k) : (madeCells blank (k * 2))[j * 2]? = some (.string ⟨#[]⟩) := by
  unfold madeCells
  rw [Array.getElem?_map, Array.getElem?_range, if_pos (by omega)]
  simp [blank]
theorem made_one {k j : Nat} (h : j < k) : (madeCells blank (k * 2))[j * 2 + 1]? = some (.slice none 0 0) := by
  unfold madeCells
  rw [Array.getElem?_map, Array.getElem?_range, if_pos (by omega)]
  have : (j * 2 + 1) % 2 = 1 := by omega
  simp [blank, this]

def HasM (w : World) (mb k : Nat) : Prop := ∃ ty, w.heap[mb]? = some (.cells (madeCells blank (k * 2)) ty (0, 0))
theorem HasM.lt {w : World} {mb k : Nat} (h : HasM w mb k) : mb < w.heap.size := by
  obtain ⟨ty, h⟩ := h
  exact (Array.getElem?_eq_some_iff.1 h).1
theorem HasM.new (ty k : Nat) (w : World) : HasM (w.alloc (.cells (madeCells blank (k * 2)) ty)) w.heap.size k := ⟨ty, heap_alloc_new w _⟩
theorem HasM.below {B : Nat} {w w' : World} {mb k : Nat} (h : HasM w mb k) (hb : Below B w w') (hB : mb < B) : HasM w' mb k := by
  obtain ⟨ty, h⟩ := h
  exact ⟨ty, (hb.block mb hB).trans h⟩
theorem HasM.alloc {w : World} {mb k : Nat} (h : HasM w mb k) (b : Obj) : HasM (w.alloc b) mb k := by
  obtain ⟨ty, h'⟩ := h
  exact ⟨ty, (Below.heap_alloc _ _ _ (HasM.lt ⟨ty, h'⟩)).trans h'⟩
theorem TAt_blanks {F : Nat → Nat → Option Value} {lo hi b : Nat} : ∀ (k o : Nat), (∀ j, j < k → F b (o + j * 2) = some (.string ⟨#[]⟩) ∧ F b (o + j * 2 + 1) = some (.slice none 0 0)) → TAt F lo hi (blanks k) b o
  | 0, _, _ => trivial
  | k + 1, o, h => by
    refine TAt_cons.2 ⟨?_, Nat.zero_le _, ⟨_, ?_, none, 0, 0, rfl, rfl, Nat.le_refl _, Nat.zero_le _, .inl ⟨rfl, rfl⟩⟩, TAt_blanks k (o + 2) fun j hj => ?_⟩
    · simpa using (h 0 (by omega)).1
    · simpa using (h 0 (by omega)).2
    · have := h (j + 1) (by omega)
      rw [show o + (j + 1) * 2 = o + 2 + j * 2 by omega] at this
      exact this
theorem HasM.u {w : World} {mb k : Nat} (h : HasM w mb k) : ∀ j, j < k → U w mb (0 + j * 2) = some (.string ⟨#[]⟩) ∧ U w mb (0 + j * 2 + 1) = some (.slice none 0 0) := by
  obtain ⟨ty, h⟩ := h
  intro j hj
  rw [Nat.zero_add]
  exact ⟨U_mk (by simp [World.cell?, h, made_zero hj]) (by simp [World.frozen?, h]), U_mk (by simp [World.cell?, h, made_one hj]) (by simp [World.frozen?, h])⟩
theorem HasM.sl {w : World} {mb k : Nat} (h : HasM w mb k) (hk : k ≤ 1000) : Sl (U w) 0 w.heap.size (.slice (some ⟨mb, 0, none⟩) k k) (blanks k) :=
  ⟨_, _, _, rfl, (blanks_len k).symm, Nat.le_refl _, by unfold maxLen; omega, .inr (.inr ⟨mb, 0, rfl, Nat.zero_le _, h.lt, TAt_blanks k 0 h.u⟩)⟩

def longT (s : ByteArray) (k : Nat) : Ts := .cons s .nil (.cons ⟨#[]⟩ (blanks k) .nil)
theorem longT_deep (s : ByteArray) (k : Nat) : (longT s k).deep ≤ 100000 := by
  have := blanks_deep k
  simp only [longT, Ts.deep]; omega
theorem longT_great (s : ByteArray) (k : Nat) (hs : s.size ≤ 262144) (hk : k ≤ 1000) : (longT s k).great ≤ 1000000 := by
  have := blanks_great k
  have h : (⟨#[]⟩ : ByteArray).size = 0 := rfl
  simp only [longT, Ts.great]; omega
/-- Two trees: a word, and a list of blank ones. -/
theorem HasM.two {w : World} {mb k tb ty : Nat} {s : ByteArray} (h : HasM w mb k) (hk : k ≤ 1000) (hs : s.size ≤ 262144)
    (ht : w.heap[tb]? = some (.cells #[.string s, .slice none 0 0, .string ⟨#[]⟩, .slice (some ⟨mb, 0, none⟩) k k] ty (0, 0))) :
    Sl (U w) 0 w.heap.size (.slice (some ⟨tb, 0, none⟩) 2 2) (longT s k) := by
  have hlt : tb < w.heap.size := (Array.getElem?_eq_some_iff.1 ht).1
  have hf : ∀ o, w.frozen? ⟨tb, o, none⟩ = false := fun o => by simp [World.frozen?, ht]
  refine ⟨_, _, _, rfl, rfl, Nat.le_refl _, by decide, .inr (.inr ⟨tb, 0, rfl, Nat.zero_le _, hlt, ?_⟩)⟩
  refine TAt_cons.2 ⟨U_mk (by simp [World.cell?, ht]) (hf _), by omega, ⟨_, U_mk (by simp [World.cell?, ht]) (hf _), none, 0, 0, rfl, rfl, Nat.le_refl _, Nat.zero_le _, .inl ⟨rfl, rfl⟩⟩, ?_⟩
  exact TAt_cons.2 ⟨U_mk (by simp [World.cell?, ht]) (hf _), Nat.zero_le _, ⟨_, U_mk (by simp [World.cell?, ht]) (hf _), h.sl hk⟩, trivial⟩

theorem below_alloc (w : World) (b : Obj) : Below w.heap.size w (w.alloc b) := (Below.refl _ _).alloc (Nat.le_refl _) _

theorem make_prog (k : Nat) (hk : k ≤ 1000) (w : World) : (Instr.makeSlice 23 (.int .i64 k) (.int .i64 k)).run Tryd.prog w = .ok (.slice (some ⟨w.heap.size, 0, none⟩) k k) (w.alloc (.cells (madeCells blank (k * 2)) 41)) := by
  obtain ⟨i0, hi0, hz0, hz1, hz2⟩ := info_parts info41
  have h := run_make (P := Tryd.prog) w 23 41 i0 _ Tryd.underlying23 hi0 hz0 .i64 .i64 k k (by omega) (Int.le_refl _) (by rw [hz2]; omega) (by omega)
  rw [hz1] at h
  simpa [Value.cells, blank] using h
theorem make_ref (k : Nat) (hk : k ≤ 1000) (w : World) : (Instr.makeSlice 27 (.int .i64 k) (.int .i64 k)).run Tryd.prog w = .ok (.slice (some ⟨w.heap.size, 0, none⟩) k k) (w.alloc (.cells (madeCells blank (k * 2)) 44)) := by
  obtain ⟨i0, hi0, hz0, hz1, hz2⟩ := info_parts info44
  have h := run_make (P := Tryd.prog) w 27 44 i0 _ Tryd.underlying27 hi0 hz0 .i64 .i64 k k (by omega) (Int.le_refl _) (by rw [hz2]; omega) (by omega)
  rw [hz1] at h
  simpa [Value.cells, blank] using h
end Go.Proofs.YtgkmhdifjgpbeaaDoor
