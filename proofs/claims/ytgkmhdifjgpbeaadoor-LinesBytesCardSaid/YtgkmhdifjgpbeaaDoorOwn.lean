/-
  A row of trees that a call has made itself and goes on appending to. Conditions: none (definitions and their laws).
-/
import Derived.Test.YtgkmhdifjgpbeaaDoorTrees
import Derived.Maps.AppendAt
import Derived.Deep.AppendLies
namespace Go.Proofs.YtgkmhdifjgpbeaaDoor
open Go.RowKit

/-- What the cells hold outside some blocks. -/
def Fx (w : World) (S : List Nat) (b o : Nat) : Option Value := if b ∈ S then none else U w b o

theorem Fx_U {w : World} {S : List Nat} {b o : Nat} {v : Value} (h : Fx w S b o = some v) : U w b o = some v := by
  unfold Fx at h; split at h
  · cases h
  · exact h
theorem Fx_not {w : World} {S : List Nat} {b o : Nat} {v : Value} (h : Fx w S b o = some v) : b ∉ S := by
  unfold Fx at h; split at h
  · cases h
  · assumption
theorem Fx_mk {w : World} {S : List Nat} {b o : Nat} {v : Value} (h : U w b o = some v) (hs : b ∉ S) : Fx w S b o = some v := by
  unfold Fx; rw [if_neg hs]; exact h
theorem U_lt {w : World} {b o : Nat} {v : Value} (h : U w b o = some v) : b < w.heap.size :=
  World.block_lt_of_cell? w ⟨b, o, none⟩ (U_cell h)

/-- The cells of trees, one behind the other: words, and rows below. -/
def CellsT (F : Nat → Nat → Option Value) (lo hi : Nat) (xs : List Value) : Ts → Prop
  | .nil => xs = []
  | .cons w x t => ∃ v r, xs = .string w :: v :: r ∧ w.size ≤ 140737488355328 ∧ Sl F lo hi v x ∧ CellsT F lo hi r t

theorem CellsT.mono {F F' : Nat → Nat → Option Value} {lo hi lo' hi' : Nat} {xs : List Value} {t : Ts} (h : CellsT F lo hi xs t)
    (hF : ∀ b o v, lo ≤ b → b < hi → F b o = some v → F' b o = some v) (hlo : lo' ≤ lo) (hhi : hi ≤ hi') : CellsT F' lo' hi' xs t := by
  induction t generalizing xs with
  | nil => exact h
  | cons w x r _ ih =>
    obtain ⟨v, rest, e, h2, h3, h4⟩ := h
    exact ⟨v, rest, e, h2, h3.mono hF hlo hhi, ih h4⟩
theorem CellsT.len {F : Nat → Nat → Option Value} {lo hi : Nat} {xs : List Value} {t : Ts} (h : CellsT F lo hi xs t) : xs.length = t.len * 2 := by
  induction t generalizing xs with
  | nil => simp [CellsT] at h; simp [h, Ts.len]
  | cons w x r _ ih =>
    obtain ⟨v, rest, rfl, h2, h3, h4⟩ := h
    have := ih h4; simp [Ts.len, this]; omega
theorem CellsT.snoc {F : Nat → Nat → Option Value} {lo hi : Nat} {xs : List Value} {t x : Ts} {w : ByteArray} {v : Value} (h : CellsT F lo hi xs t)
    (hw : w.size ≤ 140737488355328) (hv : Sl F lo hi v x) : CellsT F lo hi (xs ++ [.string w, v]) (t.snoc w x) := by
  induction t generalizing xs with
  | nil =>
    simp only [CellsT] at h
    subst h
    exact ⟨v, [], rfl, hw, hv, rfl⟩
  | cons w' x' r _ ih =>
    obtain ⟨v', rest, rfl, h2, h3, h4⟩ := h
    exact ⟨v', rest ++ [.string w, v], rfl, h2, h3, ih h4⟩
theorem CellsT.tat {F F' : Nat → Nat → Option Value} {lo hi : Nat} {xs : List Value} {t : Ts} {b o : Nat} (h : CellsT F lo hi xs t)
    (hF : ∀ b o v, F b o = some v → F' b o = some v) (hx : ∀ j u, xs[j]? = some u → F' b (o + j) = some u) : TAt F' lo hi t b o := by
  induction t generalizing xs o with
  | nil => trivial
  | cons w x r _ ih =>
    obtain ⟨v, rest, rfl, h2, h3, h4⟩ := h
    refine TAt_cons.2 ⟨hx 0 _ rfl, h2, ⟨v, hx 1 _ rfl, h3.mono (fun b o u _ _ h => hF b o u h) (Nat.le_refl _) (Nat.le_refl _)⟩, ih h4 (fun j u hu => ?_)⟩
    have := hx (j + 2) u (by simpa using hu)
    rw [show o + 2 + j = o + (j + 2) by omega]
    exact this

theorem ownsRow_U {w : World} {base e size n g : Nat} {v : Value} {xs : List Value} (h : w.ownsRow base e size v n xs) (hg : v.ownBlock = some g) {j : Nat} {u : Value} (hu : xs[j]? = some u) : U w g j = some u := by
  have hc := h.cells hg j u hu
  rcases h.2 with ⟨rfl, _⟩ | ⟨g', cap, cur, rfl, _, hh, _⟩
  · cases hg
  · obtain rfl : g' = g := by simpa [Value.ownBlock] using hg
    have e : ((⟨g', 0, none⟩ : Addr).add j) = ⟨g', j, none⟩ := by
      unfold Addr.add; split
      · rename_i hj; subst hj; rfl
      · simp
    rw [e] at hc
    exact U_mk hc (by simp [World.frozen?, hh])

/-- A row of the call's own, from block base on, that holds trees; what lies below them lies outside the blocks S. -/
def RowT (w : World) (base e : Nat) (S : List Nat) (v : Value) (t : Ts) : Prop :=
  ∃ xs, w.ownsRow base e 2 v t.len xs ∧ CellsT (Fx w S) base w.heap.size xs t

theorem RowT.nil (w : World) (base e : Nat) (S : List Nat) : RowT w base e S (.slice none 0 0) .nil := ⟨[], World.ownsRow_nil w base e 2, rfl⟩

theorem Fx_below {w w' : World} {S : List Nat} (h : Below w.heap.size w w') : ∀ b o v, Fx w S b o = some v → Fx w' S b o = some v :=
  fun _ _ _ hv => Fx_mk ((U_block (h.block _ (U_lt (Fx_U hv))) _).trans (Fx_U hv)) (Fx_not hv)
theorem ownsRow_below {w w' : World} {base e size n : Nat} {v : Value} {xs : List Value} (h : w.ownsRow base e size v n xs) (hb : Below w.heap.size w w') : w'.ownsRow base e size v n xs := by
  refine h.kept (row := none) ⟨hb.os, hb.tape, hb.output, hb.size, fun k hk _ => hb.block k hk⟩ ?_
  cases hv : v.ownBlock
  · exact .inl rfl
  · exact .inr (by simp)
theorem RowT.below {w w' : World} {base e : Nat} {S : List Nat} {v : Value} {t : Ts} (h : RowT w base e S v t) (hb : Below w.heap.size w w') : RowT w' base e S v t := by
  obtain ⟨xs, h1, h2⟩ := h
  exact ⟨xs, ownsRow_below h1 hb, h2.mono (fun b o u _ _ hu => Fx_below hb b o u hu) (Nat.le_refl _) hb.size⟩
theorem RowT.block {w : World} {base e : Nat} {S : List Nat} {v : Value} {t : Ts} (h : RowT w base e S v t) : ∀ k, v.ownBlock = some k → base ≤ k ∧ k < w.heap.size := by
  obtain ⟨xs, h1, _⟩ := h
  exact h1.lt

/-- The row as a slice that reads. -/
theorem RowT.sl {w : World} {base e : Nat} {S : List Nat} {v : Value} {t : Ts} (h : RowT w base e S v t) : Sl (U w) base w.heap.size v t := by
  obtain ⟨xs, h1, h2⟩ := h
  have h1' := h1
  rcases h1.2 with ⟨rfl, hn⟩ | ⟨g, cap, cur, rfl, hb, hh, hnc, hcm, _⟩
  · exact ⟨none, 0, 0, rfl, hn.symm, Nat.le_refl _, Nat.zero_le _, .inl ⟨rfl, rfl⟩⟩
  · refine ⟨_, _, _, rfl, rfl, hnc, hcm, .inr (.inr ⟨g, 0, rfl, hb, (h1'.lt g rfl).2, h2.tat (fun b o u hu => Fx_U hu) (fun j u hu => ?_)⟩)⟩
    rw [Nat.zero_add]
    exact ownsRow_U h1' rfl hu

/-- An append to the row of one tree more (w1: the world in which its cells have been laid; w2: behind the append). -/
theorem RowT.push {w1 w2 : World} {base e : Nat} {v v' kv : Value} {t x : Ts} {wd : ByteArray} {xs : List Value} {S : List Nat}
    (hx : CellsT (Fx w1 (v.ownBlock.toList ++ S)) base w1.heap.size xs t)
    (hown : w2.ownsRow base e 2 v' (t.len + 1) (xs ++ [.string wd, kv])) (hg : w1.grownBy w2 v.ownBlock) (hat : v'.ownBlock = v.ownBlock ∨ v'.ownBlock = some w1.heap.size)
    (hw : wd.size ≤ 140737488355328) (hk : Sl (Fx w1 (v.ownBlock.toList ++ S)) base w1.heap.size kv x) : RowT w2 base e (v'.ownBlock.toList ++ S) v' (t.snoc wd x) := by
  have hF : ∀ b o u, Fx w1 (v.ownBlock.toList ++ S) b o = some u → Fx w2 (v'.ownBlock.toList ++ S) b o = some u := by
    intro b o u hu
    have hn := Fx_not hu
    have hl := U_lt (Fx_U hu)
    have hb : w2.heap[b]? = w1.heap[b]? := hg.block b hl (fun e => hn (by simp [← e]))
    refine Fx_mk ((U_block hb o).trans (Fx_U hu)) ?_
    simp only [List.mem_append, Option.mem_toList] at hn ⊢
    rintro (h | h)
    · rcases hat with e | e
      · exact hn (.inl (by rw [← e]; exact h))
      · rw [e] at h; simp at h; omega
    · exact hn (.inr h)
  exact ⟨_, by rw [Ts.snoc_len]; exact hown, (hx.mono (fun b o u _ _ h => hF b o u h) (Nat.le_refl _) hg.size).snoc hw (hk.mono (fun b o u _ _ h => hF b o u h) (Nat.le_refl _) hg.size)⟩
theorem CellsT.below {w w' : World} {S : List Nat} {base : Nat} {xs : List Value} {t : Ts} (h : CellsT (Fx w S) base w.heap.size xs t) (hb : Below w.heap.size w w') : CellsT (Fx w' S) base w'.heap.size xs t :=
  h.mono (fun b o u _ _ hu => Fx_below hb b o u hu) (Nat.le_refl _) hb.size
theorem Sl.outside {w : World} {S : List Nat} {lo hi : Nat} {v : Value} {t : Ts} (h : Sl (U w) lo hi v t) (hS : ∀ b ∈ S, b < lo) : Sl (Fx w S) lo hi v t :=
  h.mono (fun b o u hl _ hu => Fx_mk hu (fun hb => by have := hS b hb; omega)) (Nat.le_refl _) (Nat.le_refl _)
/-- The same where the tree's cells have just been laid in a block of their own. -/
theorem RowT.pushNew {w1 w2 : World} {o : Obj} {base e lo : Nat} {v v' kv : Value} {t x : Ts} {wd : ByteArray} {xs : List Value} {S : List Nat}
    (hx : CellsT (Fx w1 (v.ownBlock.toList ++ S)) base w1.heap.size xs t)
    (hown : w2.ownsRow base e 2 v' (t.len + 1) (xs ++ [.string wd, kv])) (hg : (w1.alloc o).grownBy w2 v.ownBlock) (hat : v'.ownBlock = v.ownBlock ∨ v'.ownBlock = some (w1.heap.size + 1))
    (hw : wd.size ≤ 140737488355328) (hk : Sl (U w1) lo w1.heap.size kv x) (hlo : base ≤ lo) (hS : ∀ b ∈ v.ownBlock.toList ++ S, b < lo) : RowT w2 base e (v'.ownBlock.toList ++ S) v' (t.snoc wd x) := by
  have hb : Below w1.heap.size w1 (w1.alloc o) := (Below.refl _ _).alloc (Nat.le_refl _) _
  exact RowT.push (w1 := w1.alloc o) (hx.below hb) hown hg (by simpa using hat) hw
    (((hk.below hb (Nat.le_refl _)).outside hS).widen hlo (by simp))
/-- The cells of a block that has just been laid. -/
theorem new_cells (w : World) (l : List Value) (e : TypeId) : ∀ j u, l[j]? = some u → (w.alloc (.cells l.toArray e)).cell? ((⟨w.heap.size, 0, none⟩ : Addr).add j) = some u := by
  intro j u hu
  have e1 : ((⟨w.heap.size, 0, none⟩ : Addr).add j) = ⟨w.heap.size, j, none⟩ := by
    unfold Addr.add; split
    · rename_i hj; subst hj; rfl
    · simp
  rw [e1]
  exact (cell_of_row _ _ j l.toArray e (0, 0) (heap_alloc_new w _)).trans (by simpa using hu)
theorem one_pair (w : ByteArray) (p : Option Addr) (n c : Nat) : ∀ u ∈ [Value.string w, .slice p n c], u.oneCell' = true := by simp [Value.oneCell']
end Go.Proofs.YtgkmhdifjgpbeaaDoor
