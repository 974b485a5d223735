/-
  Rows of cells within rows, as plain data; where they can be read, and where they are owned. Levels, terms as plain data, as cells. How great levels and terms are, counted until a bound is passed. What is handed in with marks behind the ends, as plain data. A row that a call has made itself and goes on appending to; each element's rows are its own too. How a walk reads parts, levels, terms out of memory. What lifting makes of terms. Tuples, their types and parts, cases, as plain data. Conditions: as each lemma states them.
-/
import Derived.WalkKit
import Derived.Lib.Hide
import Derived.Deep.QuietTactic
import Derived.BigQuiet
import Derived.Maps.AppendAt
import Derived.Deep.AppendLies
set_option linter.all false
set_option linter.unusedVariables false
set_option linter.unusedSimpArgs false
set_option linter.unnecessarySimpa false
section
namespace Go.Proofs.YtkcmapimcgppmaaGreatDoor
open Go.RowKit

theorem below_step {a b c : World} (h : Below a.heap.size a b) (k : Below b.heap.size b c) : Below a.heap.size a c := h.trans (k.mono h.size)
theorem below_drew (w : World) : Below w.heap.size w w.drew := ⟨rfl, rfl, rfl, Nat.le_refl _, fun _ _ => rfl⟩
theorem below_alloc (w : World) (b : Obj) : Below w.heap.size w (w.alloc b) := (Below.refl _ _).alloc (Nat.le_refl _) _

/-- Cells, one behind the other: such that hold a plain value; such that hold a row (of elements of so many cells, of a type), with what lies behind the row's end. -/
inductive Ds where
  | nil
  | lit (v : Value) (rest : Ds)
  | row (sz e : Nat) (cells spare rest : Ds)

namespace Ds
def len : Ds → Nat
  | nil => 0
  | lit _ r => r.len + 1
  | row _ _ _ _ r => r.len + 1
def app : Ds → Ds → Ds
  | nil, y => y
  | lit v r, y => lit v (r.app y)
  | row sz e x s r, y => row sz e x s (r.app y)
theorem app_len (x y : Ds) : (x.app y).len = x.len + y.len := by
  induction x with
  | nil => simp [app, len]
  | lit v r ih => simp [app, len, ih]; omega
  | row sz e x s r _ _ ih => simp [app, len, ih]; omega
theorem app_nil (x : Ds) : x.app nil = x := by
  induction x with
  | nil => rfl
  | lit v r ih => simp [app, ih]
  | row sz e x s r _ _ ih => simp [app, ih]
theorem app_assoc (x y z : Ds) : (x.app y).app z = x.app (y.app z) := by
  induction x with
  | nil => rfl
  | lit v r ih => simp [app, ih]
  | row sz e x s r _ _ ih => simp [app, ih]
end Ds

/-- A cell that may be read and written. -/
def U (w : World) (b o : Nat) : Option Value := if w.frozen? ⟨b, o, none⟩ = true then none else w.cell? ⟨b, o, none⟩
theorem U_cell {w : World} {b o : Nat} {v : Value} (h : U w b o = some v) : w.cell? ⟨b, o, none⟩ = some v := by
  unfold U at h; split at h
  · cases h
  · exact h
theorem U_frozen {w : World} {b o : Nat} {v : Value} (h : U w b o = some v) : w.frozen? ⟨b, o, none⟩ = false := by
  unfold U at h; split at h
  · cases h
  · rename_i hn; simpa using hn
theorem U_mk {w : World} {b o : Nat} {v : Value} (h : w.cell? ⟨b, o, none⟩ = some v) (hf : w.frozen? ⟨b, o, none⟩ = false) : U w b o = some v := by
  unfold U; rw [hf]; simpa using h
theorem U_block {w w' : World} {b : Nat} (h : w'.heap[b]? = w.heap[b]?) (o : Nat) : U w' b o = U w b o := by
  unfold U World.frozen? World.cell?; simp only [h]
theorem U_lt {w : World} {b o : Nat} {v : Value} (h : U w b o = some v) : b < w.heap.size :=
  World.block_lt_of_cell? w ⟨b, o, none⟩ (U_cell h)
theorem U_below {B : Nat} {w w' : World} (h : Below B w w') : ∀ b o v, b < B → U w b o = some v → U w' b o = some v :=
  fun b o _ hb hv => (U_block (h.block b hb) o).trans hv
theorem laid_cell {w : World} {cs : Array Value} {ty o : Nat} {v : Value} (h : cs[o]? = some v) : U (w.alloc (.cells cs ty)) w.heap.size o = some v := by
  have hb := heap_alloc_new w (.cells cs ty (0, 0))
  exact U_mk (by unfold World.cell?; rw [hb]; simpa using h) (by unfold World.frozen?; rw [hb]; rfl)

/-- Where F is what the cells hold: from an address on the cells are so. -/
def At (F : Nat → Nat → Option Value) (hi : Nat) : Ds → Nat → Nat → Prop
  | .nil, _, _ => True
  | .lit v r, b, o => F b o = some v ∧ At F hi r b (o + 1)
  | .row sz _ x s r, b, o =>
      (∃ (p : Option Addr) (n c : Nat), F b o = some (.slice p n c) ∧ n * sz = x.len ∧ n ≤ c ∧ c ≤ maxLen ∧ x.len + s.len ≤ c * sz ∧
        ((p = none ∧ c = 0) ∨ (n = 0 ∧ s.len = 0 ∧ p ≠ none) ∨ ∃ b' o', p = some ⟨b', o', none⟩ ∧ b' < hi ∧ At F hi x b' o' ∧ At F hi s b' (o' + x.len))) ∧
      At F hi r b (o + 1)
/-- A slice that is a row. -/
def Rd (F : Nat → Nat → Option Value) (hi : Nat) (v : Value) (sz : Nat) (x s : Ds) : Prop :=
  ∃ (p : Option Addr) (n c : Nat), v = .slice p n c ∧ n * sz = x.len ∧ n ≤ c ∧ c ≤ maxLen ∧ x.len + s.len ≤ c * sz ∧
    ((p = none ∧ c = 0) ∨ (n = 0 ∧ s.len = 0 ∧ p ≠ none) ∨ ∃ b' o', p = some ⟨b', o', none⟩ ∧ b' < hi ∧ At F hi x b' o' ∧ At F hi s b' (o' + x.len))
theorem At_row {F : Nat → Nat → Option Value} {hi sz e : Nat} {x s r : Ds} {b o : Nat} : At F hi (.row sz e x s r) b o ↔ (∃ v, F b o = some v ∧ Rd F hi v sz x s) ∧ At F hi r b (o + 1) := by
  constructor
  · rintro ⟨⟨p, n, c, h1, h2⟩, h3⟩
    exact ⟨⟨_, h1, p, n, c, rfl, h2⟩, h3⟩
  · rintro ⟨⟨v, h1, p, n, c, rfl, h2⟩, h3⟩
    exact ⟨⟨p, n, c, h1, h2⟩, h3⟩
theorem At.mono {F F' : Nat → Nat → Option Value} {hi hi' : Nat} {x : Ds} : ∀ {b o : Nat}, At F hi x b o → b < hi → (∀ b o v, b < hi → F b o = some v → F' b o = some v) → hi ≤ hi' → At F' hi' x b o := by
  induction x with
  | nil => intros; trivial
  | lit v r ih => intro b o h hb hF hh; exact ⟨hF _ _ _ hb h.1, ih h.2 hb hF hh⟩
  | row sz e x s r ihx ihs ihr =>
    intro b o h hb hF hh
    obtain ⟨⟨p, n, c, h1, h2, h3, h4, h5, h6⟩, h7⟩ := h
    refine ⟨⟨p, n, c, hF _ _ _ hb h1, h2, h3, h4, h5, ?_⟩, ihr h7 hb hF hh⟩
    rcases h6 with h6 | h6 | ⟨b', o', e1, hl, ha, hs⟩
    · exact .inl h6
    · exact .inr (.inl h6)
    · exact .inr (.inr ⟨b', o', e1, by omega, ihx ha hl hF hh, ihs hs hl hF hh⟩)
theorem Rd.mono {F F' : Nat → Nat → Option Value} {hi hi' : Nat} {v : Value} {sz : Nat} {x s : Ds} (h : Rd F hi v sz x s) (hF : ∀ b o v, b < hi → F b o = some v → F' b o = some v) (hh : hi ≤ hi') : Rd F' hi' v sz x s := by
  obtain ⟨p, n, c, h1, h2, h3, h4, h5, h6⟩ := h
  refine ⟨p, n, c, h1, h2, h3, h4, h5, ?_⟩
  rcases h6 with h6 | h6 | ⟨b', o', e1, hl, ha, hs⟩
  · exact .inl h6
  · exact .inr (.inl h6)
  · exact .inr (.inr ⟨b', o', e1, by omega, ha.mono hl hF hh, hs.mono hl hF hh⟩)
theorem Rd.on {w w' : World} {v : Value} {sz : Nat} {x s : Ds} (h : Rd (U w) w.heap.size v sz x s) (hb : Below w.heap.size w w') : Rd (U w') w'.heap.size v sz x s :=
  h.mono (fun b o u hl hu => U_below hb b o u hl hu) hb.size
theorem Rd.below {B : Nat} {w w' : World} {v : Value} {sz : Nat} {x s : Ds} (h : Rd (U w) B v sz x s) (hb : Below B w w') : Rd (U w') B v sz x s :=
  h.mono (fun b o u hl hu => U_below hb b o u hl hu) (Nat.le_refl _)
theorem Rd.plain {F : Nat → Nat → Option Value} {hi : Nat} {v : Value} {sz : Nat} {x s : Ds} (h : Rd F hi v sz x s) : Rd F hi v sz x .nil := by
  obtain ⟨p, n, c, h1, h2, h3, h4, h5, h6⟩ := h
  refine ⟨p, n, c, h1, h2, h3, h4, by simp only [Ds.len]; omega, ?_⟩
  rcases h6 with h6 | h6 | ⟨b', o', e1, hl, ha, hs⟩
  · exact .inl h6
  · exact .inr (.inl ⟨h6.1, rfl, h6.2.2⟩)
  · exact .inr (.inr ⟨b', o', e1, hl, ha, trivial⟩)
theorem Rd.none_ (F : Nat → Nat → Option Value) (hi sz : Nat) : Rd F hi (.slice none 0 0) sz .nil .nil := ⟨none, 0, 0, rfl, by simp [Ds.len], Nat.le_refl _, Nat.zero_le _, by simp [Ds.len], .inl ⟨rfl, rfl⟩⟩
theorem Rd.slice {F : Nat → Nat → Option Value} {hi : Nat} {v : Value} {sz : Nat} {x s : Ds} (h : Rd F hi v sz x s) : ∃ p n c, v = .slice p n c ∧ n * sz = x.len ∧ n ≤ c ∧ c ≤ maxLen ∧ (p = none → c = 0) := by
  obtain ⟨p, n, c, rfl, h2, h5, h6, -, h7⟩ := h
  refine ⟨p, n, c, rfl, h2, h5, h6, ?_⟩
  rcases h7 with ⟨rfl, rfl⟩ | ⟨-, -, h0⟩ | ⟨b, o, rfl, _⟩
  · exact fun _ => rfl
  · exact fun h => absurd h h0
  · exact fun h => by cases h
/-- Where it holds anything, it lies somewhere. -/
theorem Rd.lies {F : Nat → Nat → Option Value} {hi : Nat} {p : Option Addr} {n c sz : Nat} {x s : Ds} (h : Rd F hi (.slice p n c) sz x s) (h0 : 0 < n) : ∃ b o, p = some ⟨b, o, none⟩ ∧ b < hi ∧ At F hi x b o ∧ At F hi s b (o + x.len) := by
  obtain ⟨p', n', c', e, h2, h3, h4, h5, h6⟩ := h
  cases e
  rcases h6 with ⟨rfl, rfl⟩ | ⟨h6, -⟩ | ⟨b, o, rfl, hl, ha, hs⟩
  · omega
  · omega
  · exact ⟨b, o, rfl, hl, ha, hs⟩
theorem At.app {F : Nat → Nat → Option Value} {hi : Nat} {x y : Ds} : ∀ {b o : Nat}, At F hi (x.app y) b o ↔ At F hi x b o ∧ At F hi y b (o + x.len) := by
  induction x with
  | nil => intro b o; simp [Ds.app, At, Ds.len]
  | lit v r ih =>
    intro b o
    simp only [Ds.app, At, ih, Ds.len, and_assoc]
    rw [show o + 1 + r.len = o + (r.len + 1) by omega]
  | row sz e x s r _ _ ih =>
    intro b o
    simp only [Ds.app, At, ih, Ds.len, and_assoc]
    rw [show o + 1 + r.len = o + (r.len + 1) by omega]

/-- Values that are such cells: of an argument, of a result. -/
def Vs (F : Nat → Nat → Option Value) (hi : Nat) : Ds → List Value → Prop
  | .nil, xs => xs = []
  | .lit v r, xs => ∃ ys, xs = v :: ys ∧ Vs F hi r ys
  | .row sz _ x s r, xs => ∃ v ys, xs = v :: ys ∧ Rd F hi v sz x s ∧ Vs F hi r ys
theorem Vs.mono {F F' : Nat → Nat → Option Value} {hi hi' : Nat} {x : Ds} : ∀ {xs : List Value}, Vs F hi x xs → (∀ b o v, b < hi → F b o = some v → F' b o = some v) → hi ≤ hi' → Vs F' hi' x xs := by
  induction x with
  | nil => intro xs h _ _; exact h
  | lit v r ih => rintro xs ⟨ys, e, h⟩ hF hh; exact ⟨ys, e, ih h hF hh⟩
  | row sz e x s r _ _ ih => rintro xs ⟨v, ys, e1, h1, h⟩ hF hh; exact ⟨v, ys, e1, h1.mono hF hh, ih h hF hh⟩
theorem Vs.len {F : Nat → Nat → Option Value} {hi : Nat} {x : Ds} : ∀ {xs : List Value}, Vs F hi x xs → xs.length = x.len := by
  induction x with
  | nil => intro xs h; simp [Vs] at h; simp [h, Ds.len]
  | lit v r ih => rintro xs ⟨ys, rfl, h⟩; simp [Ds.len, ih h]
  | row sz e x s r _ _ ih => rintro xs ⟨v, ys, rfl, h1, h⟩; simp [Ds.len, ih h]
/-- Cells that lie somewhere hold such values. -/
theorem Vs.at_ {F : Nat → Nat → Option Value} {hi : Nat} {x : Ds} : ∀ {xs : List Value} {b o : Nat}, Vs F hi x xs → (∀ j u, xs[j]? = some u → F b (o + j) = some u) → At F hi x b o := by
  induction x with
  | nil => intros; trivial
  | lit v r ih =>
    rintro xs b o ⟨ys, rfl, h⟩ hx
    refine ⟨hx 0 _ rfl, ih h fun j u hu => ?_⟩
    have := hx (j + 1) u (by simpa using hu)
    rw [show o + 1 + j = o + (j + 1) by omega]; exact this
  | row sz e x s r _ _ ih =>
    rintro xs b o ⟨v, ys, rfl, h1, h⟩ hx
    refine At_row.2 ⟨⟨v, hx 0 _ rfl, h1⟩, ih h fun j u hu => ?_⟩
    have := hx (j + 1) u (by simpa using hu)
    rw [show o + 1 + j = o + (j + 1) by omega]; exact this

/-- A row that lies in a block of its own (B), from block base on: m cells of it are seen, xs are the first of the block. -/
def RowO (w : World) (base sz e : Nat) (v : Value) (m : Nat) (xs : List Value) (B : List Nat) : Prop :=
  (∃ p, v = .slice p 0 0 ∧ m = 0 ∧ xs = [] ∧ B = []) ∨ ∃ g n cap cur, B = [g] ∧ v = .slice (some ⟨g, 0, none⟩) n cap ∧ base ≤ g ∧ w.heap[g]? = some (.cells cur e (0, 0)) ∧ n ≤ cap ∧ cap ≤ maxLen ∧ cur.size = cap * sz ∧ m = n * sz ∧ m ≤ xs.length ∧ xs.length ≤ cap * sz ∧ cur.toList.take xs.length = xs
/-- Such cells, all rows of them in blocks of their own (S). -/
def Own (w : World) (base : Nat) : Ds → List Value → List Nat → Prop
  | .nil, xs, S => xs = [] ∧ S = []
  | .lit v r, xs, S => ∃ ys, xs = v :: ys ∧ Own w base r ys S
  | .row sz e x s r, xs, S => ∃ v ys zs us B S1 S2 S3, xs = v :: ys ∧ RowO w base sz e v x.len (zs ++ us) B ∧ Own w base x zs S1 ∧ Own w base s us S2 ∧ Own w base r ys S3 ∧ S = B ++ (S1 ++ (S2 ++ S3))

theorem RowO.mem {w : World} {base sz e m : Nat} {v : Value} {xs : List Value} {B : List Nat} (h : RowO w base sz e v m xs B) : ∀ b ∈ B, base ≤ b ∧ b < w.heap.size := by
  rcases h with ⟨p, -, -, -, rfl⟩ | ⟨g, n, cap, cur, rfl, -, hb, hg, -⟩
  · intro b hb; cases hb
  · intro b hm
    obtain rfl : b = g := by simpa using hm
    exact ⟨hb, (Array.getElem?_eq_some_iff.1 hg).1⟩
theorem RowO.kept {w w' : World} {base sz e m : Nat} {v : Value} {xs : List Value} {B : List Nat} (h : RowO w base sz e v m xs B) (hk : ∀ b ∈ B, w'.heap[b]? = w.heap[b]?) : RowO w' base sz e v m xs B := by
  rcases h with h | ⟨g, n, cap, cur, rfl, h1, h2, h3, h4⟩
  · exact .inl h
  · exact .inr ⟨g, n, cap, cur, rfl, h1, h2, (hk g (by simp)).trans h3, h4⟩
theorem RowO.lower {w : World} {base base' sz e m : Nat} {v : Value} {xs : List Value} {B : List Nat} (h : RowO w base sz e v m xs B) (hl : base' ≤ base) : RowO w base' sz e v m xs B := by
  rcases h with h | ⟨g, n, cap, cur, rfl, h1, h2, h3⟩
  · exact .inl h
  · exact .inr ⟨g, n, cap, cur, rfl, h1, Nat.le_trans hl h2, h3⟩
theorem Own.mem {w : World} {base : Nat} {x : Ds} : ∀ {xs : List Value} {S : List Nat}, Own w base x xs S → ∀ b ∈ S, base ≤ b ∧ b < w.heap.size := by
  induction x with
  | nil => rintro xs S ⟨-, rfl⟩ b hb; cases hb
  | lit v r ih => rintro xs S ⟨ys, -, h⟩; exact ih h
  | row sz e x s r ihx ihs ihr =>
    rintro xs S ⟨v, ys, zs, us, B, S1, S2, S3, -, h1, h2, h3, h4, rfl⟩ b hb
    simp only [List.mem_append] at hb
    rcases hb with hb | hb | hb | hb
    · exact h1.mem b hb
    · exact ihx h2 b hb
    · exact ihs h3 b hb
    · exact ihr h4 b hb
theorem Own.kept {w w' : World} {base : Nat} {x : Ds} : ∀ {xs : List Value} {S : List Nat}, Own w base x xs S → (∀ b ∈ S, w'.heap[b]? = w.heap[b]?) → Own w' base x xs S := by
  induction x with
  | nil => intro xs S h _; exact h
  | lit v r ih => rintro xs S ⟨ys, e, h⟩ hk; exact ⟨ys, e, ih h hk⟩
  | row sz e x s r ihx ihs ihr =>
    rintro xs S ⟨v, ys, zs, us, B, S1, S2, S3, e1, h1, h2, h3, h4, rfl⟩ hk
    exact ⟨v, ys, zs, us, B, S1, S2, S3, e1, h1.kept (fun b hb => hk b (by simp [hb])), ihx h2 (fun b hb => hk b (by simp [hb])), ihs h3 (fun b hb => hk b (by simp [hb])), ihr h4 (fun b hb => hk b (by simp [hb])), rfl⟩
theorem Own.lower {w : World} {base base' : Nat} {x : Ds} (hl : base' ≤ base) : ∀ {xs : List Value} {S : List Nat}, Own w base x xs S → Own w base' x xs S := by
  induction x with
  | nil => intro xs S h; exact h
  | lit v r ih => rintro xs S ⟨ys, e, h⟩; exact ⟨ys, e, ih h⟩
  | row sz e x s r ihx ihs ihr =>
    rintro xs S ⟨v, ys, zs, us, B, S1, S2, S3, e1, h1, h2, h3, h4, rfl⟩
    exact ⟨v, ys, zs, us, B, S1, S2, S3, e1, h1.lower hl, ihx h2, ihs h3, ihr h4, rfl⟩
theorem Own.below {w w' : World} {base : Nat} {x : Ds} {xs : List Value} {S : List Nat} (h : Own w base x xs S) (hb : Below w.heap.size w w') : Own w' base x xs S :=
  h.kept fun b hm => hb.block b (h.mem b hm).2
theorem Own.len {w : World} {base : Nat} {x : Ds} : ∀ {xs : List Value} {S : List Nat}, Own w base x xs S → xs.length = x.len := by
  induction x with
  | nil => rintro xs S ⟨rfl, -⟩; rfl
  | lit v r ih => rintro xs S ⟨ys, rfl, h⟩; simp [Ds.len, ih h]
  | row sz e x s r _ _ ih => rintro xs S ⟨v, ys, zs, us, B, S1, S2, S3, rfl, h1, h2, h3, h4, rfl⟩; simp [Ds.len, ih h4]
theorem Own.app {w : World} {base : Nat} {y : Ds} {ys : List Value} {S2 : List Nat} (h2 : Own w base y ys S2) {x : Ds} : ∀ {xs : List Value} {S1 : List Nat}, Own w base x xs S1 → Own w base (x.app y) (xs ++ ys) (S1 ++ S2) := by
  induction x with
  | nil => rintro xs S1 ⟨rfl, rfl⟩; exact h2
  | lit v r ih => rintro xs S1 ⟨zs, rfl, h⟩; exact ⟨zs ++ ys, rfl, ih h⟩
  | row sz e x s r _ _ ih =>
    rintro xs S1 ⟨v, zs, us, ts, B, T1, T2, T3, rfl, h1, h3, h4, h5, rfl⟩
    exact ⟨v, zs ++ ys, us, ts, B, T1, T2, T3 ++ S2, rfl, h1, h3, h4, ih h5, by simp⟩
/-- Parted again. -/
theorem Own.split {w : World} {base : Nat} {y : Ds} {x : Ds} : ∀ {xs : List Value} {S : List Nat}, Own w base (x.app y) xs S → ∃ zs us S1 S2, xs = zs ++ us ∧ S = S1 ++ S2 ∧ Own w base x zs S1 ∧ Own w base y us S2 := by
  induction x with
  | nil => intro xs S h; exact ⟨[], xs, [], S, rfl, rfl, ⟨rfl, rfl⟩, h⟩
  | lit v r ih =>
    rintro xs S ⟨ys, rfl, h⟩
    obtain ⟨zs, us, S1, S2, rfl, rfl, h1, h2⟩ := ih h
    exact ⟨v :: zs, us, S1, S2, rfl, rfl, ⟨zs, rfl, h1⟩, h2⟩
  | row sz e x s r _ _ ih =>
    rintro xs S ⟨v, ys, zs, us, B, T1, T2, T3, rfl, h1, h3, h4, h5, rfl⟩
    obtain ⟨zs', us', S1, S2, rfl, rfl, h6, h7⟩ := ih h5
    exact ⟨v :: zs', us', B ++ (T1 ++ (T2 ++ S1)), S2, rfl, by simp, ⟨v, zs', zs, us, B, T1, T2, S1, rfl, h1, h3, h4, h6, rfl⟩, h7⟩

/-- What is owned reads. -/
theorem row_cell {w : World} {g e : Nat} {cur : Array Value} {xs : List Value} (hg : w.heap[g]? = some (.cells cur e (0, 0))) (ht : cur.toList.take xs.length = xs) : ∀ j u, xs[j]? = some u → U w g (0 + j) = some u := by
  intro j u hu
  rw [Nat.zero_add]
  have hj : j < xs.length := (List.getElem?_eq_some_iff.1 hu).1
  have h2 : (cur.toList.take xs.length)[j]? = some u := by rw [ht]; exact hu
  rw [List.getElem?_take, if_pos hj] at h2
  exact U_mk (by unfold World.cell?; rw [hg]; simpa using h2) (by simp [World.frozen?, hg])
theorem Own.vs {w : World} {base : Nat} {x : Ds} : ∀ {xs : List Value} {S : List Nat}, Own w base x xs S → Vs (U w) w.heap.size x xs := by
  induction x with
  | nil => rintro xs S ⟨rfl, -⟩; rfl
  | lit v r ih => rintro xs S ⟨ys, e, h⟩; exact ⟨ys, e, ih h⟩
  | row sz e x s r ihx ihs ihr =>
    rintro xs S ⟨v, ys, zs, us, B, S1, S2, S3, e1, h1, h2, h3, h4, rfl⟩
    refine ⟨v, ys, e1, ?_, ihr h4⟩
    have hv := ihx h2
    have hl := h2.len
    have hu := ihs h3
    have hul := h3.len
    rcases h1 with ⟨p, rfl, h5, h6, rfl⟩ | ⟨g, n, cap, cur, rfl, rfl, h4, h5, h6, h7, h8, h9, h10, h11, h12⟩
    · obtain ⟨rfl, rfl⟩ := List.append_eq_nil_iff.1 h6
      have hs : s.len = 0 := by simpa using hul.symm
      refine ⟨p, 0, 0, rfl, by omega, Nat.le_refl _, Nat.zero_le _, by omega, ?_⟩
      by_cases hp : p = none
      · exact .inl ⟨hp, rfl⟩
      · exact .inr (.inl ⟨rfl, hs, hp⟩)
    · have hc := row_cell h5 h12
      refine ⟨_, n, cap, rfl, by omega, h6, h7, by rw [← hl, ← hul, ← List.length_append]; exact h11, .inr (.inr ⟨g, 0, rfl, (Array.getElem?_eq_some_iff.1 h5).1, hv.at_ (fun j u hj => hc j u ?_), hu.at_ (fun j u hj => ?_)⟩)⟩
      · rw [List.getElem?_append_left (List.getElem?_eq_some_iff.1 hj).1]; exact hj
      · have := hc (x.len + j) u (by rw [← hl, List.getElem?_append_right (by omega)]; simpa using hj)
        rw [← Nat.add_assoc] at this; exact this
end Go.Proofs.YtkcmapimcgppmaaGreatDoor
end
section
namespace Go.Proofs.YtkcmapimcgppmaaGreatDoor
open Go.RowKit

/-- A level: its parts. -/
abbrev Lv := List (Int × Int)
/-- A node's own: its kind, its two numbers, its levels. -/
structure Hd where
  k : Int
  n : Int
  a : Int
  l : List Lv
/-- A row of terms: the first one's node, its kids, the other terms. -/
inductive Ts where
  | nil
  | cons (h : Hd) (kids rest : Ts)

def Hd.zero : Hd := ⟨0, 0, 0, []⟩
namespace Ts
def len : Ts → Nat
  | nil => 0
  | cons _ _ r => r.len + 1
def hd : Ts → Nat → Hd
  | nil, _ => .zero
  | cons h _ _, 0 => h
  | cons _ _ r, k + 1 => r.hd k
def kd : Ts → Nat → Ts
  | nil, _ => nil
  | cons _ x _, 0 => x
  | cons _ _ r, k + 1 => r.kd k
/-- How many terms there are, at every depth. -/
def count : Ts → Nat
  | nil => 0
  | cons _ x r => x.count + r.count + 1
def app : Ts → Ts → Ts
  | nil, y => y
  | cons w x r, y => cons w x (r.app y)
def snoc (x : Ts) (w : Hd) (k : Ts) : Ts := x.app (cons w k nil)
def take : Nat → Ts → Ts
  | 0, _ => nil
  | _ + 1, nil => nil
  | n + 1, cons w x r => cons w x (take n r)
def drop : Nat → Ts → Ts
  | 0, t => t
  | _ + 1, nil => nil
  | n + 1, cons _ _ r => drop n r
theorem count_kd {t : Ts} {k : Nat} (h : k < t.len) : (t.kd k).count < t.count := by
  induction t generalizing k with
  | nil => simp [len] at h
  | cons w x r _ ih =>
    cases k with
    | zero => simp [kd, count]; omega
    | succ k =>
      have := ih (k := k) (by simp [len] at h; omega)
      simp [kd, count]; omega
theorem app_len (x y : Ts) : (x.app y).len = x.len + y.len := by
  induction x with
  | nil => simp [app, len]
  | cons w k r _ ih => simp [app, len, ih]; omega
theorem app_assoc (x y z : Ts) : (x.app y).app z = x.app (y.app z) := by
  induction x with
  | nil => rfl
  | cons w k r _ ih => simp [app, ih]
theorem app_nil (x : Ts) : x.app nil = x := by
  induction x with
  | nil => rfl
  | cons w k r _ ih => simp [app, ih]
theorem take_len (t : Ts) : t.take t.len = t := by
  induction t with
  | nil => rfl
  | cons w k r _ ih => simp [take, len, ih]
theorem take_succ {t : Ts} {k : Nat} (h : k < t.len) : t.take (k + 1) = (t.take k).snoc (t.hd k) (t.kd k) := by
  induction t generalizing k with
  | nil => simp [len] at h
  | cons w x r _ ih =>
    cases k with
    | zero => simp [take, snoc, app, hd, kd]
    | succ k =>
      have := ih (k := k) (by simp [len] at h; omega)
      simp [take, snoc, app, hd, kd] at this ⊢
      exact this
theorem take_len_le {t : Ts} {k : Nat} (h : k ≤ t.len) : (t.take k).len = k := by
  induction t generalizing k with
  | nil => simp [len] at h; subst h; rfl
  | cons w x r _ ih =>
    cases k with
    | zero => rfl
    | succ k => simp [take, len]; exact ih (by simp [len] at h; omega)
theorem drop_step {t : Ts} {k : Nat} (h : k < t.len) : t.drop k = cons (t.hd k) (t.kd k) (t.drop (k + 1)) := by
  induction t generalizing k with
  | nil => simp [len] at h
  | cons w x r _ ih =>
    cases k with
    | zero => rfl
    | succ k => exact ih (k := k) (by simp [len] at h; omega)
theorem drop_len (t : Ts) : t.drop t.len = nil := by
  induction t with
  | nil => rfl
  | cons w x r _ ih => exact ih
theorem len_le_count (t : Ts) : t.len ≤ t.count := by
  induction t with
  | nil => simp [len]
  | cons w x r _ ih => simp [len, count]; omega
end Ts

/-- The types of a part, a level, a term, as elements of a row. -/
structure Tys where
  p : Nat
  l : Nat
  t : Nat

def i64 (n : Int) : Value := .int .i64 n
/-- Parts as cells; levels; terms. -/
def ptDs : Lv → Ds
  | [] => .nil
  | p :: r => .lit (.int .i64 p.1) (.lit (.int .i64 p.2) (ptDs r))
def lvDs (y : Tys) : List Lv → Ds
  | [] => .nil
  | p :: r => .row 2 y.p (ptDs p) .nil (lvDs y r)
def tDs (y : Tys) : Ts → Ds
  | .nil => .nil
  | .cons h x r => .lit (.int .i64 h.k) (.lit (.int .i64 h.n) (.lit (.int .i64 h.a) (.row 1 y.l (lvDs y h.l) .nil (.row 5 y.t (tDs y x) .nil (tDs y r)))))
theorem ptDs_len (p : Lv) : (ptDs p).len = p.length * 2 := by
  induction p with
  | nil => rfl
  | cons a r ih => simp [ptDs, Ds.len, ih]; omega
theorem lvDs_len (y : Tys) (l : List Lv) : (lvDs y l).len = l.length := by
  induction l with
  | nil => rfl
  | cons a r ih => simp [lvDs, Ds.len, ih]
theorem tDs_len (y : Tys) (t : Ts) : (tDs y t).len = t.len * 5 := by
  induction t with
  | nil => simp [tDs, Ds.len, Ts.len]
  | cons h x r _ ih => simp [tDs, Ds.len, Ts.len, ih]; omega
theorem ptDs_app (p q : Lv) : ptDs (p ++ q) = (ptDs p).app (ptDs q) := by
  induction p with
  | nil => rfl
  | cons a r ih => simp [ptDs, Ds.app, ih]
theorem lvDs_app (y : Tys) (p q : List Lv) : lvDs y (p ++ q) = (lvDs y p).app (lvDs y q) := by
  induction p with
  | nil => rfl
  | cons a r ih => simp [lvDs, Ds.app, ih]
theorem tDs_app (y : Tys) (p q : Ts) : tDs y (p.app q) = (tDs y p).app (tDs y q) := by
  induction p with
  | nil => rfl
  | cons h x r _ ih => simp [tDs, Ts.app, Ds.app, ih]
theorem tDs_snoc (y : Tys) (t : Ts) (h : Hd) (x : Ts) : tDs y (t.snoc h x) = (tDs y t).app (tDs y (.cons h x .nil)) := tDs_app y t _

/-- The k-th of some parts; of some levels; of some terms. -/
theorem pt_at {F : Nat → Nat → Option Value} {hi : Nat} {p : Lv} : ∀ {b o k : Nat}, At F hi (ptDs p) b o → (h : k < p.length) → F b (o + k * 2) = some (.int .i64 p[k].1) ∧ F b (o + k * 2 + 1) = some (.int .i64 p[k].2) := by
  induction p with
  | nil => intro b o k _ h; cases h
  | cons a r ih =>
    rintro b o k ⟨h1, h2, h3⟩ hk
    cases k with
    | zero => exact ⟨h1, h2⟩
    | succ k =>
      have := ih h3 (k := k) (by simpa using hk)
      rw [show o + 1 + 1 + k * 2 = o + (k + 1) * 2 by omega] at this
      simpa using this
theorem lv_at {F : Nat → Nat → Option Value} {hi : Nat} {y : Tys} {l : List Lv} : ∀ {b o k : Nat}, At F hi (lvDs y l) b o → (h : k < l.length) → ∃ v, F b (o + k) = some v ∧ Rd F hi v 2 (ptDs l[k]) .nil := by
  induction l with
  | nil => intro b o k _ h; cases h
  | cons a r ih =>
    intro b o k h hk
    obtain ⟨h1, h2⟩ := At_row.1 h
    cases k with
    | zero => exact h1
    | succ k =>
      have := ih h2 (k := k) (by simpa using hk)
      rw [show o + 1 + k = o + (k + 1) by omega] at this
      simpa using this
theorem t_at {F : Nat → Nat → Option Value} {hi : Nat} {y : Tys} {t : Ts} : ∀ {b o k : Nat}, At F hi (tDs y t) b o → k < t.len →
    F b (o + k * 5) = some (.int .i64 (t.hd k).k) ∧ F b (o + k * 5 + 1) = some (.int .i64 (t.hd k).n) ∧ F b (o + k * 5 + 2) = some (.int .i64 (t.hd k).a) ∧
      (∃ v, F b (o + k * 5 + 3) = some v ∧ Rd F hi v 1 (lvDs y (t.hd k).l) .nil) ∧ ∃ v, F b (o + k * 5 + 4) = some v ∧ Rd F hi v 5 (tDs y (t.kd k)) .nil := by
  induction t with
  | nil => intro b o k _ h; simp [Ts.len] at h
  | cons w x r _ ih =>
    rintro b o k ⟨h1, h2, h3, h45⟩ hk
    obtain ⟨h4, h5⟩ := At_row.1 h45
    obtain ⟨h5, h6⟩ := At_row.1 h5
    cases k with
    | zero => exact ⟨h1, h2, h3, h4, h5⟩
    | succ k =>
      have := ih h6 (k := k) (by simp [Ts.len] at hk; omega)
      rw [show o + 1 + 1 + 1 + 1 + 1 + k * 5 = o + (k + 1) * 5 by omega] at this
      exact this
end Go.Proofs.YtkcmapimcgppmaaGreatDoor
end
section
namespace Go.Proofs.YtkcmapimcgppmaaGreatDoor
open Go.RowKit

/-- Levels, exactly. -/
def lvSize : List Lv → Nat
  | [] => 0
  | p :: r => 1 + p.length + lvSize r
/-- Levels, counted. -/
def lvCount : List Lv → Int → Int → Int
  | [], _, n => n
  | p :: r, m, n => if n ≤ m then lvCount r m (n + min (1 + (p.length : Int)) (m + 1)) else n
namespace Ts
/-- Terms, exactly. -/
def size : Ts → Nat
  | nil => 0
  | cons h x r => 1 + lvSize h.l + x.size + r.size
/-- Terms, counted. -/
def cnt : Ts → Int → Int → Int
  | nil, _, n => n
  | cons h x r, m, n => if n ≤ m then r.cnt m (n + (1 + lvCount h.l (m - n) 0 + x.cnt (m - n) 0)) else n
end Ts
theorem lvCount_ge (l : List Lv) : ∀ m n : Int, 0 ≤ m → n ≤ lvCount l m n := by
  induction l with
  | nil => intro m n _; exact Int.le_refl _
  | cons p r ih =>
    intro m n h0
    simp only [lvCount]
    split
    · have := ih m (n + min (1 + (p.length : Int)) (m + 1)) h0
      omega
    · omega
theorem lvCount_le (l : List Lv) : ∀ m n : Int, 0 ≤ m → n ≤ 2 * m + 1 → lvCount l m n ≤ 2 * m + 1 := by
  induction l with
  | nil => intro m n _ h; exact h
  | cons p r ih =>
    intro m n h0 h
    simp only [lvCount]
    split
    · exact ih _ _ h0 (by omega)
    · omega
theorem Ts.cnt_ge (t : Ts) : ∀ m n : Int, 0 ≤ m → n ≤ t.cnt m n := by
  induction t with
  | nil => intro m n _; exact Int.le_refl _
  | cons h x r ihx ihr =>
    intro m n h0
    simp only [Ts.cnt]
    split
    · have h1 := ihx (m - n) 0 (by omega)
      have h2 := ihr m (n + (1 + lvCount h.l (m - n) 0 + x.cnt (m - n) 0)) h0
      have h3 := lvCount_ge h.l (m - n) 0 (by omega)
      omega
    · omega
theorem Ts.cnt_le (t : Ts) : ∀ m n : Int, 0 ≤ m → m ≤ 1000 → 0 ≤ n → t.cnt m n ≤ n + 2002 * t.count := by
  induction t with
  | nil => intro m n _ _ _; simp [Ts.cnt, Ts.count]
  | cons h x r ihx ihr =>
    intro m n h0 h1 hn0
    simp only [Ts.cnt, Ts.count]
    split
    · have h2 := ihx (m - n) 0 (by omega) (by omega) (Int.le_refl _)
      have h3 := lvCount_le h.l (m - n) 0 (by omega) (by omega)
      have h4 := lvCount_ge h.l (m - n) 0 (by omega)
      have h5 := Ts.cnt_ge x (m - n) 0 (by omega)
      have h6 := ihr m (n + (1 + lvCount h.l (m - n) 0 + x.cnt (m - n) 0)) h0 h1 (by omega)
      omega
    · omega
theorem Ts.count_le_size (t : Ts) : t.count ≤ t.size := by
  induction t with
  | nil => simp [Ts.count]
  | cons h x r ihx ihr => simp only [Ts.count, Ts.size]; omega
theorem Ts.size_kd {t : Ts} {k : Nat} (h : k < t.len) : (t.kd k).size + lvSize (t.hd k).l < t.size := by
  induction t generalizing k with
  | nil => simp [Ts.len] at h
  | cons w x r _ ih =>
    cases k with
    | zero => simp only [Ts.kd, Ts.hd, Ts.size]; omega
    | succ k =>
      have := ih (k := k) (by simp [Ts.len] at h; omega)
      simp only [Ts.kd, Ts.hd, Ts.size]; omega
/-- Counted from a place on: what a loop has yet to count. -/
theorem Ts.cnt_drop {t : Ts} {k : Nat} (h : k < t.len) (m n : Int) (hn : n ≤ m) : (t.drop k).cnt m n = (t.drop (k + 1)).cnt m (n + (1 + lvCount (t.hd k).l (m - n) 0 + (t.kd k).cnt (m - n) 0)) := by
  rw [Ts.drop_step h, Ts.cnt, if_pos hn]
theorem lvCount_drop {l : List Lv} {k : Nat} (h : k < l.length) (m n : Int) (hn : n ≤ m) : lvCount (l.drop k) m n = lvCount (l.drop (k + 1)) m (n + min (1 + (l[k].length : Int)) (m + 1)) := by
  rw [List.drop_eq_getElem_cons h, lvCount, if_pos hn]
end Go.Proofs.YtkcmapimcgppmaaGreatDoor
end
section
namespace Go.Proofs.YtkcmapimcgppmaaGreatDoor
open Go.RowKit

/-- What lies behind the ends is left out. -/
def Ds.strip : Ds → Ds
  | .nil => .nil
  | .lit v r => .lit v r.strip
  | .row sz e x _ r => .row sz e x.strip .nil r.strip
theorem Ds.strip_len (x : Ds) : x.strip.len = x.len := by
  induction x with
  | nil => rfl
  | lit v r ih => simp [strip, len, ih]
  | row sz e x s r _ _ ih => simp [strip, len, ih]
theorem At.strip {F : Nat → Nat → Option Value} {hi : Nat} {x : Ds} : ∀ {b o : Nat}, At F hi x b o → At F hi x.strip b o := by
  induction x with
  | nil => intros; trivial
  | lit v r ih => rintro b o ⟨h1, h2⟩; exact ⟨h1, ih h2⟩
  | row sz e x s r ihx _ ih =>
    rintro b o ⟨⟨p, n, c, h1, h2, h3, h4, h5, h6⟩, h7⟩
    refine ⟨⟨p, n, c, h1, by rw [Ds.strip_len]; exact h2, h3, h4, by rw [Ds.strip_len]; simp only [Ds.len]; omega, ?_⟩, ih h7⟩
    rcases h6 with h6 | h6 | ⟨b', o', e1, hl, ha, hs⟩
    · exact .inl h6
    · exact .inr (.inl ⟨h6.1, rfl, h6.2.2⟩)
    · exact .inr (.inr ⟨b', o', e1, hl, ihx ha, trivial⟩)
theorem Rd.strip {F : Nat → Nat → Option Value} {hi : Nat} {v : Value} {sz : Nat} {x s : Ds} (h : Rd F hi v sz x s) : Rd F hi v sz x.strip .nil := by
  obtain ⟨p, n, c, h1, h2, h3, h4, h5, h6⟩ := h
  refine ⟨p, n, c, h1, by rw [Ds.strip_len]; exact h2, h3, h4, by rw [Ds.strip_len]; simp only [Ds.len]; omega, ?_⟩
  rcases h6 with h6 | h6 | ⟨b', o', e1, hl, ha, hs⟩
  · exact .inl h6
  · exact .inr (.inl ⟨h6.1, rfl, h6.2.2⟩)
  · exact .inr (.inr ⟨b', o', e1, hl, ha.strip, trivial⟩)

/-- Marks. -/
def mark (k i : Nat) : Int := 1000003 * ((k : Int) + 7) + i
def ptMark (k i : Nat) : Int × Int := (0, mark k i)
def lvMark (k i : Nat) : Lv := [ptMark k i]
def tMark (k i : Nat) : Hd := ⟨0, mark k i, 0, []⟩
def ptMarks (k : Nat) : Nat → Lv
  | 0 => []
  | n + 1 => ptMarks k n ++ [ptMark k n]
def lvMarks (k : Nat) : Nat → List Lv
  | 0 => []
  | n + 1 => lvMarks k n ++ [lvMark k n]
def tMarks (k : Nat) : Nat → Ts
  | 0 => .nil
  | n + 1 => (tMarks k n).snoc (tMark k n) .nil
/-- Levels, terms with marks. -/
def lentLv (y : Tys) : List Lv → Ds
  | [] => .nil
  | p :: r => .row 2 y.p (ptDs p) (ptDs (ptMarks 1 12)) (lentLv y r)
def lentT (y : Tys) : Ts → Ds
  | .nil => .nil
  | .cons h x r => .lit (.int .i64 h.k) (.lit (.int .i64 h.n) (.lit (.int .i64 h.a) (.row 1 y.l (lentLv y h.l) (lvDs y (lvMarks 1 12)) (.row 5 y.t (lentT y x) (tDs y (tMarks 1 12)) (lentT y r)))))
theorem ptDs_strip (p : Lv) : (ptDs p).strip = ptDs p := by
  induction p with
  | nil => rfl
  | cons a r ih => simp [ptDs, Ds.strip, ih]
theorem lentLv_strip (y : Tys) (l : List Lv) : (lentLv y l).strip = lvDs y l := by
  induction l with
  | nil => rfl
  | cons a r ih => simp [lentLv, lvDs, Ds.strip, ih, ptDs_strip]
theorem lentT_strip (y : Tys) (t : Ts) : (lentT y t).strip = tDs y t := by
  induction t with
  | nil => rfl
  | cons h x r ihx ih => simp [lentT, tDs, Ds.strip, ih, ihx, lentLv_strip]
theorem lentLv_len (y : Tys) (l : List Lv) : (lentLv y l).len = l.length := by rw [← Ds.strip_len, lentLv_strip, lvDs_len]
theorem lentT_len (y : Tys) (t : Ts) : (lentT y t).len = t.len * 5 := by rw [← Ds.strip_len, lentT_strip, tDs_len]
theorem lentLv_app (y : Tys) (p q : List Lv) : lentLv y (p ++ q) = (lentLv y p).app (lentLv y q) := by
  induction p with
  | nil => rfl
  | cons a r ih => simp [lentLv, Ds.app, ih]
theorem lentT_app (y : Tys) (p q : Ts) : lentT y (p.app q) = (lentT y p).app (lentT y q) := by
  induction p with
  | nil => rfl
  | cons h x r _ ih => simp [lentT, Ts.app, Ds.app, ih]
end Go.Proofs.YtkcmapimcgppmaaGreatDoor
end
section
namespace Go.Proofs.YtkcmapimcgppmaaGreatDoor
open Go.RowKit

theorem nodup_two {S T : List Nat} (m : Nat) (h1 : S.Nodup) (h2 : T.Nodup) (h3 : ∀ b ∈ S, b < m) (h4 : ∀ b ∈ T, m ≤ b) : (S ++ T).Nodup :=
  List.nodup_append.2 ⟨h1, h2, fun a ha b hb e => by have := h3 a ha; have := h4 b hb; omega⟩
theorem RowO.of {w : World} {base sz e n : Nat} {v : Value} {xs : List Value} (h : w.ownsRow base e sz v n xs) : RowO w base sz e v (n * sz) xs v.ownBlock.toList := by
  rcases h.2 with ⟨rfl, rfl⟩ | ⟨g, cap, cur, rfl, h1, h2, h3, h4, h5, h6⟩
  · exact .inl ⟨none, rfl, by simp, by have := h.1; simpa using this, rfl⟩
  · exact .inr ⟨g, n, cap, cur, rfl, rfl, h1, h2, h3, h4, h5, rfl, by rw [h.1]; exact Nat.le_refl _, by rw [h.1]; exact Nat.mul_le_mul_right _ h3, by rw [h.1]; exact h6⟩
/-- A part of it seen alone. -/
theorem RowO.cut {w : World} {base sz e n m : Nat} {p : Option Addr} {c : Nat} {xs : List Value} (h : w.ownsRow base e sz (.slice p n c) n xs) (hm : m ≤ n) : RowO w base sz e (.slice p m c) (m * sz) xs (Value.slice p n c).ownBlock.toList := by
  rcases h.2 with ⟨h1, rfl⟩ | ⟨g, cap, cur, h0, h1, h2, h3, h4, h5, h6⟩
  · cases h1
    obtain rfl : m = 0 := by omega
    exact .inl ⟨none, rfl, by simp, by have := h.1; simpa using this, rfl⟩
  · cases h0
    exact .inr ⟨g, m, c, cur, rfl, rfl, h1, h2, by omega, h4, h5, rfl, by rw [h.1]; exact Nat.mul_le_mul_right _ hm, by rw [h.1]; exact Nat.mul_le_mul_right _ h3, by rw [h.1]; exact h6⟩
theorem ownsRow_below {w w' : World} {base e size n : Nat} {v : Value} {xs : List Value} (h : w.ownsRow base e size v n xs) (hb : Below w.heap.size w w') : w'.ownsRow base e size v n xs := by
  refine h.kept (row := none) ⟨hb.os, hb.tape, hb.output, hb.size, fun k hk _ => hb.block k hk⟩ ?_
  cases hv : v.ownBlock
  · exact .inl rfl
  · exact .inr (by simp)

/-- A row of n elements so far, x their cells. -/
def RowG (w : World) (base sz e : Nat) (v : Value) (n : Nat) (x : Ds) (S : List Nat) : Prop :=
  ∃ xs, w.ownsRow base e sz v n xs ∧ Own w base x xs S ∧ (v.ownBlock.toList ++ S).Nodup
theorem RowG.nil (w : World) (base sz e : Nat) : RowG w base sz e (.slice none 0 0) 0 .nil [] := ⟨[], World.ownsRow_nil w base e sz, ⟨rfl, rfl⟩, by simp [Value.ownBlock]⟩
theorem RowG.below {w w' : World} {base sz e n : Nat} {v : Value} {x : Ds} {S : List Nat} (h : RowG w base sz e v n x S) (hb : Below w.heap.size w w') : RowG w' base sz e v n x S := by
  obtain ⟨xs, h1, h2, h3⟩ := h
  exact ⟨xs, ownsRow_below h1 hb, h2.below hb, h3⟩
theorem RowG.mem {w : World} {base sz e n : Nat} {v : Value} {x : Ds} {S : List Nat} (h : RowG w base sz e v n x S) : ∀ b ∈ v.ownBlock.toList ++ S, base ≤ b ∧ b < w.heap.size := by
  obtain ⟨xs, h1, h2, h3⟩ := h
  intro b hb
  rcases List.mem_append.1 hb with hb | hb
  · exact h1.lt b (by simpa using hb)
  · exact h2.mem b hb
/-- An append of one element more (w1: the world in which it is appended; m: what parts the elder blocks from the element's). -/
theorem RowG.push {w1 w2 : World} {base sz e n k m : Nat} {v v' : Value} {x y : Ds} {xs ys : List Value} {S S2 : List Nat}
    (hx : Own w1 base x xs S) (hnd : (v.ownBlock.toList ++ S).Nodup) (hlt : ∀ b ∈ v.ownBlock.toList ++ S, b < m)
    (hy : Own w1 base y ys S2) (hnd2 : S2.Nodup) (hge : ∀ b ∈ S2, m ≤ b)
    (hown : w2.ownsRow base e sz v' (n + k) (xs ++ ys)) (hg : w1.grownBy w2 v.ownBlock) (hat : v'.ownBlock = v.ownBlock ∨ v'.ownBlock = some w1.heap.size) : RowG w2 base sz e v' (n + k) (x.app y) (S ++ S2) := by
  have hd : ∀ b ∈ S ++ S2, v.ownBlock ≠ some b := by
    intro b hb e1
    rcases List.mem_append.1 hb with hb | hb
    · exact (List.nodup_append.1 hnd).2.2 b (by simp [e1]) b hb rfl
    · have := hlt b (by simp [e1]); have := hge b hb; omega
  have hk : ∀ b ∈ S ++ S2, w2.heap[b]? = w1.heap[b]? := fun b hb => hg.block b (by
    rcases List.mem_append.1 hb with hb | hb
    · exact (hx.mem b hb).2
    · exact (hy.mem b hb).2) (fun e1 => hd b hb e1.symm)
  have hxy : Own w1 base (x.app y) (xs ++ ys) (S ++ S2) := Own.app hy hx
  refine ⟨_, hown, hxy.kept hk, List.nodup_append.2 ⟨by cases v'.ownBlock <;> simp, nodup_two m (List.nodup_append.1 hnd).2.1 hnd2 (fun b hb => hlt b (by simp [hb])) hge, ?_⟩⟩
  intro a ha b hb e1
  subst e1
  have ha' : v'.ownBlock = some a := by simpa using ha
  rcases hat with e1 | e1
  · exact hd a hb (e1.symm.trans ha')
  · rw [e1] at ha'
    obtain rfl : w1.heap.size = a := by simpa using ha'
    have := (hxy.mem _ hb).2
    omega
/-- The row as it is told. -/
theorem RowG.own {w : World} {base sz e n : Nat} {v : Value} {x : Ds} {S : List Nat} (h : RowG w base sz e v n x S) : Own w base (.row sz e x .nil .nil) [v] (v.ownBlock.toList ++ S) := by
  obtain ⟨xs, h1, h2, h3⟩ := h
  have hl := h2.len
  refine ⟨v, [], xs, [], v.ownBlock.toList, S, [], [], rfl, ?_, h2, ⟨rfl, rfl⟩, ⟨rfl, rfl⟩, by simp⟩
  rw [← hl, h1.1, List.append_nil]
  exact RowO.of h1
/-- Its first elements told alone; what lies behind them is known. -/
theorem RowG.cut {w : World} {base sz e n m : Nat} {p : Option Addr} {c : Nat} {x s : Ds} {S : List Nat} (h : RowG w base sz e (.slice p n c) n (x.app s) S) (hm : m ≤ n) (hx : x.len = m * sz) : Own w base (.row sz e x s .nil) [.slice p m c] ((Value.slice p n c).ownBlock.toList ++ S) := by
  obtain ⟨xs, h1, h2, h3⟩ := h
  obtain ⟨zs, us, S1, S2, rfl, rfl, h4, h5⟩ := Own.split h2
  refine ⟨_, [], zs, us, (Value.slice p n c).ownBlock.toList, S1, S2, [], rfl, ?_, h4, h5, ⟨rfl, rfl⟩, by simp⟩
  rw [hx]
  exact RowO.cut h1 hm
/-- The cells of a block that has just been laid. -/
theorem new_cells (w : World) (l : List Value) (e : TypeId) : ∀ j u, l[j]? = some u → (w.alloc (.cells l.toArray e)).cell? ((⟨w.heap.size, 0, none⟩ : Addr).add j) = some u := by
  intro j u hu
  have e1 : ((⟨w.heap.size, 0, none⟩ : Addr).add j) = ⟨w.heap.size, j, none⟩ := by
    unfold Addr.add; split
    · rename_i hj; subst hj; rfl
    · simp
  rw [e1]
  exact (cell_of_row _ _ j l.toArray e (0, 0) (heap_alloc_new w _)).trans (by simpa using hu)
end Go.Proofs.YtkcmapimcgppmaaGreatDoor
end
section
namespace Go.Proofs.YtkcmapimcgppmaaGreatDoor
open Go.RowKit

/-- A row of parts, of levels, of terms. -/
def RP (w : World) (v : Value) (p : Lv) : Prop := Rd (U w) w.heap.size v 2 (ptDs p) .nil
def RL (y : Tys) (w : World) (v : Value) (l : List Lv) : Prop := Rd (U w) w.heap.size v 1 (lvDs y l) .nil
def RT (y : Tys) (w : World) (v : Value) (t : Ts) : Prop := Rd (U w) w.heap.size v 5 (tDs y t) .nil
variable {y : Tys} {w w' : World} {v : Value} {p : Lv} {l : List Lv} {t : Ts}
theorem RP.on (h : RP w v p) (hb : Below w.heap.size w w') : RP w' v p := Rd.on h hb
theorem RL.on (h : RL y w v l) (hb : Below w.heap.size w w') : RL y w' v l := Rd.on h hb
theorem RT.on (h : RT y w v t) (hb : Below w.heap.size w w') : RT y w' v t := Rd.on h hb
theorem RP.slice (h : RP w v p) : ∃ q c, v = .slice q p.length c ∧ p.length ≤ c ∧ c ≤ maxLen ∧ (q = none → c = 0) := by
  obtain ⟨q, n, c, rfl, h1, h2, h3, h4⟩ := Rd.slice h
  rw [ptDs_len] at h1
  obtain rfl : n = p.length := by omega
  exact ⟨q, c, rfl, h2, h3, h4⟩
theorem RL.slice (h : RL y w v l) : ∃ q c, v = .slice q l.length c ∧ l.length ≤ c ∧ c ≤ maxLen ∧ (q = none → c = 0) := by
  obtain ⟨q, n, c, rfl, h1, h2, h3, h4⟩ := Rd.slice h
  rw [lvDs_len] at h1
  obtain rfl : n = l.length := by omega
  exact ⟨q, c, rfl, h2, h3, h4⟩
theorem RT.slice (h : RT y w v t) : ∃ q c, v = .slice q t.len c ∧ t.len ≤ c ∧ c ≤ maxLen ∧ (q = none → c = 0) := by
  obtain ⟨q, n, c, rfl, h1, h2, h3, h4⟩ := Rd.slice h
  rw [tDs_len] at h1
  obtain rfl : n = t.len := by omega
  exact ⟨q, c, rfl, h2, h3, h4⟩
theorem RP.at_ {q : Option Addr} {n c k : Nat} (h : RP w (.slice q n c) p) (hk : k < p.length) : ∃ b o, q = some ⟨b, o, none⟩ ∧ b < w.heap.size ∧ U w b (o + k * 2) = some (.int .i64 p[k].1) ∧ U w b (o + k * 2 + 1) = some (.int .i64 p[k].2) := by
  obtain ⟨q', c', e1, -⟩ := h.slice
  cases e1
  obtain ⟨b, o, rfl, hl, ha, -⟩ := Rd.lies h (by omega)
  exact ⟨b, o, rfl, hl, pt_at ha hk⟩
theorem RL.at_ {q : Option Addr} {n c k : Nat} (h : RL y w (.slice q n c) l) (hk : k < l.length) : ∃ b o, q = some ⟨b, o, none⟩ ∧ b < w.heap.size ∧ ∃ r d, U w b (o + k) = some (.slice r l[k].length d) ∧ l[k].length ≤ d ∧ d ≤ maxLen ∧ RP w (.slice r l[k].length d) l[k] := by
  obtain ⟨q', c', e1, -⟩ := h.slice
  cases e1
  obtain ⟨b, o, rfl, hl, ha, -⟩ := Rd.lies h (by omega)
  obtain ⟨u, hu, hr⟩ := lv_at ha hk
  obtain ⟨r, d, rfl, h1, h2, -⟩ := RP.slice (w := w) hr
  exact ⟨b, o, rfl, hl, r, d, hu, h1, h2, hr⟩
theorem RT.at_ {q : Option Addr} {n c k : Nat} (h : RT y w (.slice q n c) t) (hk : k < t.len) : ∃ b o, q = some ⟨b, o, none⟩ ∧ b < w.heap.size ∧
    U w b (o + k * 5) = some (.int .i64 (t.hd k).k) ∧ U w b (o + k * 5 + 1) = some (.int .i64 (t.hd k).n) ∧ U w b (o + k * 5 + 2) = some (.int .i64 (t.hd k).a) ∧
    (∃ r d, U w b (o + k * 5 + 3) = some (.slice r (t.hd k).l.length d) ∧ (t.hd k).l.length ≤ d ∧ d ≤ maxLen ∧ RL y w (.slice r (t.hd k).l.length d) (t.hd k).l) ∧
    ∃ r d, U w b (o + k * 5 + 4) = some (.slice r (t.kd k).len d) ∧ (t.kd k).len ≤ d ∧ d ≤ maxLen ∧ RT y w (.slice r (t.kd k).len d) (t.kd k) := by
  obtain ⟨q', c', e1, -⟩ := h.slice
  cases e1
  obtain ⟨b, o, rfl, hl, ha, -⟩ := Rd.lies h (by omega)
  obtain ⟨h1, h2, h3, ⟨u, hu, hr⟩, ⟨u', hu', hr'⟩⟩ := t_at ha hk
  obtain ⟨r, d, rfl, g1, g2, -⟩ := RL.slice (w := w) hr
  obtain ⟨r', d', rfl, g3, g4, -⟩ := RT.slice (w := w) hr'
  exact ⟨b, o, rfl, hl, h1, h2, h3, ⟨r, d, hu, g1, g2, hr⟩, ⟨r', d', hu', g3, g4, hr'⟩⟩

/-- One term, as a value. -/
def RM (y : Tys) (w : World) (v : Value) (h : Hd) (x : Ts) : Prop :=
  ∃ q n c r m d, v = .agg #[.int .i64 h.k, .int .i64 h.n, .int .i64 h.a, .slice q n c, .slice r m d] ∧ RL y w (.slice q n c) h.l ∧ RT y w (.slice r m d) x
theorem RM.on {h : Hd} {x : Ts} (hm : RM y w v h x) (hb : Below w.heap.size w w') : RM y w' v h x := by
  obtain ⟨q, n, c, r, m, d, e1, h1, h2⟩ := hm
  exact ⟨q, n, c, r, m, d, e1, h1.on hb, h2.on hb⟩
theorem RM.agg {h : Hd} {x : Ts} (hm : RM y w v h x) : ∃ q c r d, v = .agg #[.int .i64 h.k, .int .i64 h.n, .int .i64 h.a, .slice q h.l.length c, .slice r x.len d] ∧ h.l.length ≤ c ∧ c ≤ maxLen ∧ x.len ≤ d ∧ d ≤ maxLen ∧ RL y w (.slice q h.l.length c) h.l ∧ RT y w (.slice r x.len d) x := by
  obtain ⟨q, n, c, r, m, d, rfl, h1, h2⟩ := hm
  obtain ⟨q', c', e1, g1, g2, -⟩ := h1.slice
  obtain ⟨r', d', e2, g3, g4, -⟩ := h2.slice
  cases e1
  cases e2
  exact ⟨q, c, r, d, rfl, g1, g2, g3, g4, h1, h2⟩
end Go.Proofs.YtkcmapimcgppmaaGreatDoor
end
section
namespace Go.Proofs.YtkcmapimcgppmaaGreatDoor
open Go.RowKit

/-- Does a kid stand below its term's binder? -/
def binds (k : Int) (i : Nat) : Bool := if k = 4 ∨ k = 5 ∨ k = 12 ∨ k = 16 ∨ k = 18 then i == 1 else if k = 7 then i == 2 else false
def deeper (k : Int) (i : Nat) (d : Nat) : Nat := if binds k i then d + 1 else d
/-- A node, lifted. -/
def Hd.lift (h : Hd) (n from_ : Int) (d : Nat) : Hd := if h.k = 1 ∧ (d : Int) ≤ h.n ∧ from_ ≤ h.n - d then { h with n := IntKind.i64.wrap (h.n + n) } else h
/-- A row, lifted: the kids, from the i-th on, of a node of a kind. -/
def Ts.lift (n from_ : Int) : Int → Nat → Nat → Ts → Ts
  | _, _, _, .nil => .nil
  | pk, i, d, .cons h x r => .cons (h.lift n from_ (deeper pk i d)) (x.lift n from_ h.k 0 (deeper pk i d)) (r.lift n from_ pk (i + 1) d)
theorem Ts.lift_take {n from_ : Int} {t : Ts} : ∀ {k : Nat} (pk : Int) (i d : Nat), k < t.len →
    (t.take (k + 1)).lift n from_ pk i d = ((t.take k).lift n from_ pk i d).snoc ((t.hd k).lift n from_ (deeper pk (i + k) d)) ((t.kd k).lift n from_ (t.hd k).k 0 (deeper pk (i + k) d)) := by
  induction t with
  | nil => intro k pk i d h; simp [Ts.len] at h
  | cons h x r _ ih =>
    intro k pk i d hk
    cases k with
    | zero => simp [Ts.take, Ts.lift, Ts.snoc, Ts.app, Ts.hd, Ts.kd]
    | succ k =>
      have := ih (k := k) pk (i + 1) d (by simp [Ts.len] at hk; omega)
      rw [show i + 1 + k = i + (k + 1) by omega] at this
      show Ts.cons _ _ ((r.take (k + 1)).lift n from_ pk (i + 1) d) = _
      rw [this]
      rfl
theorem Hd.lift_l (h : Hd) (n from_ : Int) (d : Nat) : (h.lift n from_ d).l = h.l := by unfold Hd.lift; split <;> rfl
theorem Hd.lift_k (h : Hd) (n from_ : Int) (d : Nat) : (h.lift n from_ d).k = h.k := by unfold Hd.lift; split <;> rfl
theorem Hd.lift_a (h : Hd) (n from_ : Int) (d : Nat) : (h.lift n from_ d).a = h.a := by unfold Hd.lift; split <;> rfl
/-- Numbers that a word holds. -/
def Hd.fits (h : Hd) : Prop := (-9223372036854775808 ≤ h.k ∧ h.k ≤ 9223372036854775807) ∧ (-9223372036854775808 ≤ h.n ∧ h.n ≤ 9223372036854775807) ∧ (-9223372036854775808 ≤ h.a ∧ h.a ≤ 9223372036854775807) ∧ ∀ p ∈ h.l, ∀ q ∈ p, (-9223372036854775808 ≤ q.1 ∧ q.1 ≤ 9223372036854775807) ∧ (-9223372036854775808 ≤ q.2 ∧ q.2 ≤ 9223372036854775807)
def Ts.fits : Ts → Prop
  | .nil => True
  | .cons h x r => h.fits ∧ x.fits ∧ r.fits
theorem Ts.fits_hd {t : Ts} (h : t.fits) : ∀ {k : Nat}, k < t.len → (t.hd k).fits ∧ (t.kd k).fits := by
  induction t with
  | nil => intro k hk; simp [Ts.len] at hk
  | cons w x r _ ih =>
    intro k hk
    cases k with
    | zero => exact ⟨h.1, h.2.1⟩
    | succ k => exact ih h.2.2 (by simp [Ts.len] at hk; omega)
/-- Lifted by nothing it is the same. -/
theorem Hd.lift_zero {h : Hd} (hf : h.fits) (from_ : Int) (d : Nat) : h.lift 0 from_ d = h := by
  unfold Hd.lift
  split
  · have := hf.2.1
    rw [show h.n + 0 = h.n by omega, show IntKind.i64.wrap h.n = h.n by rw [IntKind.wrap_i64]; omega]
  · rfl
theorem Ts.lift_zero {t : Ts} (hf : t.fits) : ∀ (from_ pk : Int) (i d : Nat), t.lift 0 from_ pk i d = t := by
  induction t with
  | nil => intros; rfl
  | cons h x r ihx ih => intro f pk i d; simp only [Ts.lift, Hd.lift_zero hf.1, ihx hf.2.1, ih hf.2.2]
end Go.Proofs.YtkcmapimcgppmaaGreatDoor
end
section
namespace Go.Proofs.YtkcmapimcgppmaaGreatDoor
open Go.RowKit

/-- A node of a kind alone; one term as a row. -/
def kH (k : Int) : Hd := ⟨k, 0, 0, []⟩
def Ts.one (h : Hd) (x : Ts) : Ts := .cons h x .nil
/-- A term with its kids. -/
structure Tm where
  h : Hd
  x : Ts
def Tm.ts (t : Tm) : Ts := .cons t.h t.x .nil
/-- A row folded from the last one on. -/
def fold (k : Int) (z : Hd) : Ts → Tm
  | .nil => ⟨z, .nil⟩
  | .cons h x r => match r with
    | .nil => ⟨h, x⟩
    | .cons _ _ _ => ⟨kH k, .cons h x (fold k z r).ts⟩
def finH (n : Int) : Hd := ⟨22, n, 0, []⟩
def elemH (k n : Int) : Hd := ⟨23, k, n, []⟩
def tup (r : Ts) : Tm := fold 12 (finH 1) r
def pack (r : Ts) : Tm := fold 13 (elemH 0 1) r
/-- A tuple's parts. -/
def partsT : Nat → Tm → Ts
  | 0, _ => .nil
  | 1, t => t.ts
  | n + 2, t => .cons (kH 14) t.ts (partsT (n + 1) ⟨kH 15, t.ts⟩)
def caseT (p : Tm) (b : Ts) (x : Tm) : Tm := ⟨⟨24, 0, b.len, []⟩, .cons p.h p.x (b.app x.ts)⟩
theorem fold_step (k : Int) (z : Hd) (h : Hd) (x : Ts) (r : Ts) (hr : 0 < r.len) : fold k z (.cons h x r) = ⟨kH k, .cons h x (fold k z r).ts⟩ := by
  cases r with
  | nil => simp [Ts.len] at hr
  | cons => rfl
end Go.Proofs.YtkcmapimcgppmaaGreatDoor
end
