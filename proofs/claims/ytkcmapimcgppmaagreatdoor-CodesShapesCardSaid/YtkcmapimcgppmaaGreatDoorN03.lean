/-
  A walk over states that tell data alone: cells, what a slot holds, what is known of memory. The steps of that walk: what an operation makes of a state. The calm steps are right. Conditions: the table of types is the program's. Conditions: as each lemma states them.
-/
import Derived.Test.YtkcmapimcgppmaaGreatDoorN02
import Derived.Deep.MidRow
import Derived.Great.BuildSlice
set_option linter.all false
set_option linter.unusedVariables false
set_option linter.unusedSimpArgs false
set_option linter.unnecessarySimpa false
section
namespace Go.Proofs.YtkcmapimcgppmaaGreatDoor
open Go.RowKit

abbrev Mem := Nat → Nat → Option Value
/-- A name of a group of blocks: of the slot that made it, and which. -/
abbrev Tk := Nat × Nat
/-- Every cell, at whatever depth, holds one value alone. -/
def Ds.good : Ds → Prop
  | .nil => True
  | .lit v r => v.oneCell' = true ∧ r.good
  | .row _ _ x s r => x.good ∧ s.good ∧ r.good
theorem Ds.app_good {x y : Ds} (hx : x.good) (hy : y.good) : (x.app y).good := by
  induction x with
  | nil => exact hy
  | lit v r ih => exact ⟨hx.1, ih hx.2⟩
  | row sz e a s r _ _ ih => exact ⟨hx.1, hx.2.1, ih hx.2.2⟩
/-- All cells but the first n. -/
def Ds.dp : Nat → Ds → Ds
  | 0, x => x
  | _ + 1, .nil => .nil
  | n + 1, .lit _ r => r.dp n
  | n + 1, .row _ _ _ _ r => r.dp n
/-- The first n. -/
def Ds.tk : Nat → Ds → Ds
  | 0, _ => .nil
  | _ + 1, .nil => .nil
  | n + 1, .lit v r => .lit v (r.tk n)
  | n + 1, .row sz e x s r => .row sz e x s (r.tk n)
theorem Ds.dp_good : ∀ (n : Nat) {x : Ds}, x.good → (x.dp n).good
  | 0, _, h => h
  | _ + 1, .nil, h => h
  | n + 1, .lit _ _, h => Ds.dp_good n h.2
  | n + 1, .row _ _ _ _ _, h => Ds.dp_good n h.2.2
theorem Ds.tk_good : ∀ (n : Nat) {x : Ds}, x.good → (x.tk n).good
  | 0, _, _ => trivial
  | _ + 1, .nil, h => h
  | n + 1, .lit _ _, h => ⟨h.1, Ds.tk_good n h.2⟩
  | n + 1, .row _ _ _ _ _, h => ⟨h.1, h.2.1, Ds.tk_good n h.2.2⟩
theorem Ds.dp_len : ∀ (n : Nat) (x : Ds), (x.dp n).len = x.len - n
  | 0, _ => rfl
  | _ + 1, .nil => by simp [Ds.dp, Ds.len]
  | n + 1, .lit _ r => by simp [Ds.dp, Ds.len, Ds.dp_len n r]
  | n + 1, .row _ _ _ _ r => by simp [Ds.dp, Ds.len, Ds.dp_len n r]
theorem Ds.tk_len : ∀ (n : Nat) (x : Ds), (x.tk n).len = min n x.len
  | 0, x => by simp [Ds.tk, Ds.len]
  | _ + 1, .nil => by simp [Ds.tk, Ds.len]
  | n + 1, .lit _ r => by simp [Ds.tk, Ds.len, Ds.tk_len n r]
  | n + 1, .row _ _ _ _ r => by simp [Ds.tk, Ds.len, Ds.tk_len n r]
theorem Vs.dp {F : Mem} {hi : Nat} : ∀ (n : Nat) {x : Ds} {xs : List Value}, Vs F hi x xs → Vs F hi (x.dp n) (xs.drop n)
  | 0, _, _, h => h
  | _ + 1, .nil, _, h => by cases h; rfl
  | n + 1, .lit _ _, _, ⟨ys, e, h⟩ => by subst e; exact Vs.dp n h
  | n + 1, .row _ _ _ _ _, _, ⟨v, ys, e, _, h⟩ => by subst e; exact Vs.dp n h
theorem Vs.tk {F : Mem} {hi : Nat} : ∀ (n : Nat) {x : Ds} {xs : List Value}, Vs F hi x xs → Vs F hi (x.tk n) (xs.take n)
  | 0, _, _, _ => rfl
  | _ + 1, .nil, _, h => by cases h; rfl
  | n + 1, .lit _ _, _, ⟨ys, e, h⟩ => by subst e; exact ⟨_, rfl, Vs.tk n h⟩
  | n + 1, .row _ _ _ _ _, _, ⟨v, ys, e, h1, h⟩ => by subst e; exact ⟨v, _, rfl, h1, Vs.tk n h⟩
theorem At.dp {F : Mem} {hi : Nat} : ∀ (n : Nat) {x : Ds} {b o : Nat}, At F hi x b o → n ≤ x.len → At F hi (x.dp n) b (o + n)
  | 0, _, _, _, h, _ => h
  | n + 1, .nil, _, _, _, h => by simp [Ds.len] at h
  | n + 1, .lit _ _, b, o, h, hn => by
    have := At.dp n h.2 (by simp [Ds.len] at hn; omega)
    rwa [show o + 1 + n = o + (n + 1) by omega] at this
  | n + 1, .row _ _ _ _ _, b, o, h, hn => by
    have := At.dp n h.2 (by simp [Ds.len] at hn; omega)
    rwa [show o + 1 + n = o + (n + 1) by omega] at this
theorem At.tk {F : Mem} {hi : Nat} : ∀ (n : Nat) {x : Ds} {b o : Nat}, At F hi x b o → At F hi (x.tk n) b o
  | 0, _, _, _, _ => trivial
  | _ + 1, .nil, _, _, _ => trivial
  | n + 1, .lit _ _, _, _, h => ⟨h.1, At.tk n h.2⟩
  | n + 1, .row _ _ _ _ _, _, _, h => ⟨h.1, At.tk n h.2⟩
theorem At.vsx {F : Mem} {hi : Nat} {x : Ds} : ∀ {b o : Nat}, At F hi x b o → ∃ ys, Vs F hi x ys ∧ ∀ j u, ys[j]? = some u → F b (o + j) = some u := by
  induction x with
  | nil => intro b o _; exact ⟨[], rfl, fun j u h => by simp at h⟩
  | lit v r ih =>
    rintro b o ⟨h1, h2⟩
    obtain ⟨ys, h3, h4⟩ := ih h2
    refine ⟨v :: ys, ⟨ys, rfl, h3⟩, fun j u h => ?_⟩
    cases j with
    | zero => simp at h; subst h; exact h1
    | succ j => rw [show o + (j + 1) = o + 1 + j by omega]; exact h4 j u (by simpa using h)
  | row sz e x s r _ _ ih =>
    intro b o h
    obtain ⟨⟨v, h1, h2⟩, h3⟩ := At_row.1 h
    obtain ⟨ys, h4, h5⟩ := ih h3
    refine ⟨v :: ys, ⟨v, ys, rfl, h2, h4⟩, fun j u h => ?_⟩
    cases j with
    | zero => simp at h; subst h; exact h1
    | succ j => rw [show o + (j + 1) = o + 1 + j by omega]; exact h5 j u (by simpa using h)

/-- Cells, with what is known of who owns them: a plain value; a nil slice; a row, of a group or lent; some cells, of a group or lent; a row in a block of its own that may be appended to (of a name, in a version). -/
inductive Dc where
  | nil
  | lit (v : Value) (r : Dc)
  | nilr (sz e : Nat) (r : Dc)
  | row (k : Option Tk) (sz e : Nat) (x : Ds) (r : Dc)
  | seg (k : Option Tk) (d : Ds) (r : Dc)
  | blk (k ver sz e : Nat) (x r : Dc)
namespace Dc
def ds : Dc → Ds
  | nil => .nil
  | lit v r => .lit v r.ds
  | nilr sz e r => .row sz e .nil .nil r.ds
  | row _ sz e x r => .row sz e x .nil r.ds
  | seg _ d r => d.app r.ds
  | blk _ _ sz e x r => .row sz e x.ds .nil r.ds
def app : Dc → Dc → Dc
  | nil, y => y
  | lit v r, y => lit v (r.app y)
  | nilr sz e r, y => nilr sz e (r.app y)
  | row k sz e x r, y => row k sz e x (r.app y)
  | seg k d r, y => seg k d (r.app y)
  | blk k v sz e x r, y => blk k v sz e x (r.app y)
/-- How many cells. -/
def ln : Dc → Nat
  | nil => 0
  | lit _ r => r.ln + 1
  | nilr _ _ r => r.ln + 1
  | row _ _ _ _ r => r.ln + 1
  | seg _ d r => d.len + r.ln
  | blk _ _ _ _ _ r => r.ln + 1
/-- The first n cells, and the others; none within cells that are told together. -/
def tk : Nat → Dc → Option Dc
  | 0, _ => some nil
  | n + 1, lit v r => (r.tk n).map (lit v)
  | n + 1, nilr sz e r => (r.tk n).map (nilr sz e)
  | n + 1, row k sz e x r => (r.tk n).map (row k sz e x)
  | n + 1, blk k v sz e x r => (r.tk n).map (blk k v sz e x)
  | n + 1, seg k d r => match k, d with
    | none, .row sz e x s .nil => (r.tk n).map (seg none (.row sz e x s .nil))
    | _, _ => none
  | _ + 1, _ => none
def dp : Nat → Dc → Option Dc
  | 0, d => some d
  | n + 1, lit _ r => r.dp n
  | n + 1, nilr _ _ r => r.dp n
  | n + 1, row _ _ _ _ r => r.dp n
  | n + 1, blk _ _ _ _ _ r => r.dp n
  | n + 1, seg k d r => match k, d with
    | none, .row _ _ _ _ .nil => r.dp n
    | _, _ => none
  | _ + 1, _ => none
theorem ds_len (d : Dc) : d.ds.len = d.ln := by
  induction d with
  | nil => rfl
  | lit v r ih => simp [ds, ln, Ds.len, ih]
  | nilr sz e r ih => simp [ds, ln, Ds.len, ih]
  | row k sz e x r ih => simp [ds, ln, Ds.len, ih]
  | seg k d r ih => simp [ds, ln, Ds.app_len, ih]
  | blk k v sz e x r _ ih => simp [ds, ln, Ds.len, ih]
end Dc
/-- The first n cells of some, lent. -/
def Ds.hd : Nat → Ds → Option Dc
  | 0, _ => some .nil
  | n + 1, .lit v r => (r.hd n).map (.lit v)
  | n + 1, .row sz e x s r => match s with
    | .nil => (r.hd n).map (.row none sz e x)
    | s => (r.hd n).map (.seg none (.row sz e x s .nil))
  | _ + 1, _ => none

/-- What a slot holds: whatever; just this; one cell; a struct; a variable of the call's own (of a name), from a cell on; a place in lent memory, with the cells that lie there; values one by one; a tuple; a function with what is bound. -/
inductive AV where
  | junk
  | v (x : Value)
  | c (d : Dc)
  | agg (d : Dc)
  | bx (k off : Nat)
  | el (x : Ds)
  | nil
  | cons (a r : AV)
  | tup (l : AV)
  | fn (f : Fn) (first cap : AV)
/-- A state: the slots, the variables (of a type, their cells), the names in use (0: a group; else a block in a version); which slots hold just what. -/
structure St where
  env : Nat → AV
  bx : Nat → Option (Nat × Dc)
  τ : Nat → Option Nat
  fx : Nat → Option Value := fun _ => none
/-- What stands behind it: the memory that stays, the world, where the call's own begins, the blocks of each name, of each variable. -/
structure Gh where
  st : St
  F : Mem
  w : World
  base : Nat
  fp : Tk → List Nat
  B : Nat → Nat
/-- They are of a group. -/
def Gh.Ow (g : Gh) (k : Option Tk) (d : Ds) (xs : List Value) : Prop := ∀ j, k = some j → g.st.τ j.1 = some 0 ∧ ∃ S, Own g.w g.base d xs S ∧ S.Nodup ∧ ∀ b ∈ S, b ∈ g.fp j
def RepC (g : Gh) : Dc → List Value → Prop
  | .nil, xs => xs = []
  | .lit v r, xs => v.oneCell' = true ∧ ∃ ys, xs = v :: ys ∧ RepC g r ys
  | .nilr _ _ r, xs => ∃ ys, xs = .slice none 0 0 :: ys ∧ RepC g r ys
  | .row k sz e x r, xs => x.good ∧ ∃ v ys, xs = v :: ys ∧ Rd g.F g.w.heap.size v sz x .nil ∧ g.Ow k (.row sz e x .nil .nil) [v] ∧ RepC g r ys
  | .seg k d r, xs => d.good ∧ ∃ ys zs, xs = ys ++ zs ∧ Vs g.F g.w.heap.size d ys ∧ g.Ow k d ys ∧ RepC g r zs
  | .blk k ver sz e x r, xs => x.ds.good ∧ ver ≠ 0 ∧ ∃ v ys, xs = v :: ys ∧ Rd g.F g.w.heap.size v sz x.ds .nil ∧
      (∃ cur, g.st.τ k = some cur ∧ ver ≤ cur ∧ (cur = ver → ∃ n zs, g.w.ownsRow g.base e sz v n zs ∧ RepC g x zs ∧ ∀ b, v.ownBlock = some b → b ∈ g.fp (k, 0) ∧ ∀ o, zs.length ≤ o → g.F b o = none)) ∧ RepC g r ys
/-- Cells that stay where they are. -/
def Gh.Fs (g : Gh) (b o : Nat) : Option Value := if b < g.base then U g.w b o else g.F b o
def RepV (g : Gh) : AV → List Value → Prop
  | .junk, _ => True
  | .v x, xs => xs = [x]
  | .c d, xs => RepC g d xs
  | .agg d, xs => ∃ ys, xs = [.agg ys.toArray] ∧ RepC g d ys
  | .bx k off, xs => xs = [.pointer (some ⟨g.B k, off, none⟩)] ∧ g.st.bx k ≠ none
  | .el x, xs => x.good ∧ ∃ b o ys, xs = [.pointer (some ⟨b, o, none⟩)] ∧ b < g.w.heap.size ∧ Vs g.F g.w.heap.size x ys ∧ ∀ j u, ys[j]? = some u → g.Fs b (o + j) = some u
  | .nil, xs => xs = []
  | .cons a r, xs => ∃ y ys, xs = y :: ys ∧ RepV g a [y] ∧ RepV g r ys
  | .tup l, xs => ∃ ys, xs = [.tuple ys.toArray] ∧ RepV g l ys
  | .fn f a b, xs => ∃ ys zs, xs = [.func f ys.toArray zs.toArray] ∧ RepV g a ys ∧ RepV g b zs

theorem RepC.len {g : Gh} {d : Dc} : ∀ {xs : List Value}, RepC g d xs → xs.length = d.ln := by
  induction d with
  | nil => rintro xs rfl; rfl
  | lit v r ih => rintro xs ⟨-, ys, rfl, h⟩; simp [Dc.ln, ih h]
  | nilr sz e r ih => rintro xs ⟨ys, rfl, h⟩; simp [Dc.ln, ih h]
  | row k sz e x r ih => rintro xs ⟨-, v, ys, rfl, -, -, h⟩; simp [Dc.ln, ih h]
  | seg k d r ih => rintro xs ⟨-, ys, zs, rfl, h1, -, h⟩; simp [Dc.ln, ih h, h1.len]
  | blk k v sz e x r _ ih => rintro xs ⟨-, -, v, ys, rfl, -, -, h⟩; simp [Dc.ln, ih h]
theorem Rd.one {F : Mem} {hi : Nat} {v : Value} {sz : Nat} {x s : Ds} (h : Rd F hi v sz x s) : v.oneCell' = true := by
  obtain ⟨p, n, c, rfl, -⟩ := h; rfl
theorem Vs.onex {F : Mem} {hi : Nat} {x : Ds} : ∀ {xs : List Value}, Vs F hi x xs → x.good → ∀ u ∈ xs, u.oneCell' = true := by
  induction x with
  | nil => rintro xs rfl _ u hu; cases hu
  | lit v r ih =>
    rintro xs ⟨ys, rfl, h⟩ hg u hu
    rcases List.mem_cons.1 hu with rfl | hu
    · exact hg.1
    · exact ih h hg.2 u hu
  | row sz e x s r _ _ ih =>
    rintro xs ⟨v, ys, rfl, h1, h⟩ hg u hu
    rcases List.mem_cons.1 hu with rfl | hu
    · exact h1.one
    · exact ih h hg.2.2 u hu
theorem RepC.one {g : Gh} {d : Dc} : ∀ {xs : List Value}, RepC g d xs → ∀ u ∈ xs, u.oneCell' = true := by
  induction d with
  | nil => rintro xs rfl u hu; cases hu
  | lit v r ih =>
    rintro xs ⟨h0, ys, rfl, h⟩ u hu
    rcases List.mem_cons.1 hu with rfl | hu
    · exact h0
    · exact ih h u hu
  | nilr sz e r ih =>
    rintro xs ⟨ys, rfl, h⟩ u hu
    rcases List.mem_cons.1 hu with rfl | hu
    · rfl
    · exact ih h u hu
  | row k sz e x r ih =>
    rintro xs ⟨-, v, ys, rfl, h1, -, h⟩ u hu
    rcases List.mem_cons.1 hu with rfl | hu
    · exact h1.one
    · exact ih h u hu
  | seg k d r ih =>
    rintro xs ⟨h0, ys, zs, rfl, h1, -, h⟩ u hu
    rcases List.mem_append.1 hu with hu | hu
    · exact h1.onex h0 u hu
    · exact ih h u hu
  | blk k v sz e x r _ ih =>
    rintro xs ⟨-, -, v, ys, rfl, h1, -, h⟩ u hu
    rcases List.mem_cons.1 hu with rfl | hu
    · exact h1.one
    · exact ih h u hu
theorem Vs.app {F : Mem} {hi : Nat} {y : Ds} {ys : List Value} (hy : Vs F hi y ys) {x : Ds} : ∀ {xs : List Value}, Vs F hi x xs → Vs F hi (x.app y) (xs ++ ys) := by
  induction x with
  | nil => rintro xs rfl; exact hy
  | lit v r ih => rintro xs ⟨zs, rfl, h⟩; exact ⟨_, rfl, ih h⟩
  | row sz e x s r _ _ ih => rintro xs ⟨v, zs, rfl, h1, h⟩; exact ⟨v, _, rfl, h1, ih h⟩
theorem RepC.vs {g : Gh} {d : Dc} : ∀ {xs : List Value}, RepC g d xs → Vs g.F g.w.heap.size d.ds xs := by
  induction d with
  | nil => rintro xs rfl; rfl
  | lit v r ih => rintro xs ⟨-, ys, rfl, h⟩; exact ⟨ys, rfl, ih h⟩
  | nilr sz e r ih => rintro xs ⟨ys, rfl, h⟩; exact ⟨_, ys, rfl, Rd.none_ _ _ _, ih h⟩
  | row k sz e x r ih => rintro xs ⟨-, v, ys, rfl, h1, -, h⟩; exact ⟨v, ys, rfl, h1, ih h⟩
  | seg k d r ih => rintro xs ⟨-, ys, zs, rfl, h1, -, h⟩; exact Vs.app (ih h) h1
  | blk k v sz e x r _ ih => rintro xs ⟨-, -, v, ys, rfl, h1, -, h⟩; exact ⟨v, ys, rfl, h1, ih h⟩
theorem RepC.good {g : Gh} {d : Dc} : ∀ {xs : List Value}, RepC g d xs → d.ds.good := by
  induction d with
  | nil => intros; trivial
  | lit v r ih => rintro xs ⟨h0, ys, rfl, h⟩; exact ⟨h0, ih h⟩
  | nilr sz e r ih => rintro xs ⟨ys, rfl, h⟩; exact ⟨trivial, trivial, ih h⟩
  | row k sz e x r ih => rintro xs ⟨h0, v, ys, rfl, h1, -, h⟩; exact ⟨h0, trivial, ih h⟩
  | seg k d r ih => rintro xs ⟨h0, ys, zs, rfl, h1, -, h⟩; exact Ds.app_good h0 (ih h)
  | blk k v sz e x r _ ih => rintro xs ⟨h0, -, v, ys, rfl, h1, -, h⟩; exact ⟨h0, trivial, ih h⟩
theorem RepC.app {g : Gh} {y : Dc} {ys : List Value} (hy : RepC g y ys) {x : Dc} : ∀ {xs : List Value}, RepC g x xs → RepC g (x.app y) (xs ++ ys) := by
  induction x with
  | nil => rintro xs rfl; exact hy
  | lit v r ih => rintro xs ⟨h0, zs, rfl, h⟩; exact ⟨h0, _, rfl, ih h⟩
  | nilr sz e r ih => rintro xs ⟨zs, rfl, h⟩; exact ⟨_, rfl, ih h⟩
  | row k sz e x r ih => rintro xs ⟨h0, v, zs, rfl, h1, h2, h⟩; exact ⟨h0, v, _, rfl, h1, h2, ih h⟩
  | seg k d r ih => rintro xs ⟨h0, zs, us, rfl, h1, h2, h⟩; exact ⟨h0, zs, us ++ ys, by simp, h1, h2, ih h⟩
  | blk k v sz e x r _ ih => rintro xs ⟨h0, h9, v, zs, rfl, h1, h2, h⟩; exact ⟨h0, h9, v, _, rfl, h1, h2, ih h⟩
theorem RepC.tk {g : Gh} : ∀ (n : Nat) {d d' : Dc} {xs : List Value}, RepC g d xs → d.tk n = some d' → RepC g d' (xs.take n)
  | 0, d, d', xs, _, e => by cases d <;> (simp [Dc.tk] at e; subst e; rfl)
  | n + 1, .nil, d', xs, h, e => by simp [Dc.tk] at e
  | n + 1, .seg k d r, d', xs, ⟨h0, ys, zs, e1, h1, h2, h⟩, e => by
    simp only [Dc.tk] at e
    split at e
    · obtain ⟨r', e2, rfl⟩ := Option.map_eq_some_iff.1 e
      obtain ⟨v, ys', rfl, h3, rfl⟩ := h1
      subst e1
      exact ⟨h0, [v], _, rfl, ⟨v, [], rfl, h3, rfl⟩, h2, RepC.tk n h e2⟩
    · cases e
  | n + 1, .lit v r, d', xs, ⟨h0, ys, e1, h⟩, e => by
    simp [Dc.tk] at e; obtain ⟨r', e2, rfl⟩ := e; subst e1
    exact ⟨h0, _, rfl, RepC.tk n h e2⟩
  | n + 1, .nilr sz t r, d', xs, ⟨ys, e1, h⟩, e => by
    simp [Dc.tk] at e; obtain ⟨r', e2, rfl⟩ := e; subst e1
    exact ⟨_, rfl, RepC.tk n h e2⟩
  | n + 1, .row k sz t x r, d', xs, ⟨h0, v, ys, e1, h1, h2, h⟩, e => by
    simp [Dc.tk] at e; obtain ⟨r', e2, rfl⟩ := e; subst e1
    exact ⟨h0, v, _, rfl, h1, h2, RepC.tk n h e2⟩
  | n + 1, .blk k ver sz t x r, d', xs, ⟨h0, h9, v, ys, e1, h1, h2, h⟩, e => by
    simp [Dc.tk] at e; obtain ⟨r', e2, rfl⟩ := e; subst e1
    exact ⟨h0, h9, v, _, rfl, h1, h2, RepC.tk n h e2⟩
theorem RepC.dp {g : Gh} : ∀ (n : Nat) {d d' : Dc} {xs : List Value}, RepC g d xs → d.dp n = some d' → RepC g d' (xs.drop n)
  | 0, d, d', xs, h, e => by cases d <;> (simp [Dc.dp] at e; subst e; exact h)
  | n + 1, .nil, d', xs, h, e => by simp [Dc.dp] at e
  | n + 1, .seg k d r, d', xs, ⟨h0, ys, zs, e1, h1, h2, h⟩, e => by
    simp only [Dc.dp] at e
    split at e
    · obtain ⟨v, ys', rfl, h3, rfl⟩ := h1
      subst e1
      exact RepC.dp n h e
    · cases e
  | n + 1, .lit v r, d', xs, ⟨h0, ys, e1, h⟩, e => by subst e1; exact RepC.dp n h (by simpa [Dc.dp] using e)
  | n + 1, .nilr sz t r, d', xs, ⟨ys, e1, h⟩, e => by subst e1; exact RepC.dp n h (by simpa [Dc.dp] using e)
  | n + 1, .row k sz t x r, d', xs, ⟨h0, v, ys, e1, h1, h2, h⟩, e => by subst e1; exact RepC.dp n h (by simpa [Dc.dp] using e)
  | n + 1, .blk k ver sz t x r, d', xs, ⟨h0, h9, v, ys, e1, h1, h2, h⟩, e => by subst e1; exact RepC.dp n h (by simpa [Dc.dp] using e)
theorem RepC.hd {g : Gh} : ∀ (n : Nat) {x : Ds} {d : Dc} {xs : List Value}, x.good → Vs g.F g.w.heap.size x xs → x.hd n = some d → RepC g d (xs.take n)
  | 0, x, d, xs, _, _, e => by cases x <;> (simp [Ds.hd] at e; subst e; rfl)
  | n + 1, .nil, d, xs, _, h, e => by simp [Ds.hd] at e
  | n + 1, .lit v r, d, xs, hg, ⟨ys, e1, h⟩, e => by
    simp [Ds.hd] at e; obtain ⟨r', e2, rfl⟩ := e; subst e1
    exact ⟨hg.1, _, rfl, RepC.hd n hg.2 h e2⟩
  | n + 1, .row sz t x s r, d, xs, hg, ⟨v, ys, e1, h1, h⟩, e => by
    simp only [Ds.hd] at e
    subst e1
    split at e
    · obtain ⟨r', e2, rfl⟩ := Option.map_eq_some_iff.1 e
      exact ⟨hg.1, v, _, rfl, h1, fun _ e => (by cases e), RepC.hd n hg.2.2 h e2⟩
    · obtain ⟨r', e2, rfl⟩ := Option.map_eq_some_iff.1 e
      exact ⟨⟨hg.1, hg.2.1, trivial⟩, [v], _, rfl, ⟨v, [], rfl, h1, rfl⟩, fun _ e => (by cases e), RepC.hd n hg.2.2 h e2⟩
/-- Names keep their blocks, memory that stays stays. -/
structure Tr (g g' : Gh) : Prop where
  F : ∀ b o v, b < g.w.heap.size → g.F b o = some v → g'.F b o = some v
  size : g.w.heap.size ≤ g'.w.heap.size
  base : g'.base = g.base
  old : ∀ b, b < g.base → g'.w.heap[b]? = g.w.heap[b]?
  Fo : ∀ b o, b < g.base → g'.F b o = g.F b o
  bx : ∀ k, g.st.bx k ≠ none → g'.st.bx k ≠ none ∧ g'.B k = g.B k
  tok : ∀ k ver, g.st.τ k = some ver → (g'.st.τ k = some ver ∧ ∀ j b, b ∈ g.fp (k, j) → b ∈ g'.fp (k, j) ∧ g'.w.heap[b]? = g.w.heap[b]? ∧ ∀ o, g.F b o = none → g'.F b o = none) ∨ (ver ≠ 0 ∧ ∃ v', g'.st.τ k = some v' ∧ ver < v')
theorem Gh.Ow.tr {g g' : Gh} (ht : Tr g g') {k : Option Tk} {d : Ds} {xs : List Value} (h : g.Ow k d xs) : g'.Ow k d xs := by
  intro j e
  obtain ⟨h0, S, h1, h2, h3⟩ := h j e
  rcases ht.tok _ _ h0 with ⟨h4, h5⟩ | ⟨h4, -⟩
  · refine ⟨h4, S, ?_, h2, fun b hb => (h5 j.2 b (h3 b hb)).1⟩
    rw [ht.base]
    exact h1.kept fun b hb => (h5 j.2 b (h3 b hb)).2.1
  · exact absurd rfl h4
theorem ownsRow_kept {w w' : World} {base e size n : Nat} {v : Value} {xs : List Value} (h : w.ownsRow base e size v n xs) (hk : ∀ b, v.ownBlock = some b → w'.heap[b]? = w.heap[b]?) : w'.ownsRow base e size v n xs := by
  rcases h with ⟨h1, h2 | ⟨g, cap, cur, rfl, h3, h4, h5⟩⟩
  · exact ⟨h1, .inl h2⟩
  · exact ⟨h1, .inr ⟨g, cap, cur, rfl, h3, (hk g rfl).trans h4, h5⟩⟩
theorem RepC.tr {g g' : Gh} (ht : Tr g g') {d : Dc} : ∀ {xs : List Value}, RepC g d xs → RepC g' d xs := by
  have hF : ∀ b o v, b < g.w.heap.size → g.F b o = some v → g'.F b o = some v := ht.F
  induction d with
  | nil => intro xs h; exact h
  | lit v r ih => rintro xs ⟨h0, ys, rfl, h⟩; exact ⟨h0, ys, rfl, ih h⟩
  | nilr sz e r ih => rintro xs ⟨ys, rfl, h⟩; exact ⟨ys, rfl, ih h⟩
  | row k sz e x r ih => rintro xs ⟨h0, v, ys, rfl, h1, h2, h⟩; exact ⟨h0, v, ys, rfl, h1.mono hF ht.size, h2.tr ht, ih h⟩
  | seg k d r ih => rintro xs ⟨h0, ys, zs, rfl, h1, h2, h⟩; exact ⟨h0, ys, zs, rfl, h1.mono hF ht.size, h2.tr ht, ih h⟩
  | blk k ver sz e x r ihx ih =>
    rintro xs ⟨h0, h9, v, ys, rfl, h1, ⟨cur, h2, h3, h4⟩, h⟩
    refine ⟨h0, h9, v, ys, rfl, h1.mono hF ht.size, ?_, ih h⟩
    rcases ht.tok _ _ h2 with ⟨h5, h6⟩ | ⟨-, v', h5, h6⟩
    · refine ⟨cur, h5, h3, fun e => ?_⟩
      obtain ⟨n, zs, h7, h8, h9⟩ := h4 e
      refine ⟨n, zs, ?_, ihx h8, fun b hb => ?_⟩
      · rw [ht.base]
        exact ownsRow_kept h7 fun b hb => (h6 0 b (h9 b hb).1).2.1
      · obtain ⟨h10, h11⟩ := h9 b hb
        exact ⟨(h6 0 b h10).1, fun o ho => (h6 0 b h10).2.2 o (h11 o ho)⟩
    · exact ⟨v', h5, by omega, fun e => by omega⟩
theorem RepV.tr {g g' : Gh} (ht : Tr g g') {a : AV} : ∀ {xs : List Value}, RepV g a xs → RepV g' a xs := by
  induction a with
  | junk => intro xs h; exact h
  | v x => intro xs h; exact h
  | c d => intro xs h; exact RepC.tr ht h
  | agg d => rintro xs ⟨ys, rfl, h⟩; exact ⟨ys, rfl, h.tr ht⟩
  | bx k o => rintro xs ⟨rfl, h⟩; exact ⟨by rw [(ht.bx k h).2], (ht.bx k h).1⟩
  | el x =>
    rintro xs ⟨h0, b, o, ys, rfl, hb, h1, h2⟩
    refine ⟨h0, b, o, ys, rfl, Nat.lt_of_lt_of_le hb ht.size, h1.mono ht.F ht.size, fun j u hu => ?_⟩
    have h3 := h2 j u hu
    unfold Gh.Fs at h3 ⊢
    rw [ht.base]
    split
    · rename_i hl
      rw [if_pos hl] at h3
      exact (U_block (ht.old b hl) _).trans h3
    · rename_i hl
      rw [if_neg hl] at h3
      exact ht.F _ _ _ hb h3
  | nil => intro xs h; exact h
  | cons a r iha ihr => rintro xs ⟨y, ys, rfl, h1, h2⟩; exact ⟨y, ys, rfl, iha h1, ihr h2⟩
  | tup l ih => rintro xs ⟨ys, rfl, h⟩; exact ⟨ys, rfl, ih h⟩
  | fn f a b iha ihb => rintro xs ⟨ys, zs, rfl, h1, h2⟩; exact ⟨ys, zs, rfl, iha h1, ihb h2⟩
end Go.Proofs.YtkcmapimcgppmaaGreatDoor
end
section
namespace Go.Proofs.YtkcmapimcgppmaaGreatDoor
open Go.RowKit

/-- What a type is: a struct (its fields' places and types), a slice, .. -/
inductive Sh where
  | st (fs : List (Nat × Nat))
  | sl (e : Nat)
  | int (k : IntKind)
  | str
  | arr
  | bo
  | oth
def shOf : TypeDesc → Sh
  | .struct fs => .st (fs.toList.map fun f => (f.offset, f.type))
  | .slice e => .sl e
  | .int k => .int k
  | .string => .str
  | .array _ _ => .arr
  | .bool => .bo
  | _ => .oth
/-- A type's row in a table: its zero value, as cells. -/
structure Ty where
  sh : Sh
  size : Nat
  bytes : Nat
  zval : Value
  zero : Dc
abbrev TB := Nat → Option Ty
/-- Cells of plain values and nil slices alone. -/
def Dc.zs : Dc → Option (List Value)
  | .nil => some []
  | .lit v r => if v.oneCell' then r.zs.map (v :: ·) else none
  | .nilr _ _ r => r.zs.map (.slice none 0 0 :: ·)
  | _ => none
def TyOk (P : Program) (T : Nat) (y : Ty) : Prop :=
  (P.underlying T).map shOf = some y.sh ∧ (P.info? T).map (fun i => (i.zero, i.size, i.bytes)) = some (some y.zval, y.size, y.bytes) ∧ y.zero.zs = some y.zval.cells.toList ∧ y.zval.cells.size = y.size ∧ y.bytes ≤ 1000
def TbOk (P : Program) (tb : TB) : Prop := ∀ T y, tb T = some y → TyOk P T y
theorem RepC.zero {g : Gh} : ∀ {d : Dc} {xs : List Value}, d.zs = some xs → RepC g d xs := by
  intro d
  induction d with
  | nil => intro xs h; simp [Dc.zs] at h; subst h; rfl
  | lit v r ih =>
    intro xs h
    simp only [Dc.zs] at h
    split at h
    · rename_i h0
      simp at h
      obtain ⟨ys, h1, rfl⟩ := h
      exact ⟨h0, ys, rfl, ih h1⟩
    · cases h
  | nilr sz e r ih =>
    intro xs h
    simp [Dc.zs] at h
    obtain ⟨ys, h1, rfl⟩ := h
    exact ⟨ys, rfl, ih h1⟩
  | row k sz e x r _ => intro xs h; simp [Dc.zs] at h
  | seg k d r _ => intro xs h; simp [Dc.zs] at h
  | blk k v sz e x r _ _ => intro xs h; simp [Dc.zs] at h

/-- A value as the cells of a variable of a type. -/
def asC (tb : TB) (T : Nat) : AV → Option (Prop × Dc)
  | .v x => match tb T with
    | some { sh := .sl e, .. } => match tb e with
      | some y => match x with
        | .slice none 0 0 => some (True, .nilr y.size e .nil)
        | .slice (some a) n c => some (True, .lit (.slice (some a) n c) .nil)
        | _ => none
      | none => none
    | _ => some (x.oneCell' = true, .lit x .nil)
  | .c d => some (True, d)
  | .agg d => some (True, d)
  | _ => none
/-- One cell as a value. -/
def Dc.sing : Dc → AV
  | .lit v .nil => .v v
  | d => .c d
/-- The content of a slice. -/
def Dc.cont : Dc → Option (Nat × Ds)
  | .nilr sz _ .nil => some (sz, .nil)
  | .row _ sz _ x .nil => some (sz, x)
  | .blk _ _ sz _ x .nil => some (sz, x.ds)
  | .seg none (.row sz _ x _ .nil) .nil => some (sz, x)
  | _ => none
/-- What lies within a slice, and behind its end as far as is told: of a row that was just made; of one with room that is told of. -/
def AV.room : AV → Option (Nat × Ds × Ds)
  | .c (.blk _ _ sz _ x .nil) => some (sz, x.ds, .nil)
  | .c (.seg none (.row sz _ x s .nil) .nil) => some (sz, x, s)
  | _ => none
def AV.cont : AV → Option (Nat × Ds)
  | .c d => d.cont
  | _ => none
def fieldOf (tb : TB) (S f : Nat) : Option (Nat × Nat × Ty) :=
  match tb S with
  | some { sh := .st fs, .. } => match fs[f]? with
    | some (o, T) => (tb T).map fun y => (o, T, y)
    | none => none
  | _ => none
/-- Cells put in place of others. -/
def Dc.over (d : Dc) (o : Nat) (p : Dc) : Option Dc :=
  match d.tk o, d.dp (o + p.ln) with
  | some a, some b => some (a.app (p.app b))
  | _, _ => none
def fillD (tb : TB) (S : Nat) (ρ : Operand → AV) : List (Nat × Operand) → Dc → Option (Prop × Dc)
  | [], d => some (True, d)
  | (f, x) :: ps, d => match fieldOf tb S f with
    | some (o, T, y) => match asC tb T (ρ x) with
      | some (c, p) => match d.over o p with
        | some d' => (fillD tb S ρ ps d').map fun r => ((c ∧ p.ln = y.size) ∧ r.1, r.2)
        | none => none
      | none => none
    | none => none
def rowD (tb : TB) (e sz : Nat) (ρ : Operand → AV) : Nat → List (Nat × Operand) → Option (Prop × Dc)
  | _, [] => some (True, .nil)
  | i, (j, x) :: ps => if i = j then match asC tb e (ρ x) with
      | some (c, p) => (rowD tb e sz ρ (i + 1) ps).map fun r => ((c ∧ p.ln = sz) ∧ r.1, p.app r.2)
      | none => none
    else none
def abin : BinOp → Value → Value → Option Value
  | .add, .int k a, .int k' b => if k = k' then some (.int k (k.wrap (a + b))) else none
  | .sub, .int k a, .int k' b => if k = k' then some (.int k (k.wrap (a - b))) else none
  | .mul, .int k a, .int k' b => if k = k' then some (.int k (k.wrap (a * b))) else none
  | .quo, .int k a, .int k' b => if k = k' ∧ b ≠ 0 then some (.int k (k.wrap (a.tdiv b))) else none
  | .rem, .int k a, .int k' b => if k = k' ∧ b ≠ 0 then some (.int k (a.tmod b)) else none
  | .eql, .int k a, .int k' b => if k = k' then some (.bool (a == b)) else none
  | .neq, .int k a, .int k' b => if k = k' then some (.bool (a != b)) else none
  | .lss, .int k a, .int k' b => if k = k' then some (.bool (decide (a < b))) else none
  | .leq, .int k a, .int k' b => if k = k' then some (.bool (decide (a ≤ b))) else none
  | .gtr, .int k a, .int k' b => if k = k' then some (.bool (decide (b < a))) else none
  | .geq, .int k a, .int k' b => if k = k' then some (.bool (decide (b ≤ a))) else none
  | _, _, _ => none
/-- Truths that are compared. -/
@[simp] def aboolV : BinOp → Value → Value → Option Bool
  | .eql, .bool a, .bool b => some (a == b)
  | _, _, _ => none
def AV.nth : AV → Nat → Option AV
  | .cons a _, 0 => some a
  | .cons _ r, n + 1 => r.nth n
  | _, _ => none
def AV.list : List AV → AV
  | [] => .nil
  | a :: r => .cons a (AV.list r)
/-- What a step leaves: the slot's value; a variable (its name, type, cells); a name in use (and its version). -/
structure Out where
  av : AV
  bu : Option (Nat × Nat × Dc) := none
  tu : Option (Nat × Nat) := none
def lo? : Option AV → Option Nat → Option (Prop × Nat)
  | none, some d => some (True, d)
  | some (.v (.int _ n)), _ => some (0 ≤ n, n.toNat)
  | _, _ => none
/-- A piece of a slice. -/
def aslice (tb : TB) (ρ : Operand → AV) (T : Nat) (x : Operand) (lo hi mx : Option Operand) : Option (Prop × Out) :=
  match mx with
  | some _ => none
  | none => match tb T with
    | some { sh := .sl e, .. } => match tb e with
      | some y => match lo, (ρ x).room with
        | none, some (sz, d, s) => match lo? (hi.map ρ) (some (d.len / sz)) with
          | some (c, h) => some (c ∧ sz = y.size ∧ 0 < sz ∧ h * sz ≤ d.len + s.len, { av := .c (.seg none (.row sz e ((d.app s).tk (h * sz)) ((d.app s).dp (h * sz)) .nil) .nil) })
          | none => none
        | lo, _ => match (ρ x).cont with
          | some (sz, d) => match lo? (lo.map ρ) (some 0), lo? (hi.map ρ) (some (d.len / sz)) with
            | some (c1, l), some (c2, h) => some (c1 ∧ c2 ∧ sz = y.size ∧ 0 < sz ∧ l ≤ h ∧ h * sz ≤ d.len, { av := .c (.row none sz e ((d.dp (l * sz)).tk ((h - l) * sz)) .nil) })
            | _, _ => none
          | none => none
      | none => none
    | _ => none
/-- A row made with room, nothing in it. -/
def amake (tb : TB) (ρ : Operand → AV) (nm T : Nat) (x y : Operand) : Option (Prop × Out) :=
  match tb T with
  | some { sh := .sl e, .. } => match tb e with
    | some z => match ρ x, ρ y with
      | .v (.int _ n), .v (.int _ c) => some (n = 0 ∧ 0 ≤ c ∧ c ≤ 1000000000 ∧ 0 < z.size, { av := .c (.blk nm 1 z.size e .nil .nil), tu := some (nm, 1) })
      | _, _ => none
    | none => none
  | _ => none
/-- len. -/
def abuiltin (tb : TB) (ρ : Operand → AV) (c : Call) : Option (Prop × Out) :=
  match c.callee with
  | .builtin .len => match c.args.toList, c.argTypes.toList with
    | [x], [T] => match tb T with
      | some { sh := .sl _, .. } => match ρ x with
        | .v (.slice none 0 0) => some (True, { av := .v (.int .i64 0) })
        | .v (.slice (some _) n _) => some (True, { av := .v (.int .i64 n) })
        | .c d => match d.cont with
          | some (sz, d) => some (0 < sz, { av := .v (.int .i64 ((d.len / sz : Nat) : Int)) })
          | none => none
        | _ => none
      | _ => none
    | _, _ => none
  | .builtin .max => match c.args.toList with
    | [x, y] => match ρ x, ρ y with
      | .v (.int k a), .v (.int _ b) => some (True, { av := .v (.int k (if b > a then b else a)) })
      | _, _ => none
    | _ => none
  | _ => none
/-- From here on names of variables are numbers of blocks. -/
def K0 : Nat := 1000000000
@[simp] def abool (tb : TB) (op : BinOp) (T : Nat) (a b : Value) : Option (Prop × Out) :=
  match aboolV op a b, tb T with
  | some t, some { sh := .bo, .. } => some (True, { av := .v (.bool t) })
  | _, _ => none
/-- The calm steps. -/
def aout (tb : TB) (ρ : Operand → AV) (cont : Option (Nat × Dc)) (nm : Nat) : Op → Option (Prop × Out)
  | .move x => some (True, { av := ρ x })
  | .assign x => some (True, { av := ρ x })
  | .pick c a b => match ρ c with
    | .v (.bool t) => some (True, { av := if t then ρ a else ρ b })
    | _ => none
  | .alloc T => (tb T).map fun y => (True, { av := .bx nm 0, bu := some (nm, T, y.zero) })
  | .box T x => (asC tb T (ρ x)).map fun r => (r.1, { av := .bx nm 0, bu := some (nm, T, r.2) })
  | .build T ps => match tb T with
    | some { sh := .st fs, zero := z, .. } => (fillD tb T ρ ps.toList z).map fun r => ((fs.all fun f => (tb f.2).isSome) = true ∧ r.1, { av := .agg r.2 })
    | _ => none
  | .buildSlice T n ps => match tb T with
    | some { sh := .sl e, .. } => match tb e with
      | some y => (rowD tb e y.size ρ 0 ps.toList).map fun r => ((0 < y.size ∧ n * y.size ≤ 10000 ∧ n = ps.toList.length) ∧ r.1, { av := .c (.blk nm 1 y.size e r.2 .nil), tu := some (nm, 1) })
      | none => none
    | _ => none
  | .load T a => match tb T with
    | some y => match ρ a with
      | .bx _ off => match cont with
        | some (_, d) => match d.dp off with
          | some d1 => match d1.tk y.size with
            | some d2 => match y.sh with
              | .st _ => some (True, { av := .agg d2 })
              | .arr => none
              | _ => some (y.size = 1, { av := d2.sing })
            | none => none
          | none => none
        | none => none
      | .el x => match x.hd y.size with
        | some d2 => match y.sh with
          | .st _ => some (True, { av := .agg d2 })
          | .arr => none
          | _ => some (y.size = 1, { av := d2.sing })
        | none => none
      | _ => none
    | none => none
  | .nilCheck x => match ρ x with
    | .bx k o => some (True, { av := .bx k o })
    | .el x => some (True, { av := .el x })
    | _ => none
  | .fieldAddr S x f => match fieldOf tb S f with
    | some (o, _, y) => match ρ x with
      | .bx k off => some (y.size ≠ 0, { av := .bx k (off + o) })
      | .el x => some (y.size ≠ 0, { av := .el (x.dp o) })
      | _ => none
    | none => none
  | .field S x f => match fieldOf tb S f with
    | some (o, _, y) => match ρ x with
      | .agg d => match d.dp o with
        | some d1 => match d1.tk y.size with
          | some d2 => match y.sh with
            | .st _ => some (True, { av := .agg d2 })
            | .arr => none
            | _ => some (y.size = 1, { av := d2.sing })
          | none => none
        | none => none
      | _ => none
    | none => none
  | .indexAddr T x i => match tb T with
    | some { sh := .sl e, .. } => match tb e with
      | some y => match (ρ x).cont, ρ i with
        | some (sz, d), .v (.int _ n) => some (sz = y.size ∧ 0 < sz ∧ 0 ≤ n ∧ (n.toNat + 1) * sz ≤ d.len, { av := .el (d.dp (n.toNat * sz)) })
        | _, _ => none
      | none => none
    | _ => none
  | .extract t i => match ρ t with
    | .tup l => (l.nth i).map fun a => (True, { av := a })
    | _ => none
  | .binOp op T x y _ => match ρ x, ρ y with
    | .v a, .v b => match abin op a b with
      | some v => some (True, { av := .v v })
      | none => abool tb op T a b
    | _, _ => none
  | .unOp op _ x => match op, ρ x with
    | .not, .v (.bool t) => some (True, { av := .v (.bool (!t)) })
    | .neg, .v (.int k n) => some (True, { av := .v (.int k (k.wrap (-n))) })
    | _, _ => none
  | .convert s t x => match tb t with
    | some { sh := .int k, .. } => match ρ x with
      | .v (.int _ n) => some ((tb s).isSome = true, { av := .v (.int k (k.wrap n)) })
      | _ => none
    | _ => none
  | .makeFunc f a c => some (True, { av := .fn f (.list (a.toList.map ρ)) (.list (c.toList.map ρ)) })
  | .slice T x lo hi mx => aslice tb ρ T x lo hi mx
  | .makeSlice T x y => amake tb ρ nm T x y
  | .call c => abuiltin tb ρ c
  | _ => none
end Go.Proofs.YtkcmapimcgppmaaGreatDoor
end
section
namespace Go.Proofs.YtkcmapimcgppmaaGreatDoor
open Go.RowKit

/-- What holds of memory. -/
structure Inv (g : Gh) : Prop where
  F : ∀ b o v, g.F b o = some v → U g.w b o = some v
  base : g.base ≤ g.w.heap.size
  box : ∀ k T d, g.st.bx k = some (T, d) → g.base ≤ g.B k ∧ (∀ o, g.F (g.B k) o = none) ∧ ∃ xs, g.w.heap[g.B k]? = some (.cells xs.toArray T (0, 0)) ∧ RepC g d xs
  inj : ∀ k k', g.st.bx k ≠ none → g.st.bx k' ≠ none → g.B k = g.B k' → k = k'
  fpb : ∀ k j b, g.st.τ k ≠ none → b ∈ g.fp (k, j) → g.base ≤ b ∧ b < g.w.heap.size ∧ ∀ i, g.st.bx i ≠ none → b ≠ g.B i
  fpd : ∀ k k' b, g.st.τ k.1 ≠ none → g.st.τ k'.1 ≠ none → b ∈ g.fp k → b ∈ g.fp k' → k = k'
def upd {α : Type} (f : Nat → Option α) (k : Nat) (x : α) : Nat → Option α := fun n => if n = k then some x else f n
def updo {α : Type} (f : Nat → Option α) : Option (Nat × α) → Nat → Option α
  | none => f
  | some (k, x) => upd f k x
/-- A step from one to the other, that leaves all that lay. -/
structure Ext (g g' : Gh) (o : Out) : Prop where
  inv : Inv g'
  tr : Tr g g'
  below : Below g.base g.w g'.w
  bx : g'.st.bx = updo g.st.bx o.bu
  τ : g'.st.τ = updo g.st.τ o.tu

theorem Tr.refl (g : Gh) : Tr g g := ⟨fun _ _ _ _ h => h, Nat.le_refl _, rfl, fun _ _ => rfl, fun _ _ _ => rfl, fun _ h => ⟨h, rfl⟩, fun _ _ h => .inl ⟨h, fun _ _ hb => ⟨hb, rfl, fun _ h => h⟩⟩⟩
theorem Tr.trans {a b c : Gh} (h : Tr a b) (k : Tr b c) : Tr a c where
  F := fun b o v hb hv => k.F _ _ _ (Nat.lt_of_lt_of_le hb h.size) (h.F _ _ _ hb hv)
  size := Nat.le_trans h.size k.size
  base := k.base.trans h.base
  old := fun b hb => (k.old b (by rw [h.base]; exact hb)).trans (h.old b hb)
  Fo := fun b o hb => (k.Fo b o (by rw [h.base]; exact hb)).trans (h.Fo b o hb)
  bx := fun n hn => ⟨(k.bx n (h.bx n hn).1).1, (k.bx n (h.bx n hn).1).2.trans (h.bx n hn).2⟩
  tok := fun n ver hv => by
    rcases h.tok n ver hv with ⟨h1, h2⟩ | ⟨h1, v', h2, h3⟩
    · rcases k.tok n ver h1 with ⟨h4, h5⟩ | h4
      · exact .inl ⟨h4, fun j b hb => ⟨(h5 j b (h2 j b hb).1).1, ((h5 j b (h2 j b hb).1).2.1).trans (h2 j b hb).2.1, fun o ho => (h5 j b (h2 j b hb).1).2.2 o ((h2 j b hb).2.2 o ho)⟩⟩
      · exact .inr h4
    · rcases k.tok n v' h2 with ⟨h4, -⟩ | ⟨-, v2, h4, h5⟩
      · exact .inr ⟨h1, v', h4, h3⟩
      · exact .inr ⟨h1, v2, h4, by omega⟩
theorem Ext.same {g : Gh} (hI : Inv g) {o : Out} (h1 : o.bu = none) (h2 : o.tu = none) : Ext g g o := ⟨hI, Tr.refl g, Below.refl _ _, by rw [h1]; rfl, by rw [h2]; rfl⟩

theorem ty_info {P : Program} {tb : TB} (hT : TbOk P tb) {T : Nat} {y : Ty} (h : tb T = some y) : ∃ i d, P.info? T = some i ∧ P.underlying T = some d ∧ shOf d = y.sh ∧ i.zero = some y.zval ∧ i.size = y.size ∧ i.bytes = y.bytes ∧ y.zero.zs = some y.zval.cells.toList ∧ y.zval.cells.size = y.size ∧ y.bytes ≤ 1000 := by
  obtain ⟨h1, h2, h3, h4, h5⟩ := hT T y h
  cases hi : P.info? T with
  | none => simp [hi] at h2
  | some i =>
    cases hu : P.underlying T with
    | none => simp [hu] at h1
    | some d =>
      simp [hi] at h2
      simp [hu] at h1
      exact ⟨i, d, rfl, rfl, h1, h2.1, h2.2.1, h2.2.2, h3, h4, h5⟩
theorem sh_st {d : TypeDesc} {fs : List (Nat × Nat)} (h : shOf d = .st fs) : ∃ gs : Array Field, d = .struct gs ∧ fs = gs.toList.map fun f => (f.offset, f.type) := by
  cases d <;> simp [shOf] at h
  exact ⟨_, rfl, h.symm⟩
theorem sh_sl {d : TypeDesc} {e : Nat} (h : shOf d = .sl e) : d = .slice e := by
  cases d <;> simp [shOf] at h
  rw [h]
theorem sh_bo {d : TypeDesc} (h : shOf d = .bo) : d = .bool := by
  cases d <;> simp [shOf] at h
  rfl
theorem sh_int {d : TypeDesc} {k : IntKind} (h : shOf d = .int k) : d = .int k := by
  cases d <;> simp [shOf] at h
  rw [h]
theorem sh_one {d : TypeDesc} {s : Sh} (h : shOf d = s) (h1 : ∀ fs, s ≠ .st fs) (h2 : s ≠ .arr) : d.isRow = false := by
  cases d <;> simp [shOf, TypeDesc.isRow] at h ⊢
  · exact h2 h.symm
  · exact h1 _ h.symm
theorem run_v {P : Program} {s : Sem Value} {w w' : World} {v : Value} (h : s.run P w = .ok v w') : (do pure (Next.value (← s)) : Sem Next).run P w = .ok (.value v) w' := by simp [h]
theorem getElem?_slice {xs : List Value} {o n j : Nat} {u : Value} (h : ((xs.drop o).take n)[j]? = some u) : xs[o + j]? = some u := by
  rw [List.getElem?_take] at h
  split at h
  · rwa [List.getElem?_drop] at h
  · cases h
/-- A load of known cells. -/
theorem run_load_cells {P : Program} {tb : TB} (hT : TbOk P tb) {T : Nat} {y : Ty} (hy : tb T = some y) {w : World} {b o : Nat} {cs : List Value} (hc : w.rangeAt b o cs) (hl : cs.length = y.size) :
    (∀ fs, y.sh = .st fs → (Instr.loadAt T (.pointer (some ⟨b, o, none⟩))).run P w = .ok (.agg cs.toArray) w) ∧
    ((∀ fs, y.sh ≠ .st fs) → y.sh ≠ .arr → ∀ v, cs = [v] → (Instr.loadAt T (.pointer (some ⟨b, o, none⟩))).run P w = .ok v w) := by
  obtain ⟨i, d, h1, h2, h3, -, h4, -⟩ := ty_info hT hy
  refine ⟨fun fs hs => ?_, fun h5 h6 v hv => ?_⟩
  · obtain ⟨gs, rfl, -⟩ := sh_st (h3.trans hs)
    exact run_loadAt_mid w b o T cs _ hc h2 rfl (by rw [h1, hl, ← h4]; rfl)
  · have hr := sh_one h3 h5 h6
    have hc0 := hc 0 v (by rw [hv]; rfl)
    simp only [Nat.add_zero] at hc0
    have hagg : (isAgg T).run P w = .ok false w := by
      unfold isAgg
      rw [Sem.run_bind, run_underlying h2 w]
      cases d <;> simp_all [TypeDesc.isRow]
    simp [Instr.loadAt, Instr.sureAddr, loadVar, hagg, hc0]
theorem RepC.sing {g : Gh} {d : Dc} {v : Value} (h : RepC g d [v]) : RepV g d.sing [v] := by
  unfold Dc.sing
  split
  · obtain ⟨-, ys, e, h⟩ := h
    cases h
    exact e
  · exact h
theorem RepC.one_of {g : Gh} {d : Dc} {xs : List Value} (h : RepC g d xs) (hl : xs.length = 1) : ∃ v, xs = [v] := by
  match xs, hl with
  | [v], _ => exact ⟨v, rfl⟩
theorem Inv.lt {g : Gh} (hI : Inv g) : ∀ b o v, g.F b o = some v → b < g.w.heap.size := fun b o v h => U_lt (hI.F b o v h)
theorem Inv.fs {g : Gh} (hI : Inv g) {b o : Nat} {v : Value} (h : g.Fs b o = some v) : U g.w b o = some v := by
  unfold Gh.Fs at h
  split at h
  · exact h
  · exact hI.F _ _ _ h

theorem asC_rep {tb : TB} {g : Gh} {T : Nat} {a : AV} {v : Value} {c : Prop} {d : Dc} (ha : RepV g a [v]) (h : asC tb T a = some (c, d)) (hc : c) : RepC g d v.cells.toList := by
  unfold asC at h
  cases a with
  | v x =>
    obtain rfl : v = x := by simpa [RepV] using ha
    simp only at h
    split at h
    · split at h
      · split at h
        · cases h; exact ⟨[], rfl, rfl⟩
        · cases h; exact ⟨rfl, [], rfl, rfl⟩
        · cases h
      · cases h
    · cases h
      have e : v.cells.toList = [v] := by cases v <;> first | rfl | (simp [Value.oneCell'] at hc)
      rw [e]
      exact ⟨hc, [], rfl, rfl⟩
  | c x =>
    simp at h
    obtain ⟨-, rfl⟩ := h
    have ha : RepC g x [v] := ha
    have h1 := ha.one v (by simp)
    have e : v.cells.toList = [v] := by cases v <;> first | rfl | (simp [Value.oneCell'] at h1)
    rw [e]; exact ha
  | agg x =>
    simp at h
    obtain ⟨-, rfl⟩ := h
    obtain ⟨ys, e, h1⟩ := ha
    obtain rfl : v = .agg ys.toArray := by simpa using e
    simpa [Value.cells] using h1
  | junk => cases h
  | bx k o => cases h
  | el x => cases h
  | nil => cases h
  | cons x y => cases h
  | tup l => cases h
  | fn f x y => cases h

/-- A variable more. -/
theorem Inv.newBox {g : Gh} (hI : Inv g) {nm T : Nat} {d : Dc} {xs : List Value} (hd : RepC g d xs) (hn : g.st.bx nm = none) :
    ∃ g' : Gh, Inv g' ∧ Tr g g' ∧ Below g.base g.w g'.w ∧ g'.w = g.w.alloc (.cells xs.toArray T) ∧ g'.st.bx = upd g.st.bx nm (T, d) ∧ g'.st.τ = g.st.τ ∧ g'.B nm = g.w.heap.size := by
  have hs : (g.w.alloc (.cells xs.toArray T)).heap.size = g.w.heap.size + 1 := by simp
  have hb := below_alloc g.w (.cells xs.toArray T)
  let g' : Gh := { g with st := { g.st with bx := upd g.st.bx nm (T, d) }, w := g.w.alloc (.cells xs.toArray T), B := fun k => if k = nm then g.w.heap.size else g.B k }
  have hB : ∀ k, g.st.bx k ≠ none → g'.st.bx k = g.st.bx k ∧ g'.B k = g.B k := fun k hk => by
    have : k ≠ nm := fun e => hk (e ▸ hn)
    exact ⟨if_neg this, if_neg this⟩
  have ht : Tr g g' := ⟨fun _ _ _ _ h => h, by show _ ≤ (g.w.alloc _).heap.size; omega, rfl, fun b hb' => hb.block b (Nat.lt_of_lt_of_le hb' hI.base), fun _ _ _ => rfl, fun k hk => ⟨by rw [(hB k hk).1]; exact hk, (hB k hk).2⟩,
    fun k ver hv => .inl ⟨hv, fun j b hb' => ⟨hb', hb.block b (hI.fpb k j b (by rw [hv]; simp) hb').2.1, fun _ h => h⟩⟩⟩
  have hnm : g'.B nm = g.w.heap.size := if_pos rfl
  have hxn : g'.st.bx nm = some (T, d) := if_pos rfl
  have hlt : ∀ k, g.st.bx k ≠ none → g.B k < g.w.heap.size := fun k hk => by
    obtain ⟨⟨T', d'⟩, e⟩ := Option.ne_none_iff_exists'.1 hk
    obtain ⟨-, -, xs', h1, -⟩ := hI.box k T' d' e
    exact (Array.getElem?_eq_some_iff.1 h1).1
  have hcase : ∀ k, g'.st.bx k ≠ none → k = nm ∨ (k ≠ nm ∧ g.st.bx k ≠ none) := fun k hk => by
    by_cases e : k = nm
    · exact .inl e
    · refine .inr ⟨e, fun h => hk ?_⟩
      show upd g.st.bx nm (T, d) k = none
      unfold upd; rw [if_neg e]; exact h
  refine ⟨g', ⟨fun b o v h => U_below hb b o v (hI.lt _ _ _ h) (hI.F b o v h), by show _ ≤ (g.w.alloc _).heap.size; have := hI.base; show g.base ≤ _; omega, ?_, ?_, ?_, ?_⟩, ht, hb.mono hI.base, rfl, rfl, rfl, hnm⟩
  · intro k T' d' e
    by_cases hk : k = nm
    · subst hk
      rw [hxn] at e
      cases e
      rw [hnm]
      refine ⟨hI.base, fun o => ?_, xs, heap_alloc_new _ _, hd.tr ht⟩
      cases hf : g.F g.w.heap.size o with
      | none => rfl
      | some v => exact absurd (hI.lt _ _ _ hf) (by omega)
    · have e' : g.st.bx k = some (T', d') := by
        have : g'.st.bx k = g.st.bx k := if_neg hk
        rw [← this]; exact e
      obtain ⟨h1, h2, xs', h3, h4⟩ := hI.box k T' d' e'
      rw [(hB k (by rw [e']; simp)).2]
      exact ⟨h1, h2, xs', (hb.block _ (Array.getElem?_eq_some_iff.1 h3).1).trans h3, h4.tr ht⟩
  · intro k k' hk hk' e
    rcases hcase k hk with rfl | ⟨n1, h1⟩ <;> rcases hcase k' hk' with rfl | ⟨n2, h2⟩
    · rfl
    · rw [hnm, (hB k' h2).2] at e
      have := hlt k' h2; omega
    · rw [hnm, (hB k h1).2] at e
      have := hlt k h1; omega
    · rw [(hB k h1).2, (hB k' h2).2] at e
      exact hI.inj k k' h1 h2 e
  · intro k j b hk hb'
    obtain ⟨h1, h2, h3⟩ := hI.fpb k j b hk hb'
    refine ⟨h1, by show b < (g.w.alloc _).heap.size; omega, fun i hi => ?_⟩
    rcases hcase i hi with rfl | ⟨-, hi'⟩
    · rw [hnm]; omega
    · rw [(hB i hi').2]; exact h3 i hi'
  · exact fun k k' b h1 h2 => hI.fpd k k' b h1 h2
/-- A row more, in a block of its own. -/
theorem Inv.newBlk {g : Gh} (hI : Inv g) {nm sz e n : Nat} {d : Dc} {xs : List Value} (hd : RepC g d xs) (hn : g.st.τ nm = none) (hl : xs.length = n * sz) (hm : n ≤ maxLen) :
    ∃ g' : Gh, Inv g' ∧ Tr g g' ∧ Below g.base g.w g'.w ∧ g'.w = g.w.alloc (.cells xs.toArray e) ∧ g'.st.bx = g.st.bx ∧ g'.st.τ = upd g.st.τ nm 1 ∧ RepC g' (.blk nm 1 sz e d .nil) [.slice (some ⟨g.w.heap.size, 0, none⟩) n n] := by
  have hs : (g.w.alloc (.cells xs.toArray e)).heap.size = g.w.heap.size + 1 := by simp
  have hb := below_alloc g.w (.cells xs.toArray e)
  let g' : Gh := { g with st := { g.st with τ := upd g.st.τ nm 1 }, w := g.w.alloc (.cells xs.toArray e), F := fun b o => if b = g.w.heap.size then xs[o]? else g.F b o, fp := fun k => if k.1 = nm then (if k.2 = 0 then [g.w.heap.size] else []) else g.fp k }
  have hτ : ∀ k, g.st.τ k ≠ none → k ≠ nm ∧ g'.st.τ k = g.st.τ k ∧ ∀ j, g'.fp (k, j) = g.fp (k, j) := fun k hk => by
    have : k ≠ nm := fun e => hk (e ▸ hn)
    exact ⟨this, if_neg this, fun j => if_neg this⟩
  have hτn : g'.st.τ nm = some 1 := if_pos rfl
  have hfn : g'.fp (nm, 0) = [g.w.heap.size] := by show (if nm = nm then _ else _) = _; rw [if_pos rfl, if_pos rfl]
  have hF : ∀ b, b < g.w.heap.size → ∀ o, g'.F b o = g.F b o := fun b hb' o => if_neg (Nat.ne_of_lt hb')
  have ht : Tr g g' := ⟨fun b o v hb' h => by rw [hF b hb']; exact h, by show _ ≤ (g.w.alloc _).heap.size; omega, rfl, fun b hb' => hb.block b (Nat.lt_of_lt_of_le hb' hI.base), fun b o hb' => hF b (Nat.lt_of_lt_of_le hb' hI.base) o, fun k hk => ⟨hk, rfl⟩,
    fun k ver hv => by
      obtain ⟨h1, h2, h3⟩ := hτ k (by rw [hv]; simp)
      refine .inl ⟨h2.trans hv, fun j b hb' => ?_⟩
      have hlt := (hI.fpb k j b (by rw [hv]; simp) hb').2.1
      exact ⟨by rw [h3]; exact hb', hb.block b hlt, fun o ho => by rw [hF b hlt]; exact ho⟩⟩
  have hlt : ∀ k, g.st.bx k ≠ none → g.B k < g.w.heap.size := fun k hk => by
    obtain ⟨⟨T', d'⟩, e⟩ := Option.ne_none_iff_exists'.1 hk
    obtain ⟨-, -, xs', h1, -⟩ := hI.box k T' d' e
    exact (Array.getElem?_eq_some_iff.1 h1).1
  have hdr := hd.tr ht
  have hblk : (g.w.alloc (.cells xs.toArray e)).heap[g.w.heap.size]? = some (.cells xs.toArray e (0, 0)) := heap_alloc_new _ _
  have hcase : ∀ k j b, g'.st.τ k ≠ none → b ∈ g'.fp (k, j) → (k = nm ∧ j = 0 ∧ b = g.w.heap.size) ∨ (k ≠ nm ∧ g.st.τ k ≠ none ∧ b ∈ g.fp (k, j)) := fun k j b hk hb' => by
    by_cases h1 : k = nm
    · left
      refine ⟨h1, ?_⟩
      have : b ∈ (if j = 0 then [g.w.heap.size] else []) := by
        have h2 : g'.fp (k, j) = if j = 0 then [g.w.heap.size] else [] := if_pos h1
        rw [← h2]; exact hb'
      split at this
      · exact ⟨by assumption, by simpa using this⟩
      · cases this
    · right
      have h2 : g'.st.τ k = g.st.τ k := if_neg h1
      have h3 : g'.fp (k, j) = g.fp (k, j) := if_neg h1
      exact ⟨h1, by rw [← h2]; exact hk, by rw [← h3]; exact hb'⟩
  refine ⟨g', ⟨?_, by show g.base ≤ (g.w.alloc _).heap.size; have := hI.base; omega, ?_, hI.inj, ?_, ?_⟩, ht, hb.mono hI.base, rfl, rfl, rfl, ?_⟩
  · intro b o v h
    by_cases hbs : b = g.w.heap.size
    · subst hbs
      have h' : xs[o]? = some v := by
        have : g'.F g.w.heap.size o = xs[o]? := if_pos rfl
        rw [← this]; exact h
      exact laid_cell (by simpa using h')
    · have h' : g.F b o = some v := by
        have : g'.F b o = g.F b o := if_neg hbs
        rw [← this]; exact h
      exact U_below hb b o v (hI.lt _ _ _ h') (hI.F b o v h')
  · intro k T' d' e'
    obtain ⟨h1, h2, xs', h3, h4⟩ := hI.box k T' d' e'
    refine ⟨h1, fun o => ?_, xs', (hb.block _ (Array.getElem?_eq_some_iff.1 h3).1).trans h3, h4.tr ht⟩
    rw [hF _ (hlt k (by have : g.st.bx k = some (T', d') := e'; rw [this]; simp))]
    exact h2 o
  · intro k j b hk hb'
    rcases hcase k j b hk hb' with ⟨-, -, rfl⟩ | ⟨-, h1, h2⟩
    · exact ⟨hI.base, by show _ < (g.w.alloc _).heap.size; omega, fun i hi => by have := hlt i hi; show _ ≠ g.B i; omega⟩
    · obtain ⟨h3, h4, h5⟩ := hI.fpb k j b h1 h2
      exact ⟨h3, by show b < (g.w.alloc _).heap.size; omega, h5⟩
  · rintro ⟨k, j⟩ ⟨k', j'⟩ b h1 h2 h3 h4
    rcases hcase k j b h1 h3 with ⟨rfl, rfl, rfl⟩ | ⟨-, h5, h6⟩ <;> rcases hcase k' j' _ h2 h4 with ⟨rfl, rfl, e2⟩ | ⟨-, h7, h8⟩
    · rfl
    · exact absurd (hI.fpb k' j' _ h7 h8).2.1 (by omega)
    · subst e2; exact absurd (hI.fpb k j _ h5 h6).2.1 (by omega)
    · exact hI.fpd (k, j) (k', j') b h5 h7 h6 h8
  · have hrow : (g.w.alloc (.cells xs.toArray e)).ownsRow g.base e sz (.slice (some ⟨g.w.heap.size, 0, none⟩) n n) n xs := World.ownsRow_lit g.w xs.toArray n hI.base hm (by simpa using hl)
    have hFn : ∀ o, g'.F g.w.heap.size o = xs[o]? := fun o => if_pos rfl
    refine ⟨hd.good, by decide, _, [], rfl, ⟨_, n, n, rfl, ?_, Nat.le_refl _, hm, by rw [Dc.ds_len, ← hd.len]; simp [Ds.len, hl], .inr (.inr ⟨_, 0, rfl, by show _ < (g.w.alloc _).heap.size; omega, hdr.vs.at_ (fun j u hu => ?_), trivial⟩)⟩, ⟨1, hτn, Nat.le_refl _, fun _ => ⟨n, xs, hrow, hdr, fun b hb' => ?_⟩⟩, rfl⟩
    · rw [Dc.ds_len, ← hd.len]; exact hl.symm
    · rw [Nat.zero_add, hFn]; exact hu
    · obtain rfl : b = g.w.heap.size := by simpa [Value.ownBlock] using hb'.symm
      exact ⟨by rw [hfn]; simp, fun o ho => by rw [hFn]; simp; exact ho⟩
/-- A block made with room, nothing in it yet. -/
theorem Inv.newRoom {g : Gh} (hI : Inv g) {nm sz e c : Nat} {xs : List Value} (hn : g.st.τ nm = none) (hl : xs.length = c * sz) (hm : c ≤ maxLen) :
    ∃ g' : Gh, Inv g' ∧ Tr g g' ∧ Below g.base g.w g'.w ∧ g'.w = g.w.alloc (.cells xs.toArray e) ∧ g'.st.bx = g.st.bx ∧ g'.st.τ = upd g.st.τ nm 1 ∧ RepC g' (.blk nm 1 sz e .nil .nil) [.slice (some ⟨g.w.heap.size, 0, none⟩) 0 c] := by
  have hs : (g.w.alloc (.cells xs.toArray e)).heap.size = g.w.heap.size + 1 := by simp
  have hb := below_alloc g.w (.cells xs.toArray e)
  let g' : Gh := { g with st := { g.st with τ := upd g.st.τ nm 1 }, w := g.w.alloc (.cells xs.toArray e), F := fun b o => if b = g.w.heap.size then none else g.F b o, fp := fun k => if k.1 = nm then (if k.2 = 0 then [g.w.heap.size] else []) else g.fp k }
  have hτ : ∀ k, g.st.τ k ≠ none → k ≠ nm ∧ g'.st.τ k = g.st.τ k ∧ ∀ j, g'.fp (k, j) = g.fp (k, j) := fun k hk => by
    have : k ≠ nm := fun e => hk (e ▸ hn)
    exact ⟨this, if_neg this, fun j => if_neg this⟩
  have hτn : g'.st.τ nm = some 1 := if_pos rfl
  have hfn : g'.fp (nm, 0) = [g.w.heap.size] := by show (if nm = nm then _ else _) = _; rw [if_pos rfl, if_pos rfl]
  have hF : ∀ b, b < g.w.heap.size → ∀ o, g'.F b o = g.F b o := fun b hb' o => if_neg (Nat.ne_of_lt hb')
  have ht : Tr g g' := ⟨fun b o v hb' h => by rw [hF b hb']; exact h, by show _ ≤ (g.w.alloc _).heap.size; omega, rfl, fun b hb' => hb.block b (Nat.lt_of_lt_of_le hb' hI.base), fun b o hb' => hF b (Nat.lt_of_lt_of_le hb' hI.base) o, fun k hk => ⟨hk, rfl⟩,
    fun k ver hv => by
      obtain ⟨h1, h2, h3⟩ := hτ k (by rw [hv]; simp)
      refine .inl ⟨h2.trans hv, fun j b hb' => ?_⟩
      have hlt := (hI.fpb k j b (by rw [hv]; simp) hb').2.1
      exact ⟨by rw [h3]; exact hb', hb.block b hlt, fun o ho => by rw [hF b hlt]; exact ho⟩⟩
  have hlt : ∀ k, g.st.bx k ≠ none → g.B k < g.w.heap.size := fun k hk => by
    obtain ⟨⟨T', d'⟩, e⟩ := Option.ne_none_iff_exists'.1 hk
    obtain ⟨-, -, xs', h1, -⟩ := hI.box k T' d' e
    exact (Array.getElem?_eq_some_iff.1 h1).1
  have hblk : (g.w.alloc (.cells xs.toArray e)).heap[g.w.heap.size]? = some (.cells xs.toArray e (0, 0)) := heap_alloc_new _ _
  have hcase : ∀ k j b, g'.st.τ k ≠ none → b ∈ g'.fp (k, j) → (k = nm ∧ j = 0 ∧ b = g.w.heap.size) ∨ (k ≠ nm ∧ g.st.τ k ≠ none ∧ b ∈ g.fp (k, j)) := fun k j b hk hb' => by
    by_cases h1 : k = nm
    · left
      refine ⟨h1, ?_⟩
      have : b ∈ (if j = 0 then [g.w.heap.size] else []) := by
        have h2 : g'.fp (k, j) = if j = 0 then [g.w.heap.size] else [] := if_pos h1
        rw [← h2]; exact hb'
      split at this
      · exact ⟨by assumption, by simpa using this⟩
      · cases this
    · right
      have h2 : g'.st.τ k = g.st.τ k := if_neg h1
      have h3 : g'.fp (k, j) = g.fp (k, j) := if_neg h1
      exact ⟨h1, by rw [← h2]; exact hk, by rw [← h3]; exact hb'⟩
  refine ⟨g', ⟨?_, by show g.base ≤ (g.w.alloc _).heap.size; have := hI.base; omega, ?_, hI.inj, ?_, ?_⟩, ht, hb.mono hI.base, rfl, rfl, rfl, ?_⟩
  · intro b o v h
    by_cases hbs : b = g.w.heap.size
    · subst hbs
      have : g'.F g.w.heap.size o = none := if_pos rfl
      rw [this] at h; cases h
    · have h' : g.F b o = some v := by
        have : g'.F b o = g.F b o := if_neg hbs
        rw [← this]; exact h
      exact U_below hb b o v (hI.lt _ _ _ h') (hI.F b o v h')
  · intro k T' d' e'
    obtain ⟨h1, h2, xs', h3, h4⟩ := hI.box k T' d' e'
    refine ⟨h1, fun o => ?_, xs', (hb.block _ (Array.getElem?_eq_some_iff.1 h3).1).trans h3, h4.tr ht⟩
    rw [hF _ (hlt k (by have : g.st.bx k = some (T', d') := e'; rw [this]; simp))]
    exact h2 o
  · intro k j b hk hb'
    rcases hcase k j b hk hb' with ⟨-, -, rfl⟩ | ⟨-, h1, h2⟩
    · exact ⟨hI.base, by show _ < (g.w.alloc _).heap.size; omega, fun i hi => by have := hlt i hi; show _ ≠ g.B i; omega⟩
    · obtain ⟨h3, h4, h5⟩ := hI.fpb k j b h1 h2
      exact ⟨h3, by show b < (g.w.alloc _).heap.size; omega, h5⟩
  · rintro ⟨k, j⟩ ⟨k', j'⟩ b h1 h2 h3 h4
    rcases hcase k j b h1 h3 with ⟨rfl, rfl, rfl⟩ | ⟨-, h5, h6⟩ <;> rcases hcase k' j' _ h2 h4 with ⟨rfl, rfl, e2⟩ | ⟨-, h7, h8⟩
    · rfl
    · exact absurd (hI.fpb k' j' _ h7 h8).2.1 (by omega)
    · subst e2; exact absurd (hI.fpb k j _ h5 h6).2.1 (by omega)
    · exact hI.fpd (k, j) (k', j') b h5 h7 h6 h8
  · have hrow : (g.w.alloc (.cells xs.toArray e)).ownsRow g.base e sz (.slice (some ⟨g.w.heap.size, 0, none⟩) 0 c) 0 [] := ⟨by simp, .inr ⟨_, c, xs.toArray, rfl, hI.base, hblk, Nat.zero_le _, hm, by simpa using hl, by simp⟩⟩
    have hFn : ∀ o, g'.F g.w.heap.size o = none := fun o => if_pos rfl
    refine ⟨trivial, by decide, _, [], rfl, ⟨_, 0, c, rfl, by simp [Dc.ds, Ds.len], Nat.zero_le _, hm, by simp [Dc.ds, Ds.len], .inr (.inr ⟨_, 0, rfl, by show _ < (g.w.alloc _).heap.size; omega, trivial, trivial⟩)⟩, ⟨1, hτn, Nat.le_refl _, fun _ => ⟨0, [], hrow, rfl, fun b hb' => ?_⟩⟩, rfl⟩
    obtain rfl : b = g.w.heap.size := by simpa [Value.ownBlock] using hb'.symm
    exact ⟨by rw [hfn]; simp, fun o ho => hFn o⟩
end Go.Proofs.YtkcmapimcgppmaaGreatDoor
end
