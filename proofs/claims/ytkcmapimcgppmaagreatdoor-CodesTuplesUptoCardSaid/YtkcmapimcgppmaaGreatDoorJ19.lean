/-
  Rows that are written over: what of memory turns, what stays; marks that were written. Rows that are written over: appended to in their room, or beyond it; rows of such rows. Rows that are grown one by one, by many at once; the list of what they have grown to. What the walks of rows that are written over ask of a kind of elements, of a list of rows. Conditions: as each lemma states them.
-/
import Derived.Test.YtkcmapimcgppmaaGreatDoorJ01
import Derived.Deep.MidRow
import Derived.Deep.Upon
import Derived.ArgAppend
import Derived.Laws.AppendOwn
import Derived.Great.BuildSlice
import Derived.Test.YtkcmapimcgppmaaGreatDoorJ04
import Derived.Test.YtkcmapimcgppmaaGreatDoorJ11
set_option linter.all false
set_option linter.unusedVariables false
set_option linter.unusedSimpArgs false
set_option linter.unnecessarySimpa false
section
namespace Go.Proofs.YtkcmapimcgppmaaGreatDoor
open Go.RowKit

/-- From one world to another only blocks of X turn, and none whose cells are of type em. -/
structure Tn (em : Nat) (X : Nat → Prop) (w w' : World) : Prop where
  os : w'.os = w.os
  tape : w'.tape = w.tape
  output : w'.output = w.output
  size : w.heap.size ≤ w'.heap.size
  block : ∀ b, b < w.heap.size → ¬ X b → w'.heap[b]? = w.heap[b]?
  keep : ∀ (b : Nat) (cur : Array Value) (fz : Nat × Nat), w.heap[b]? = some (Obj.cells cur em fz) → w'.heap[b]? = some (Obj.cells cur em fz)
theorem Tn.refl (em : Nat) (X : Nat → Prop) (w : World) : Tn em X w w := ⟨rfl, rfl, rfl, Nat.le_refl _, fun _ _ _ => rfl, fun _ _ _ h => h⟩
theorem Tn.trans {em : Nat} {X : Nat → Prop} {a b c : World} (h : Tn em X a b) (k : Tn em X b c) : Tn em X a c :=
  ⟨k.os.trans h.os, k.tape.trans h.tape, k.output.trans h.output, Nat.le_trans h.size k.size, fun i hi hx => (k.block i (Nat.lt_of_lt_of_le hi h.size) hx).trans (h.block i hi hx), fun i c f e => k.keep i c f (h.keep i c f e)⟩
/-- What is new may turn besides. -/
theorem Tn.trans' {em : Nat} {X Y : Nat → Prop} {a b c : World} (h : Tn em X a b) (k : Tn em Y b c) (hxy : ∀ i, i < a.heap.size → Y i → X i) : Tn em X a c :=
  ⟨k.os.trans h.os, k.tape.trans h.tape, k.output.trans h.output, Nat.le_trans h.size k.size, fun i hi hx => (k.block i (Nat.lt_of_lt_of_le hi h.size) (fun hy => hx (hxy i hi hy))).trans (h.block i hi hx), fun i c f e => k.keep i c f (h.keep i c f e)⟩
theorem Tn.mono {em : Nat} {X Y : Nat → Prop} {w w' : World} (h : Tn em X w w') (hxy : ∀ i, i < w.heap.size → X i → Y i) : Tn em Y w w' :=
  ⟨h.os, h.tape, h.output, h.size, fun i hi hy => h.block i hi (fun hx => hy (hxy i hi hx)), h.keep⟩
theorem heap_lt {w : World} {b : Nat} {o : Obj} (h : w.heap[b]? = some o) : b < w.heap.size := (Array.getElem?_eq_some_iff.1 h).1
theorem Tn.of_below {em : Nat} {X : Nat → Prop} {w w' : World} (h : Below w.heap.size w w') : Tn em X w w' :=
  ⟨h.os, h.tape, h.output, h.size, fun b hb _ => h.block b hb, fun b _ _ e => by rw [h.block b (heap_lt e)]; exact e⟩
theorem Tn.below {em : Nat} {X : Nat → Prop} {w w' : World} (h : Tn em X w w') {B : Nat} (hB : B ≤ w.heap.size) (hx : ∀ b, X b → B ≤ b) : Below B w w' :=
  ⟨h.os, h.tape, h.output, h.size, fun b hb => h.block b (Nat.lt_of_lt_of_le hb hB) (fun h1 => by have := hx b h1; omega)⟩

/-- Cells put into a block. -/
theorem setCells_heap {g : Nat} {t : TypeId} : ∀ (vs : List Value) (o : Nat) (cur : Array Value) (w : World), w.heap[g]? = some (Obj.cells cur t (0, 0)) → o + vs.length ≤ cur.size →
    ∃ cur', (w.setCells g o vs).heap[g]? = some (Obj.cells cur' t (0, 0)) ∧ cur'.size = cur.size ∧ (∀ p, p < o ∨ o + vs.length ≤ p → cur'[p]? = cur[p]?) ∧ ∀ j, j < vs.length → cur'[o + j]? = vs[j]?
  | [], o, cur, w, hg, _ => ⟨cur, hg, rfl, fun _ _ => rfl, fun j hj => by simp at hj⟩
  | v :: vs, o, cur, w, hg, hl => by
    simp only [List.length_cons] at hl
    have h1 : (w.setCell ⟨g, o, none⟩ v).heap[g]? = some (Obj.cells (cur.setIfInBounds o v) t (0, 0)) := by
      rw [setCell_eq_setRow w g o cur t (0, 0) v hg]; exact setRow_heap w g cur _ t _ hg
    obtain ⟨cur', h2, h3, h4, h5⟩ := setCells_heap vs (o + 1) _ _ h1 (by rw [Array.size_setIfInBounds]; omega)
    refine ⟨cur', h2, by rw [h3, Array.size_setIfInBounds], fun p hp => ?_, fun j hj => ?_⟩
    · simp only [List.length_cons] at hp
      rw [h4 p (by omega), Array.getElem?_setIfInBounds, if_neg (by omega)]
    · cases j with
      | zero => rw [Nat.add_zero, h4 o (by omega), Array.getElem?_setIfInBounds, if_pos rfl, if_pos (by omega)]; rfl
      | succ j =>
        have := h5 j (by simp at hj; omega)
        rw [show o + (j + 1) = o + 1 + j by omega, this]; rfl
theorem setCells_size (w : World) (g o : Nat) (vs : List Value) : (w.setCells g o vs).heap.size = w.heap.size := by
  induction vs generalizing o w with
  | nil => rfl
  | cons v vs ih => rw [World.setCells, ih]; simp [World.setCell]
theorem setCells_tape (w : World) (g o : Nat) (vs : List Value) : (w.setCells g o vs).tape = w.tape := by
  induction vs generalizing o w with
  | nil => rfl
  | cons v vs ih => rw [World.setCells, ih]; rfl
theorem setCells_other {w : World} {g o i : Nat} {vs : List Value} (hne : i ≠ g) : (w.setCells g o vs).heap[i]? = w.heap[i]? := by
  induction vs generalizing o w with
  | nil => rfl
  | cons v vs ih => rw [World.setCells, ih]; exact Below.heap_setCell _ _ _ _ (by simpa using hne)
theorem setCells_tn {em e : Nat} {w : World} {g o : Nat} {cur : Array Value} (vs : List Value) (hg : w.heap[g]? = some (Obj.cells cur e (0, 0))) (he : e ≠ em) : Tn em (fun b => b = g) w (w.setCells g o vs) :=
  ⟨World.os_setCells _ _ _ _, setCells_tape _ _ _ _, World.output_setCells _ _ _ _, by rw [setCells_size]; exact Nat.le_refl _, fun b _ hb => setCells_other hb, fun b c f h => by
    by_cases e1 : b = g
    · subst e1; rw [hg] at h; cases h; exact absurd rfl he
    · rw [setCells_other e1]; exact h⟩
theorem there_of {w : World} {g o n : Nat} {cur : Array Value} {t : TypeId} (hg : w.heap[g]? = some (Obj.cells cur t (0, 0))) (hl : o + n ≤ cur.size) : w.there g o n := fun j hj =>
  ⟨by simp [World.cell?, hg]; omega, by simp [World.frozen?, hg]⟩
theorem rangeAt_of {w : World} {g o : Nat} {cur : Array Value} {t : TypeId} {xs : List Value} (hg : w.heap[g]? = some (Obj.cells cur t (0, 0))) (h : ∀ j, j < xs.length → cur[o + j]? = xs[j]?) : w.rangeAt g o xs := fun j v hv => by
  have hj := (List.getElem?_eq_some_iff.1 hv).1
  simp [World.cell?, hg, h j hj, hv]

/-- A kind of elements: their type, how many cells, of what type the blocks are that a mark leads to; the cells of a mark. -/
structure Kd where
  e : Nat
  sz : Nat
  em : Nat
  cel : World → Int → List Value → Prop
structure Kd.Ok (K : Kd) : Prop where
  ne : K.e ≠ K.em
  pos : 0 < K.sz
  len : ∀ w M xs, K.cel w M xs → xs.length = K.sz
  one : ∀ w M xs, K.cel w M xs → ∀ u ∈ xs, u.oneCell' = true
  on : ∀ w w' M xs, (∀ (b : Nat) (cur : Array Value) (fz : Nat × Nat), w.heap[b]? = some (Obj.cells cur K.em fz) → w'.heap[b]? = some (Obj.cells cur K.em fz)) → K.cel w M xs → K.cel w' M xs
/-- The number of a mark. -/
def mk (k i : Nat) : Int := 1000003 * ((k : Int) + 7) + i
/-- The first d elements are marks of row k. -/
def Mkd (K : Kd) (w : World) (cur : Array Value) (d k : Nat) : Prop := ∀ i, i < d → ∃ xs, K.cel w (mk k i) xs ∧ ∀ j, j < xs.length → cur[i * K.sz + j]? = xs[j]?
theorem Mkd.on {K : Kd} (hK : K.Ok) {X : Nat → Prop} {w w' : World} {cur : Array Value} {d k : Nat} (h : Mkd K w cur d k) (ht : Tn K.em X w w') : Mkd K w' cur d k := fun i hi => by
  obtain ⟨xs, h1, h2⟩ := h i hi
  exact ⟨xs, hK.on _ _ _ _ ht.keep h1, h2⟩
theorem Mkd.less {K : Kd} {w : World} {cur : Array Value} {d d' k : Nat} (h : Mkd K w cur d k) (hd : d' ≤ d) : Mkd K w cur d' k := fun i hi => h i (by omega)
/-- The same cells at the head. -/
theorem Mkd.head {K : Kd} (hK : K.Ok) {w : World} {cur cur' : Array Value} {d k : Nat} (h : Mkd K w cur d k) (hc : ∀ p, p < d * K.sz → cur'[p]? = cur[p]?) : Mkd K w cur' d k := fun i hi => by
  obtain ⟨xs, h1, h2⟩ := h i hi
  refine ⟨xs, h1, fun j hj => ?_⟩
  have hl := hK.len _ _ _ h1
  have : (i + 1) * K.sz ≤ d * K.sz := Nat.mul_le_mul_right _ hi
  rw [hc _ (by rw [Nat.add_mul] at this; omega)]
  exact h2 j hj
/-- One more. -/
theorem Mkd.next {K : Kd} {w : World} {cur : Array Value} {d k : Nat} {xs : List Value} (h : Mkd K w cur d k) (hx : K.cel w (mk k d) xs) (hc : ∀ j, j < xs.length → cur[d * K.sz + j]? = xs[j]?) : Mkd K w cur (d + 1) k := fun i hi => by
  by_cases e : i = d
  · subst e; exact ⟨xs, hx, hc⟩
  · exact h i (by omega)

def vn : Value → Nat
  | .slice _ n _ => n
  | _ => 0
/-- A row that may be written (from block lo on), of which the first d elements are marks of row k. -/
def RowI (K : Kd) (lo : Nat) (w : World) (v : Value) (d k : Nat) : Prop :=
  (∃ p, v = .slice p 0 0 ∧ d = 0) ∨ ∃ g n cap cur, v = .slice (some ⟨g, 0, none⟩) n cap ∧ lo ≤ g ∧ w.heap[g]? = some (Obj.cells cur K.e (0, 0)) ∧ n ≤ cap ∧ 0 < cap ∧ cap ≤ maxLen ∧ cur.size = cap * K.sz ∧ d ≤ n ∧ Mkd K w cur d k
/-- The block of a row that has room. -/
def vb : Value → Option Nat
  | .slice (some a) _ (_ + 1) => some a.block
  | _ => none
theorem vb_of {g n cap : Nat} (h : 0 < cap) : vb (.slice (some ⟨g, 0, none⟩) n cap) = some g := by
  cases cap with
  | zero => omega
  | succ c => rfl
theorem RowI.lt {K : Kd} {lo : Nat} {w : World} {v : Value} {d k : Nat} (h : RowI K lo w v d k) {b : Nat} (hb : vb v = some b) : lo ≤ b ∧ b < w.heap.size := by
  rcases h with ⟨p, rfl, -⟩ | ⟨g, n, cap, cur, rfl, h1, h2, h3, h4, -⟩
  · cases p <;> cases hb
  · rw [vb_of h4] at hb; cases hb; exact ⟨h1, heap_lt h2⟩
theorem RowI.on {K : Kd} (hK : K.Ok) {X : Nat → Prop} {lo : Nat} {w w' : World} {v : Value} {d k : Nat} (h : RowI K lo w v d k) (ht : Tn K.em X w w') (hx : ∀ (b : Nat) (cur : Array Value), w.heap[b]? = some (Obj.cells cur K.e (0, 0)) → vb v = some b → ¬ X b) : RowI K lo w' v d k := by
  rcases h with h | ⟨g, n, cap, cur, rfl, h1, h2, h3, h4, h5, h6, h7, h8⟩
  · exact .inl h
  · exact .inr ⟨g, n, cap, cur, rfl, h1, by rw [ht.block g (heap_lt h2) (hx g cur h2 (vb_of h4))]; exact h2, h3, h4, h5, h6, h7, h8.on hK ht⟩
theorem RowI.start {K : Kd} {lo : Nat} {w : World} {v : Value} {d k k' : Nat} (h : RowI K lo w v d k) : RowI K lo w v 0 k' := by
  rcases h with ⟨p, rfl, -⟩ | ⟨g, n, cap, cur, rfl, h1, h2, h3, h4, h5, h6, h7, h8⟩
  · exact .inl ⟨p, rfl, rfl⟩
  · exact .inr ⟨g, n, cap, cur, rfl, h1, h2, h3, h4, h5, h6, Nat.zero_le _, fun i hi => by omega⟩
/-- An element is written. -/
theorem RowI.set {K : Kd} (hK : K.Ok) {lo : Nat} {w : World} {g n cap d k : Nat} {xs : List Value} (h : RowI K lo w (.slice (some ⟨g, 0, none⟩) n cap) d k) (hd : d < n) (hx : K.cel w (mk k d) xs) :
    w.there g (d * K.sz) K.sz ∧ RowI K lo (w.setCells g (d * K.sz) xs) (.slice (some ⟨g, 0, none⟩) n cap) (d + 1) k ∧ Tn K.em (fun b => b = g) w (w.setCells g (d * K.sz) xs) := by
  rcases h with ⟨p, e, -⟩ | ⟨g, n, cap, cur, e, h1, h2, h3, h4, h5, h6, h7, h8⟩
  · cases e; omega
  · cases e
    have hl := hK.len _ _ _ hx
    have hm : (d + 1) * K.sz ≤ cap * K.sz := Nat.mul_le_mul_right _ (by omega)
    rw [Nat.add_mul, Nat.one_mul] at hm
    have ht := setCells_tn (em := K.em) (o := d * K.sz) xs h2 hK.ne
    obtain ⟨cur', e1, e2, e3, e4⟩ := setCells_heap xs (d * K.sz) cur w h2 (by omega)
    refine ⟨there_of h2 (by omega), .inr ⟨g, n, cap, cur', rfl, h1, e1, h3, h4, h5, by rw [e2, h6], hd, ?_⟩, ht⟩
    exact ((h8.on hK ht).head hK (fun p hp => e3 p (.inl hp))).next (hK.on _ _ _ _ ht.keep hx) e4
/-- An element is read. -/
theorem RowI.get {K : Kd} {lo : Nat} {w : World} {g n cap d k i : Nat} (h : RowI K lo w (.slice (some ⟨g, 0, none⟩) n cap) d k) (hi : i < d) : ∃ xs, K.cel w (mk k i) xs ∧ w.rangeAt g (i * K.sz) xs := by
  rcases h with ⟨p, -, rfl⟩ | ⟨g, n, cap, cur, e, h1, h2, h3, h4, h5, h6, h7, h8⟩
  · omega
  · cases e
    obtain ⟨xs, e1, e2⟩ := h8 i hi
    exact ⟨xs, e1, rangeAt_of h2 e2⟩

/-- All rows of a list; how far each is marked. -/
def RowsG (K : Kd) (lo : Nat) (w : World) (vs : List Value) (d : Nat → Nat) : Prop := ∀ k v, vs[k]? = some v → RowI K lo w v (d k) k
/-- They lie apart. -/
def Dist (vs : List Value) : Prop := ∀ (k k' : Nat) (v v' : Value) (b : Nat), vs[k]? = some v → vs[k']? = some v' → vb v = some b → vb v' = some b → k = k'
/-- Their blocks. -/
def InV (vs : List Value) (b : Nat) : Prop := ∃ v ∈ vs, vb v = some b
theorem RowsG.set {K : Kd} (hK : K.Ok) {lo : Nat} {w : World} {vs : List Value} (hD : Dist vs) {d : Nat → Nat} (h : RowsG K lo w vs d) {k g n cap : Nat} {xs : List Value} (hv : vs[k]? = some (.slice (some ⟨g, 0, none⟩) n cap)) (hd : d k < n) (hx : K.cel w (mk k (d k)) xs) :
    w.there g (d k * K.sz) K.sz ∧ RowsG K lo (w.setCells g (d k * K.sz) xs) vs (fun j => if j = k then d k + 1 else d j) ∧ Tn K.em (InV vs) w (w.setCells g (d k * K.sz) xs) := by
  have hr := h k _ hv
  have hcap : 0 < cap := by
    rcases hr with ⟨p, e, -⟩ | ⟨_, _, _, _, e, _, _, _, h4, -⟩
    · cases e; omega
    · cases e; exact h4
  obtain ⟨h1, h2, h3⟩ := hr.set hK hd hx
  refine ⟨h1, fun j v hj => ?_, h3.mono fun b _ e => ⟨_, List.mem_of_getElem? hv, by rw [e]; exact vb_of hcap⟩⟩
  by_cases e : j = k
  · subst e
    rw [hv] at hj; cases hj
    show RowI _ _ _ _ (if j = j then _ else _) _
    rw [if_pos rfl]; exact h2
  · show RowI _ _ _ _ (if j = k then _ else _) _
    rw [if_neg e]
    exact (h j v hj).on hK h3 fun b _ _ hb e2 => e (hD j k v _ b hj hv hb (by rw [e2]; exact vb_of hcap))
theorem RowsG.on {K : Kd} (hK : K.Ok) {X : Nat → Prop} {lo : Nat} {w w' : World} {vs : List Value} {d : Nat → Nat} (h : RowsG K lo w vs d) (ht : Tn K.em X w w') (hx : ∀ (b : Nat) (cur : Array Value), w.heap[b]? = some (Obj.cells cur K.e (0, 0)) → InV vs b → ¬ X b) : RowsG K lo w' vs d := fun k v hv =>
  (h k v hv).on hK ht fun b cur hc hb => hx b cur hc ⟨v, List.mem_of_getElem? hv, hb⟩
end Go.Proofs.YtkcmapimcgppmaaGreatDoor
end
section
namespace Go.Proofs.YtkcmapimcgppmaaGreatDoor
open Go.RowKit

variable {P : Program}

/-- What is known of a type of slices: its elements are the kind's. -/
structure Sty (P : Program) (K : Kd) (t : Nat) : Prop where
  t : P.underlying t = some (.slice K.e)
  i : ∃ (i : TypeInfo) (z : Value), P.info? K.e = some i ∧ i.zero = some z ∧ i.size = K.sz ∧ z.cells.size = K.sz ∧ i.bytes ≤ 1000
/-- A row in memory that may be appended to. -/
def RowA (K : Kd) (w : World) (v : Value) : Prop :=
  (∃ p, v = .slice p 0 0) ∨ ∃ g n cap cur, v = .slice (some ⟨g, 0, none⟩) n cap ∧ w.heap[g]? = some (Obj.cells cur K.e (0, 0)) ∧ n ≤ cap ∧ 0 < cap ∧ cap ≤ maxLen ∧ cur.size = cap * K.sz
theorem app_any {K : Kd} {t : Nat} (hS : Sty P K t) (ty : TypeId) (w : World) {v : Value} (hv : RowA K w v) {a : Addr} {m c : Nat} {news : List Value} (hl : news.length = m * K.sz) (hm : 0 < m) (hnews : ∀ j u, news[j]? = some u → w.cell? (a.add j) = some u)
    (h1 : ∀ u ∈ news, u.oneCell' = true) (h63 : vn v + m ≤ 1000000000) :
    ∃ h cap' cur' w', (Builtin.append_ #[t, t] ty #[v, .slice (some a) m c]).run P w = .ok (.slice (some ⟨h, 0, none⟩) (vn v + m) cap') w' ∧ w'.heap[h]? = some (Obj.cells cur' K.e (0, 0)) ∧ vn v + m ≤ cap' ∧ cap' ≤ maxLen ∧ cur'.size = cap' * K.sz ∧
      (∀ j, j < news.length → cur'[vn v * K.sz + j]? = news[j]?) ∧ (∀ g n cap cur, v = .slice (some ⟨g, 0, none⟩) n cap → w.heap[g]? = some (Obj.cells cur K.e (0, 0)) → ∀ p, p < vn v * K.sz → cur'[p]? = cur[p]?) ∧
      ((vb v = some h ∧ w' = w.setCells h (vn v * K.sz) news) ∨ (h = w.heap.size ∧ Below w.heap.size w w')) := by
  obtain ⟨ht, i, z, hi, hz, hsz, hzs, hby⟩ := hS
  have hmm : vn v + m ≤ maxLen := by unfold maxLen; omega
  have hmb : (vn v + m) * i.bytes ≤ 1000000000 * 1000 := Nat.mul_le_mul h63 hby
  have hmb1 : m * i.bytes ≤ 1000000000 * 1000 := Nat.mul_le_mul (by omega) hby
  have hbel : ∀ o, Below w.heap.size w (w.drew.alloc o) := fun o => below_step (below_drew w) (below_alloc w.drew o)
  rcases hv with ⟨p, rfl⟩ | ⟨g, n, cap, cur, rfl, hg, hnc, hc0, hcm, hcs⟩
  · cases p with
    | none =>
      have hr := run_append_nil (P := P) w t ty K.e i z ht hi hz a m c news (by rw [hl, hsz]) hnews hm (by omega) (by omega)
      simp only [vn, Nat.zero_add] at hmm hmb ⊢
      refine ⟨_, _, _, _, hr, heap_alloc_new w.drew _, grownCap_ge w m 0 K.e, grownCap_le_maxLen w m 0 K.e hmm, ?_, fun j hj => ?_, (fun _ _ _ _ e => by cases e), .inr ⟨rfl, hbel _⟩⟩
      · have := grownCap_ge w m 0 K.e
        simp only [Array.size_append, List.size_toArray, size_zeroCells, hzs, hl, ← Nat.add_mul]
        congr 1; omega
      · rw [Nat.zero_mul, Nat.zero_add, Array.getElem?_append_left (by simpa using hj)]; simp
    | some b =>
      have hr := run_append_grow (P := P) w t ty K.e i z ht hi hz b 0 0 [] (by simp) (fun j v h => by simp at h) a m c news (by rw [hl, hsz]) hnews (by omega) (by omega)
        (by rw [Nat.zero_add, nextslicecap_zero hm]; omega)
      simp only [vn, Nat.zero_add] at hmm hmb hr ⊢
      refine ⟨_, _, _, _, hr, heap_alloc_new w.drew _, grownCap_ge w m 0 K.e, grownCap_le_maxLen w m 0 K.e hmm, ?_, fun j hj => ?_, (fun _ _ _ _ _ _ p hp => by omega), .inr ⟨rfl, hbel _⟩⟩
      · have := grownCap_ge w m 0 K.e
        simp only [Array.size_append, List.size_toArray, size_zeroCells, hzs, hl, List.length_nil, Nat.zero_add, ← Nat.add_mul]
        congr 1; omega
      · rw [Nat.zero_mul, Nat.zero_add]
        simp only [Array.append_assoc]
        rw [Array.getElem?_append_right (by simp)]
        rw [Array.getElem?_append_left (by simpa using hj)]; simp
  · have hn : vn (.slice (some ⟨g, 0, none⟩) n cap) = n := rfl
    rw [hn] at hmm hmb h63 ⊢
    by_cases hroom : n + m ≤ cap
    · have hle : n * K.sz + news.length ≤ cur.size := by rw [hl, hcs, ← Nat.add_mul]; exact Nat.mul_le_mul_right _ hroom
      have hth := there_of (w := w) hg hle
      have hr := run_append_room_cells (P := P) w t ty K.e i ht hi g 0 n cap a m c news (by rw [hl, hsz]) hnews h1 hroom (fun j hj => by rw [Nat.zero_add, hsz]; exact (hth j hj).1) (fun j hj => by rw [Nat.zero_add, hsz]; exact (hth j hj).2)
      rw [Nat.zero_add, hsz] at hr
      obtain ⟨cur', e1, e2, e3, e4⟩ := setCells_heap news (n * K.sz) cur w hg hle
      refine ⟨g, cap, cur', _, hr, e1, hroom, hcm, by rw [e2, hcs], e4, fun g' n' cap' cur0 e h0 p hp => ?_, .inl ⟨vb_of hc0, rfl⟩⟩
      cases e
      rw [hg] at h0; cases h0
      exact e3 p (.inl hp)
    · have hol : n * K.sz ≤ cur.size := by rw [hcs]; exact Nat.mul_le_mul_right _ hnc
      have hfit : Builtin.nextslicecap (n + m) cap * i.bytes ≤ 281474976710656 := growslice_fits (by omega) (by omega)
      have hr := run_append_grow (P := P) w t ty K.e i z ht hi hz ⟨g, 0, none⟩ n cap (cur.toList.take (n * K.sz)) (by rw [List.length_take, Array.length_toList, hsz]; omega) (fun j v h => by
          have hj : j < n * K.sz := by have := (List.getElem?_eq_some_iff.1 h).1; rw [List.length_take] at this; omega
          rw [List.getElem?_take, if_pos hj] at h
          rw [Addr.add_mid]
          simpa [World.cell?, hg] using h) a m c news (by rw [hl, hsz]) hnews (by omega) (by omega) hfit
      have hge := grownCap_ge w (n + m) cap K.e
      refine ⟨_, _, _, _, hr, heap_alloc_new w.drew _, hge, grownCap_le_maxLen w (n + m) cap K.e hmm, ?_, fun j hj => ?_, fun g' n' cap' cur0 e h0 p hp => ?_, .inr ⟨rfl, hbel _⟩⟩
      · simp only [Array.size_append, List.size_toArray, size_zeroCells, hzs, hl, List.length_take, Array.length_toList, Nat.min_eq_left hol, ← Nat.add_mul]
        congr 1; omega
      · rw [Array.append_assoc, Array.getElem?_append_right (by simp; omega)]
        rw [Array.getElem?_append_left (by simp; omega)]
        simp [Nat.min_eq_left hol]
      · cases e
        rw [hg] at h0; cases h0
        rw [Array.append_assoc, Array.getElem?_append_left (by simp; omega)]
        simp [hp]
end Go.Proofs.YtkcmapimcgppmaaGreatDoor
end
section
namespace Go.Proofs.YtkcmapimcgppmaaGreatDoor
open Go.RowKit

variable {P : Program}
theorem RowI.rowA {K : Kd} {lo : Nat} {w : World} {v : Value} {d k : Nat} (h : RowI K lo w v d k) : RowA K w v := by
  rcases h with ⟨p, rfl, -⟩ | ⟨g, n, cap, cur, rfl, h1, h2, h3, h4, h5, h6, h7, h8⟩
  · exact .inl ⟨p, rfl⟩
  · exact .inr ⟨g, n, cap, cur, rfl, h2, h3, h4, h5, h6⟩
/-- A row as it has grown by t, from one that was handed out; s: where memory ended when it began to grow. -/
def Cur (K : Kd) (s : Nat) (w : World) (v gv : Value) (t k : Nat) : Prop :=
  (t = 0 ∧ gv = v) ∨ ∃ h cap cur, gv = .slice (some ⟨h, 0, none⟩) (vn v + t) cap ∧ w.heap[h]? = some (Obj.cells cur K.e (0, 0)) ∧ vn v + t ≤ cap ∧ 0 < cap ∧ cap ≤ maxLen ∧ cur.size = cap * K.sz ∧ (vb v = some h ∨ s ≤ h) ∧ Mkd K w cur (vn v + t) k
theorem Cur.on {K : Kd} (hK : K.Ok) {X : Nat → Prop} {s : Nat} {w w' : World} {v gv : Value} {t k : Nat} (h : Cur K s w v gv t k) (ht : Tn K.em X w w') (hx : ∀ (b : Nat) (cur : Array Value), w.heap[b]? = some (Obj.cells cur K.e (0, 0)) → (vb v = some b ∨ s ≤ b) → ¬ X b) : Cur K s w' v gv t k := by
  rcases h with h | ⟨h, cap, cur, h1, h2, h3, h4, h5, h6, h7, h8⟩
  · exact .inl h
  · exact .inr ⟨h, cap, cur, h1, by rw [ht.block h (heap_lt h2) (hx h cur h2 h7)]; exact h2, h3, h4, h5, h6, h7, h8.on hK ht⟩
theorem Cur.len {K : Kd} {s : Nat} {w : World} {v gv : Value} {lo d t k k' : Nat} (hr : RowI K lo w v d k') (h : Cur K s w v gv t k) : ∃ p c, gv = .slice p (vn v + t) c := by
  rcases h with ⟨rfl, rfl⟩ | ⟨h, cap, cur, h1, -⟩
  · rcases hr with ⟨p, rfl, -⟩ | ⟨g, n, cap, cur, rfl, -⟩
    · exact ⟨p, 0, rfl⟩
    · exact ⟨_, cap, rfl⟩
  · exact ⟨_, _, h1⟩
theorem RowI.tnx {K : Kd} (hK : K.Ok) {lo : Nat} {w w' : World} {v : Value} {d k h o : Nat} {xs : List Value} {cur0 : Array Value} (hr : RowI K lo w v d k) (hvb : ∀ b, vb v = some b → b = h → d * K.sz ≤ o) (hh : w.heap[h]? = some (Obj.cells cur0 K.e (0, 0))) (hw : w' = w.setCells h o xs) (hfit : o + xs.length ≤ cur0.size) : RowI K lo w' v d k := by
  subst hw
  have ht := setCells_tn (em := K.em) (o := o) xs hh hK.ne
  rcases hr with hr | ⟨g, n, cap, cur, rfl, h1, h2, h3, h4, h5, h6, h7, h8⟩
  · exact .inl hr
  · by_cases e : g = h
    · subst e
      have e9 : cur = cur0 := by rw [h2] at hh; injection hh with hh; injection hh
      subst e9
      obtain ⟨cur', e1, e2, e3, e4⟩ := setCells_heap xs o cur w h2 hfit
      have := hvb g (vb_of h4) rfl
      exact .inr ⟨g, n, cap, cur', rfl, h1, e1, h3, h4, h5, by rw [e2, h6], h7, (h8.on hK ht).head hK fun p hp => e3 p (.inl (by omega))⟩
    · exact .inr ⟨g, n, cap, cur, rfl, h1, by rw [setCells_other e]; exact h2, h3, h4, h5, h6, h7, h8.on hK ht⟩
/-- It grows by one. -/
theorem Cur.grow {K : Kd} (hK : K.Ok) {ts : Nat} (hS : Sty P K ts) (ty : TypeId) {lo s : Nat} {w : World} {v gv : Value} {t k : Nat} (hr : RowI K lo w v (vn v) k) (hs : ∀ b, vb v = some b → b < s) (hsw : s ≤ w.heap.size) (h : Cur K s w v gv t k)
    {a : Addr} {c : Nat} {xs : List Value} (hx : K.cel w (mk k (vn v + t)) xs) (hxs : ∀ j u, xs[j]? = some u → w.cell? (a.add j) = some u) (h63 : vn v + t + 1 ≤ 1000000000) :
    ∃ gv' w', (Builtin.append_ #[ts, ts] ty #[gv, .slice (some a) 1 c]).run P w = .ok gv' w' ∧ RowI K lo w' v (vn v) k ∧ Cur K s w' v gv' (t + 1) k ∧ Tn K.em (fun b => vb v = some b ∨ s ≤ b) w w' := by
  have hl : xs.length = 1 * K.sz := by rw [Nat.one_mul]; exact hK.len _ _ _ hx
  have hA : RowA K w gv := by
    rcases h with ⟨-, rfl⟩ | ⟨h, cap, cur, h1, h2, h3, h4, h5, h6, h7, h8⟩
    · exact hr.rowA
    · exact .inr ⟨h, _, cap, cur, h1, h2, h3, h4, h5, h6⟩
  have hn : vn gv = vn v + t := by
    obtain ⟨p, c, e⟩ := h.len hr
    rw [e]; rfl
  obtain ⟨h', cap', cur', w', e1, e2, e3, e4, e5, e6, e7, e8⟩ := app_any hS ty w hA hl (by omega) hxs (hK.one _ _ _ hx) (by omega)
  rw [hn] at e1 e3 e6 e7 e8
  -- what was marked is so
  have hmk : Mkd K w cur' (vn v + t) k := by
    rcases h with ⟨rfl, rfl⟩ | ⟨h, cap, cur, h1, h2, h3, h4, h5, h6, h7, h8⟩
    · rcases hr with ⟨p, rfl, -⟩ | ⟨g, n, cap, cur, rfl, h1, h2, h3, h4, h5, h6, h7, h8⟩
      · intro i hi; simp [vn] at hi
      · exact h8.head hK fun p hp => e7 g n cap cur rfl h2 p hp
    · exact h8.head hK fun p hp => e7 h _ cap cur h1 h2 p hp
  have fin : ∀ X, Tn K.em X w w' → (vb v = some h' ∨ s ≤ h') → Cur K s w' v (.slice (some ⟨h', 0, none⟩) (vn v + t + 1) cap') (t + 1) k := fun X ht hb =>
    .inr ⟨h', cap', cur', rfl, e2, e3, by omega, e4, e5, hb, (hmk.on hK ht).next (hK.on _ _ _ _ ht.keep hx) e6⟩
  rcases e8 with ⟨e8, rfl⟩ | ⟨rfl, e8⟩
  · have hb : vb v = some h' ∨ s ≤ h' := by
      rcases h with ⟨-, rfl⟩ | ⟨h, cap, cur, rfl, h2, h3, h4, h5, h6, h7, h8⟩
      · exact .inl e8
      · rw [vb_of h4] at e8; cases e8; exact h7
    have hh : ∃ cur0, w.heap[h']? = some (Obj.cells cur0 K.e (0, 0)) ∧ (vn v + t) * K.sz + xs.length ≤ cur0.size := by
      obtain ⟨cur0, c1, c2⟩ : ∃ cur0, w.heap[h']? = some (Obj.cells cur0 K.e (0, 0)) ∧ True := by
        rcases hA with ⟨p, rfl⟩ | ⟨g, n, cap, cur, rfl, g1, g2, g3, g4, g5⟩
        · cases p <;> cases e8
        · rw [vb_of g3] at e8; cases e8; exact ⟨cur, g1, trivial⟩
      refine ⟨cur0, c1, ?_⟩
      apply Classical.byContradiction
      intro hc
      -- the store reached beyond the block
      have := e5
      have hsz : (w.setCells h' ((vn v + t) * K.sz) xs).heap[h']? = some (Obj.cells cur' K.e (0, 0)) := e2
      have key : ∀ (vs : List Value) (o : Nat) (c0 : Array Value) (w : World), w.heap[h']? = some (Obj.cells c0 K.e (0, 0)) → ∃ c1, (w.setCells h' o vs).heap[h']? = some (Obj.cells c1 K.e (0, 0)) ∧ c1.size = c0.size := by
        intro vs
        induction vs with
        | nil => intro o c0 w h; exact ⟨c0, h, rfl⟩
        | cons u vs ih =>
          intro o c0 w h
          obtain ⟨c1, i1, i2⟩ := ih (o + 1) _ (w.setCell ⟨h', o, none⟩ u) (by rw [setCell_eq_setRow w h' o c0 K.e (0, 0) u h]; exact setRow_heap w h' c0 _ K.e _ h)
          exact ⟨c1, i1, by rw [i2, Array.size_setIfInBounds]⟩
      obtain ⟨c1', k1, k2⟩ := key xs ((vn v + t) * K.sz) cur0 w c1
      rw [hsz] at k1; cases k1
      have hm : (vn v + t + 1) * K.sz ≤ cap' * K.sz := Nat.mul_le_mul_right _ e3
      rw [Nat.add_mul, Nat.one_mul] at hm
      rw [Nat.one_mul] at hl
      omega
    obtain ⟨cur0, c1, c2⟩ := hh
    have ht := setCells_tn (em := K.em) (o := (vn v + t) * K.sz) xs c1 hK.ne
    refine ⟨_, _, e1, hr.tnx hK (fun b hb' e => ?_) c1 rfl c2, fin _ ht hb, ht.mono fun b _ e => by rw [e]; exact hb⟩
    exact Nat.mul_le_mul_right _ (by omega)
  · have ht : Tn K.em (fun _ => False) w w' := Tn.of_below e8
    exact ⟨_, _, e1, hr.on hK ht (fun _ _ _ _ => id), fin _ ht (.inr hsw), ht.mono fun _ _ => False.elim⟩

/-- What a row has grown to: of n elements, the first d marks of row k. -/
def Ent (K : Kd) (s : Nat) (w : World) (v u : Value) (n d k : Nat) : Prop :=
  ∃ h cap cur, u = .slice (some ⟨h, 0, none⟩) n cap ∧ w.heap[h]? = some (Obj.cells cur K.e (0, 0)) ∧ d ≤ n ∧ n ≤ cap ∧ cap ≤ maxLen ∧ (vb v = some h ∨ s ≤ h) ∧ Mkd K w cur d k
theorem Ent.on {K : Kd} (hK : K.Ok) {X : Nat → Prop} {s : Nat} {w w' : World} {v u : Value} {n d k : Nat} (h : Ent K s w v u n d k) (ht : Tn K.em X w w') (hx : ∀ (b : Nat) (cur : Array Value), w.heap[b]? = some (Obj.cells cur K.e (0, 0)) → (vb v = some b ∨ s ≤ b) → ¬ X b) : Ent K s w' v u n d k := by
  obtain ⟨h, cap, cur, h1, h2, h3, h4, h5, h6, h7⟩ := h
  exact ⟨h, cap, cur, h1, by rw [ht.block h (heap_lt h2) (hx h cur h2 h6)]; exact h2, h3, h4, h5, h6, h7.on hK ht⟩
theorem Ent.get {K : Kd} {s : Nat} {w : World} {v u : Value} {n d k i : Nat} (h : Ent K s w v u n d k) (hi : i < d) : ∃ h cap xs, u = .slice (some ⟨h, 0, none⟩) n cap ∧ K.cel w (mk k i) xs ∧ w.rangeAt h (i * K.sz) xs := by
  obtain ⟨h, cap, cur, h1, h2, h3, h4, h5, h6, h7⟩ := h
  obtain ⟨xs, e1, e2⟩ := h7 i hi
  exact ⟨h, cap, xs, h1, e1, rangeAt_of h2 e2⟩
theorem Ent.less {K : Kd} {s s' : Nat} {w : World} {v u : Value} {n d d' k : Nat} (h : Ent K s w v u n d k) (hd : d' ≤ d) (hs : s' ≤ s) : Ent K s' w v u n d' k := by
  obtain ⟨h, cap, cur, h1, h2, h3, h4, h5, h6, h7⟩ := h
  exact ⟨h, cap, cur, h1, h2, by omega, h4, h5, h6.imp id (by omega), h7.less hd⟩
theorem Cur.ent {K : Kd} {s : Nat} {w : World} {v gv : Value} {t k : Nat} (h : Cur K s w v gv t k) (ht : 0 < t) : Ent K s w v gv (vn v + t) (vn v + t) k := by
  rcases h with ⟨rfl, -⟩ | ⟨h, cap, cur, h1, h2, h3, h4, h5, h6, h7, h8⟩
  · omega
  · exact ⟨h, cap, cur, h1, h2, Nat.le_refl _, h3, h5, h7, h8⟩
/-- It grows by many. -/
theorem RowI.many {K : Kd} (hK : K.Ok) {ts : Nat} (hS : Sty P K ts) (ty : TypeId) {lo : Nat} {w : World} {v : Value} {k : Nat} (hr : RowI K lo w v (vn v) k) {a : Addr} {c m : Nat} {news : List Value} (hl : news.length = m * K.sz) (hm : 0 < m) (hnews : ∀ j u, news[j]? = some u → w.cell? (a.add j) = some u)
    (h1 : ∀ u ∈ news, u.oneCell' = true) (h63 : vn v + m ≤ 1000000000) :
    ∃ gv' w', (Builtin.append_ #[ts, ts] ty #[v, .slice (some a) m c]).run P w = .ok gv' w' ∧ RowI K lo w' v (vn v) k ∧ Ent K w.heap.size w' v gv' (vn v + m) (vn v) k ∧ Tn K.em (fun b => vb v = some b) w w' := by
  obtain ⟨h', cap', cur', w', e1, e2, e3, e4, e5, e6, e7, e8⟩ := app_any hS ty w hr.rowA hl hm hnews h1 h63
  have hmk : Mkd K w cur' (vn v) k := by
    rcases hr with ⟨p, rfl, -⟩ | ⟨g, n, cap, cur, rfl, h1, h2, h3, h4, h5, h6, h7, h8⟩
    · intro i hi; simp [vn] at hi
    · exact h8.head hK fun p hp => e7 g n cap cur rfl h2 p hp
  rcases e8 with ⟨e8, rfl⟩ | ⟨rfl, e8⟩
  · have hh : ∃ cur0, w.heap[h']? = some (Obj.cells cur0 K.e (0, 0)) := by
      rcases hr with ⟨p, rfl, -⟩ | ⟨g, n, cap, cur, rfl, h1, h2, h3, h4, -⟩
      · cases p <;> cases e8
      · rw [vb_of h4] at e8; cases e8; exact ⟨cur, h2⟩
    obtain ⟨cur0, c1⟩ := hh
    have ht := setCells_tn (em := K.em) (o := vn v * K.sz) news c1 hK.ne
    refine ⟨_, _, e1, ?_, ⟨h', cap', cur', rfl, e2, by omega, e3, e4, .inl e8, hmk.on hK ht⟩, ht.mono fun b _ e => by rw [e]; exact e8⟩
    rcases hr with hr | ⟨g, n, cap, cur, rfl, h1, h2, h3, h4, h5, h6, h7, h8⟩
    · exact .inl hr
    · have e9 : g = h' := by rw [vb_of h4] at e8; injection e8
      subst e9
      have e10 : cur = cur0 := by rw [h2] at c1; injection c1 with c1; injection c1
      subst e10
      have hsz : cur'.size = cur.size := by
        have key : ∀ (vs : List Value) (o : Nat) (c0 : Array Value) (w : World), w.heap[g]? = some (Obj.cells c0 K.e (0, 0)) → ∃ c1, (w.setCells g o vs).heap[g]? = some (Obj.cells c1 K.e (0, 0)) ∧ c1.size = c0.size := by
          intro vs
          induction vs with
          | nil => intro o c0 w h; exact ⟨c0, h, rfl⟩
          | cons u vs ih =>
            intro o c0 w h
            obtain ⟨c1, i1, i2⟩ := ih (o + 1) _ (w.setCell ⟨g, o, none⟩ u) (by rw [setCell_eq_setRow w g o c0 K.e (0, 0) u h]; exact setRow_heap w g c0 _ K.e _ h)
            exact ⟨c1, i1, by rw [i2, Array.size_setIfInBounds]⟩
        obtain ⟨c1', k1, k2⟩ := key news (vn (.slice (some ⟨g, 0, none⟩) n cap) * K.sz) cur w h2
        rw [e2] at k1; cases k1
        exact k2
      exact .inr ⟨g, n, cap, cur', rfl, h1, e2, h3, h4, h5, by rw [hsz, h6], h7, hmk.on hK ht⟩
  · have ht : Tn K.em (fun _ => False) w w' := Tn.of_below e8
    exact ⟨_, _, e1, hr.on hK ht (fun _ _ _ _ => id), ⟨w.heap.size, cap', cur', rfl, e2, by omega, e3, e4, .inr (Nat.le_refl _), hmk.on hK ht⟩, ht.mono fun _ _ => False.elim⟩

/-- The list of what the rows have grown to, in a block of its own: of x more, the first are marks, d more than were. -/
def Gsl (K : Kd) (eS G s : Nat) (w : World) (vs : List Value) (d x j : Nat) : Prop :=
  ∃ arr, w.heap[G]? = some (Obj.cells arr eS (0, 0)) ∧ arr.size = vs.length ∧ ∀ k v, k < j → vs[k]? = some v → ∃ u, arr[k]? = some u ∧ Ent K s w v u (vn v + x) (vn v + d) k
theorem Gsl.on {K : Kd} (hK : K.Ok) {eS G s : Nat} {X : Nat → Prop} {w w' : World} {vs : List Value} {d x j : Nat} (h : Gsl K eS G s w vs d x j) (ht : Tn K.em X w w') (hG : ∀ cur, w.heap[G]? = some (Obj.cells cur eS (0, 0)) → ¬ X G)
    (hx : ∀ (b : Nat) (cur : Array Value), w.heap[b]? = some (Obj.cells cur K.e (0, 0)) → ((∃ k v, k < j ∧ vs[k]? = some v ∧ vb v = some b) ∨ s ≤ b) → ¬ X b) : Gsl K eS G s w' vs d x j := by
  obtain ⟨arr, h1, h2, h3⟩ := h
  refine ⟨arr, by rw [ht.block G (heap_lt h1) (hG arr h1)]; exact h1, h2, fun k v hk hv => ?_⟩
  obtain ⟨u, h4, h5⟩ := h3 k v hk hv
  exact ⟨u, h4, h5.on hK ht fun b cur hc hb => hx b cur hc (hb.imp (fun e => ⟨k, v, hk, hv, e⟩) id)⟩
/-- An entry is put. -/
theorem Gsl.put {K : Kd} (hK : K.Ok) {eS G s : Nat} (heS : eS ≠ K.em) (heE : eS ≠ K.e) {w : World} {vs : List Value} {d x j : Nat} (h : Gsl K eS G s w vs d x j) {v u : Value} (hv : vs[j]? = some v) (hu : Ent K s w v u (vn v + x) (vn v + d) j) :
    w.there G j 1 ∧ Gsl K eS G s (w.setCell ⟨G, j, none⟩ u) vs d x (j + 1) ∧ Tn K.em (fun b => b = G) w (w.setCell ⟨G, j, none⟩ u) := by
  obtain ⟨arr, h1, h2, h3⟩ := h
  have hj : j < vs.length := (List.getElem?_eq_some_iff.1 hv).1
  have ht := setCells_tn (em := K.em) (o := j) [u] h1 heS
  have hne : ∀ (b : Nat) (cur : Array Value), w.heap[b]? = some (Obj.cells cur K.e (0, 0)) → ¬ b = G := fun b cur hc e => by
    subst e; rw [h1] at hc; cases hc; exact heE rfl
  have hh : (w.setCell ⟨G, j, none⟩ u).heap[G]? = some (Obj.cells (arr.setIfInBounds j u) eS (0, 0)) := by
    rw [setCell_eq_setRow w G j arr eS (0, 0) u h1]; exact setRow_heap w G arr _ eS _ h1
  refine ⟨there_of h1 (by omega), ⟨_, hh, by rw [Array.size_setIfInBounds, h2], fun k v' hk hv' => ?_⟩, ht⟩
  by_cases e : k = j
  · subst e
    rw [hv] at hv'; cases hv'
    refine ⟨u, by rw [Array.getElem?_setIfInBounds, if_pos rfl, if_pos (by omega)], hu.on hK ht fun b cur hc _ => hne b cur hc⟩
  · obtain ⟨u', h4, h5⟩ := h3 k v' (by omega) hv'
    exact ⟨u', by rw [Array.getElem?_setIfInBounds, if_neg (by omega)]; exact h4, h5.on hK ht fun b cur hc _ => hne b cur hc⟩
theorem Gsl.get {K : Kd} {eS G s : Nat} {w : World} {vs : List Value} {d x j k : Nat} (h : Gsl K eS G s w vs d x j) (hk : k < j) {v : Value} (hv : vs[k]? = some v) : ∃ u, w.cell? ⟨G, k, none⟩ = some u ∧ w.frozen? ⟨G, k, none⟩ = false ∧ Ent K s w v u (vn v + x) (vn v + d) k := by
  obtain ⟨arr, h1, h2, h3⟩ := h
  obtain ⟨u, h4, h5⟩ := h3 k v hk hv
  exact ⟨u, by simp [World.cell?, h1, h4], by simp [World.frozen?, h1], h5⟩
end Go.Proofs.YtkcmapimcgppmaaGreatDoor
end
section
namespace Go.Proofs.YtkcmapimcgppmaaGreatDoor
open Go.RowKit

/-- The program's mark of a kind; its likeness. -/
def MarkOk (P : Program) (K : Kd) (f : Nat) : Prop := ∀ (k i : Nat) (w : World), k ≤ 100000000 → i ≤ 100000000 → Calls P f #[.int .i64 k, .int .i64 i] w fun e w' => ∃ xs, e = .returned (.agg xs.toArray) ∧ K.cel w' (mk k i) xs ∧ Below w.heap.size w w'
def SameOk (P : Program) (K : Kd) (f : Nat) : Prop := ∀ (M : Int) (w : World) (xs ys : List Value), K.cel w M xs → K.cel w M ys → Calls P f #[.agg xs.toArray, .agg ys.toArray] w fun e w' => e = .returned (.bool true) ∧ Below w.heap.size w w'
theorem Kd.Ok.below {K : Kd} (hK : K.Ok) {w w' : World} {M : Int} {xs : List Value} (h : K.cel w M xs) (hb : Below w.heap.size w w') : K.cel w' M xs := hK.on _ _ _ _ (Tn.of_below (X := fun _ => False) hb).keep h
theorem RowI.isSlice {K : Kd} {lo : Nat} {w : World} {v : Value} {d k : Nat} (h : RowI K lo w v d k) : ∃ p n c, v = .slice p n c ∧ n ≤ c ∧ c ≤ maxLen := by
  rcases h with ⟨p, rfl, -⟩ | ⟨g, n, cap, cur, rfl, h1, h2, h3, h4, h5, -⟩
  · exact ⟨p, 0, 0, rfl, Nat.le_refl _, Nat.zero_le _⟩
  · exact ⟨_, n, cap, rfl, h3, h5⟩
theorem RowI.lies {K : Kd} {lo : Nat} {w : World} {p : Option Addr} {n c d k : Nat} (h : RowI K lo w (.slice p n c) d k) (h0 : 0 < n) : ∃ g, p = some ⟨g, 0, none⟩ ∧ 0 < c := by
  rcases h with ⟨p, e, -⟩ | ⟨g, n, cap, cur, e, h1, h2, h3, h4, -⟩
  · cases e; omega
  · cases e; exact ⟨g, rfl, h4⟩
theorem RowsG.typed {K : Kd} {lo : Nat} {w : World} {vs : List Value} {d : Nat → Nat} (h : RowsG K lo w vs d) {b : Nat} (hb : InV vs b) : lo ≤ b ∧ ∃ cur, w.heap[b]? = some (Obj.cells cur K.e (0, 0)) := by
  obtain ⟨v, hv, e⟩ := hb
  obtain ⟨k, hk⟩ := List.getElem?_of_mem hv
  rcases h k v hk with ⟨p, rfl, -⟩ | ⟨g, n, cap, cur, rfl, h1, h2, h3, h4, -⟩
  · cases p <;> cases e
  · rw [vb_of h4] at e; cases e
    exact ⟨h1, cur, h2⟩
theorem RowsG.cong {K : Kd} {lo : Nat} {w : World} {vs : List Value} {d d' : Nat → Nat} (h : RowsG K lo w vs d) (he : ∀ k v, vs[k]? = some v → d k = d' k) : RowsG K lo w vs d' := fun k v hv => by rw [← he k v hv]; exact h k v hv
theorem RowsG.below {K : Kd} (hK : K.Ok) {lo : Nat} {w w' : World} {vs : List Value} {d : Nat → Nat} (h : RowsG K lo w vs d) (hb : Below w.heap.size w w') : RowsG K lo w' vs d := h.on hK (Tn.of_below (X := fun _ => False) hb) fun _ _ _ _ => id
/-- The rows ahead of k are marked, of row k the first i. -/
def dF (vs : List Value) (k i : Nat) : Nat → Nat := fun j => if j < k then vn (vs.getD j undef) else if j = k then i else 0
theorem dF_self (vs : List Value) (k i : Nat) : dF vs k i k = i := by simp [dF]
theorem RowsG.dNext {K : Kd} {lo : Nat} {w : World} {vs : List Value} {k i : Nat} (h : RowsG K lo w vs (fun j => if j = k then dF vs k i k + 1 else dF vs k i j)) : RowsG K lo w vs (dF vs k (i + 1)) :=
  h.cong fun j _ _ => by
    by_cases e : j = k
    · subst e; simp [dF]
    · simp [dF, e]
theorem RowsG.setF {K : Kd} (hK : K.Ok) {lo : Nat} {w : World} {vs : List Value} (hD : Dist vs) {k i g n cap : Nat} {xs : List Value} (h : RowsG K lo w vs (dF vs k i)) (hv : vs[k]? = some (.slice (some ⟨g, 0, none⟩) n cap)) (hi : i < n) (hx : K.cel w (mk k i) xs) :
    w.there g (i * K.sz) K.sz ∧ RowsG K lo (w.setCells g (i * K.sz) xs) vs (dF vs k (i + 1)) ∧ Tn K.em (InV vs) w (w.setCells g (i * K.sz) xs) := by
  have := RowsG.set hK hD h hv (by rw [dF_self]; exact hi) (by rw [dF_self]; exact hx)
  rw [dF_self] at this
  obtain ⟨h1, h2, h3⟩ := this
  refine ⟨h1, RowsG.dNext ?_, h3⟩
  rw [dF_self]
  exact h2
theorem getD_of {vs : List Value} {k : Nat} {v : Value} (h : vs[k]? = some v) : vs.getD k undef = v := by rw [List.getD_eq_getElem?_getD, h]; rfl
theorem RowsG.dEnd {K : Kd} {lo : Nat} {w : World} {vs : List Value} {k : Nat} {v : Value} (hv : vs[k]? = some v) (h : RowsG K lo w vs (dF vs k (vn v))) : RowsG K lo w vs (dF vs (k + 1) 0) :=
  h.cong fun j _ _ => by
    unfold dF
    by_cases e : j < k
    · rw [if_pos e, if_pos (by omega)]
    · rw [if_neg e]
      by_cases e2 : j = k
      · subst e2; rw [if_pos rfl, if_pos (by omega), getD_of hv]
      · rw [if_neg e2, if_neg (by omega)]; split <;> rfl
/-- All are marked. -/
def Full (K : Kd) (lo : Nat) (w : World) (vs : List Value) : Prop := ∀ k v, vs[k]? = some v → RowI K lo w v (vn v) k
theorem RowsG.full {K : Kd} {lo : Nat} {w : World} {vs : List Value} {m : Nat} (hm : vs.length = m) (h : RowsG K lo w vs (dF vs m 0)) : Full K lo w vs := fun k v hv => by
  have := h k v hv
  have hk : k < m := by rw [← hm]; exact (List.getElem?_eq_some_iff.1 hv).1
  unfold dF at this
  rwa [if_pos hk, getD_of hv] at this
theorem Full.on {K : Kd} (hK : K.Ok) {X : Nat → Prop} {lo : Nat} {w w' : World} {vs : List Value} (h : Full K lo w vs) (ht : Tn K.em X w w') (hx : ∀ (b : Nat) (cur : Array Value), w.heap[b]? = some (Obj.cells cur K.e (0, 0)) → InV vs b → ¬ X b) : Full K lo w' vs := fun k v hv =>
  (h k v hv).on hK ht fun b cur hc hb => hx b cur hc ⟨v, List.mem_of_getElem? hv, hb⟩
theorem Full.below {K : Kd} (hK : K.Ok) {lo : Nat} {w w' : World} {vs : List Value} (h : Full K lo w vs) (hb : Below w.heap.size w w') : Full K lo w' vs := h.on hK (Tn.of_below (X := fun _ => False) hb) fun _ _ _ _ => id
/-- A list of rows that lies in block L stays as it is while they are written over. -/
theorem list_cells {K : Kd} {eS em lo L : Nat} {w : World} {vs : List Value} {d : Nat → Nat} (hR : RowsG K lo w vs d) (hne : eS ≠ K.e) {arr : Array Value} (hL : w.heap[L]? = some (Obj.cells arr eS (0, 0))) (ha : ∀ (k : Nat) (v : Value), vs[k]? = some v → arr[k]? = some v) :
    ¬ InV vs L ∧ ∀ W, Tn em (InV vs) w W → ∀ (k : Nat) (v : Value), vs[k]? = some v → U W L k = some v := by
  have h1 : ¬ InV vs L := fun h => by
    obtain ⟨-, cur, e⟩ := hR.typed h
    rw [hL] at e; cases e; exact hne rfl
  refine ⟨h1, fun W ht k v hv => ?_⟩
  have h2 := ht.block L (heap_lt hL) h1
  rw [hL] at h2
  exact U_mk (by simp [World.cell?, h2, ha k v hv]) (by simp [World.frozen?, h2])

/-- One row has turned, of those that lie apart. -/
theorem Full.one {K : Kd} (hK : K.Ok) {lo : Nat} {w w' : World} {vs : List Value} (hD : Dist vs) (h : Full K lo w vs) {k : Nat} {v : Value} (hv : vs[k]? = some v) (ht : Tn K.em (fun b => vb v = some b) w w') (hr : RowI K lo w' v (vn v) k) : Full K lo w' vs := fun j u hu => by
  by_cases e : j = k
  · subst e
    rw [hv] at hu; cases hu
    exact hr
  · exact (h j u hu).on hK ht fun b _ _ hb hx => e (hD j k u v b hu hv hb hx)
theorem Tn.inV {em : Nat} {w w' : World} {vs : List Value} {k : Nat} {v : Value} (hv : vs[k]? = some v) (ht : Tn em (fun b => vb v = some b) w w') : Tn em (InV vs) w w' := ht.mono fun _ _ h => ⟨v, List.mem_of_getElem? hv, h⟩
/-- The list of what has grown stays while the next one grows. -/
theorem Gsl.one {K : Kd} (hK : K.Ok) {eS G s : Nat} {w w' : World} {vs : List Value} {d x k : Nat} (hD : Dist vs) (h : Gsl K eS G s w vs d x k) (hs : ∀ b, InV vs b → b < s) (hG : s ≤ G) {v : Value} (hv : vs[k]? = some v) (ht : Tn K.em (fun b => vb v = some b) w w') : Gsl K eS G s w' vs d x k :=
  h.on hK ht (fun _ _ e => by have := hs G ⟨v, List.mem_of_getElem? hv, e⟩; omega) fun b _ _ hb e => by
    rcases hb with ⟨j, u, hj, hu, e2⟩ | hb
    · have := hD j k u v b hu hv e2 e; omega
    · have := hs b ⟨v, List.mem_of_getElem? hv, e⟩; omega
/-- An entry of the list is put: the rows stay. -/
theorem Full.put {K : Kd} (hK : K.Ok) {lo G s : Nat} {w w' : World} {vs : List Value} (h : Full K lo w vs) (hs : ∀ b, InV vs b → b < s) (hG : s ≤ G) (ht : Tn K.em (fun b => b = G) w w') : Full K lo w' vs := h.on hK ht fun b _ _ hb e => by have := hs b hb; omega
theorem Gsl.start {K : Kd} {eS G s : Nat} {w : World} {vs : List Value} {d x d' x' j : Nat} (h : Gsl K eS G s w vs d x j) : Gsl K eS G s w vs d' x' 0 := by
  obtain ⟨arr, h1, h2, -⟩ := h
  exact ⟨arr, h1, h2, fun k v hk => by omega⟩
theorem Gsl.below {K : Kd} (hK : K.Ok) {eS G s : Nat} {w w' : World} {vs : List Value} {d x j : Nat} (h : Gsl K eS G s w vs d x j) (hb : Below w.heap.size w w') : Gsl K eS G s w' vs d x j :=
  h.on hK (Tn.of_below (X := fun _ => False) hb) (fun _ _ => id) fun _ _ _ _ => id
theorem Gsl.new {K : Kd} {eS s : Nat} (w : World) (vs : List Value) (d x : Nat) {arr : Array Value} (ha : arr.size = vs.length) : Gsl K eS w.heap.size s (w.alloc (.cells arr eS)) vs d x 0 :=
  ⟨arr, heap_alloc_new w _, ha, fun k v hk => by omega⟩
theorem Ent.getU {K : Kd} {s : Nat} {w : World} {v : Value} {h n cap d k i : Nat} (hE : Ent K s w v (.slice (some ⟨h, 0, none⟩) n cap) n d k) (hi : i < d) : ∃ xs, K.cel w (mk k i) xs ∧ ∀ j u, xs[j]? = some u → U w h (i * K.sz + j) = some u := by
  obtain ⟨h', cap', cur, h1, h2, h3, h4, h5, h6, h7⟩ := hE
  cases h1
  obtain ⟨xs, e1, e2⟩ := h7 i hi
  exact ⟨xs, e1, fun j u hj => U_mk (rangeAt_of h2 e2 j u hj) (by simp [World.frozen?, h2])⟩
theorem RowI.getU {K : Kd} {lo : Nat} {w : World} {g n cap d k i : Nat} (h : RowI K lo w (.slice (some ⟨g, 0, none⟩) n cap) d k) (hi : i < d) : ∃ xs, K.cel w (mk k i) xs ∧ ∀ j u, xs[j]? = some u → U w g (i * K.sz + j) = some u := by
  rcases h with ⟨p, -, rfl⟩ | ⟨g, n, cap, cur, e, h1, h2, h3, h4, h5, h6, h7, h8⟩
  · omega
  · cases e
    obtain ⟨xs, e1, e2⟩ := h8 i hi
    exact ⟨xs, e1, fun j u hj => U_mk (rangeAt_of h2 e2 j u hj) (by simp [World.frozen?, h2])⟩
/-- All cells of a row that is marked. -/
theorem RowI.all {K : Kd} (hK : K.Ok) {lo : Nat} {w : World} {B n k : Nat} (h : RowI K lo w (.slice (some ⟨B, 0, none⟩) n n) n k) (h0 : 0 < n) : ∃ news : List Value, news.length = n * K.sz ∧ (∀ j u, news[j]? = some u → w.cell? ((⟨B, 0, none⟩ : Addr).add j) = some u) ∧ ∀ u ∈ news, u.oneCell' = true := by
  rcases h with ⟨p, e, -⟩ | ⟨g, m, cap, cur, e, h1, h2, h3, h4, h5, h6, h7, h8⟩
  · cases e; omega
  · cases e
    refine ⟨cur.toList, by rw [Array.length_toList, h6], fun j u hu => ?_, fun u hu => ?_⟩
    · rw [Addr.add_mid]
      simpa [World.cell?, h2] using hu
    · obtain ⟨p, hp⟩ := List.getElem?_of_mem hu
      have hlt : p < n * K.sz := by rw [← h6, ← Array.length_toList]; exact (List.getElem?_eq_some_iff.1 hp).1
      have hpos := hK.pos
      obtain ⟨xs, e1, e2⟩ := h8 (p / K.sz) ((Nat.div_lt_iff_lt_mul hpos).2 hlt)
      have hl := hK.len _ _ _ e1
      have hm := Nat.mod_lt p hpos
      have := e2 (p % K.sz) (by omega)
      rw [show p / K.sz * K.sz + p % K.sz = p by rw [Nat.mul_comm]; exact Nat.div_add_mod p K.sz] at this
      rw [Array.getElem?_toList, this] at hp
      exact hK.one _ _ _ e1 u (List.mem_of_getElem? hp)
theorem RowI.new {K : Kd} (w : World) (n k : Nat) {arr : Array Value} (ha : arr.size = n * K.sz) (h0 : 0 < n) (hm : n ≤ maxLen) : RowI K w.heap.size (w.alloc (.cells arr K.e)) (.slice (some ⟨w.heap.size, 0, none⟩) n n) 0 k :=
  .inr ⟨_, n, n, arr, rfl, Nat.le_refl _, heap_alloc_new w _, Nat.le_refl _, h0, hm, ha, Nat.zero_le _, fun i hi => by omega⟩
theorem below_step' {em B : Nat} {w w1 w2 w3 : World} (h1 : Below w.heap.size w w1) (h2 : Below w1.heap.size w1 w2) (h3 : Tn em (fun b => b = B) w2 w3) (hB : w.heap.size = B) : Below w.heap.size w w3 :=
  have h := below_step h1 h2
  h.trans (h3.below h.size fun b hb => by omega)
theorem Gsl.cell {K : Kd} {eS G s : Nat} {w : World} {vs : List Value} {d x j k : Nat} (h : Gsl K eS G s w vs d x j) (hk : k < vs.length) : ∃ u, w.cell? ⟨G, k, none⟩ = some u ∧ w.frozen? ⟨G, k, none⟩ = false := by
  obtain ⟨arr, h1, h2, -⟩ := h
  exact ⟨arr[k]'(by omega), by simp [World.cell?, h1, h2, hk], by simp [World.frozen?, h1]⟩
section
variable {P : Program}
theorem quiet_load {ops : Array Oper} {S : World → Prop} {Q : Act → Prop} {a : Act} {rest : List Oper} {o : Oper} (hw : Region.wanted o (yielded ops a.tmps) = true) (T : Nat) (x : Operand) (ho : o.op = .load T x) (pv v : Value) (hx : a.eval x = pv)
    (hr : ∀ w, S w → (Instr.loadAt T pv).run P w = .ok v w) (h : wpQuiet P ops S Q rest (a.put o.dst v)) : wpQuiet P ops S Q (o :: rest) a := by
  unfold wpQuiet
  rw [if_pos hw]
  refine ⟨v, fun w hs => ?_, h⟩
  unfold Oper.quietAt execOp
  simp only [ho, hx, Sem.run_bind, hr w hs, Result.andThen_ok, Sem.run_pure]
  exact ⟨rfl, rfl⟩
/-- An element is loaded; a slice of one is made; one of many. -/
theorem Sty.load {K : Kd} {t : Nat} (hS : Sty P K t) {d : TypeDesc} (hu : P.underlying K.e = some d) (hd : d.isRow = true) {w : World} {b o : Nat} {xs : List Value} (h : w.rangeAt b o xs) (hl : xs.length = K.sz) : (Instr.loadAt K.e (.pointer (some ⟨b, o, none⟩))).run P w = .ok (.agg xs.toArray) w := by
  obtain ⟨ht, i, z, hi, hz, hsz, hzs, hby⟩ := hS
  exact run_loadAt_mid w b o K.e xs d h hu hd (by rw [hi, Option.map_some, hsz, hl])
theorem Sty.size {K : Kd} {t : Nat} (hS : Sty P K t) : (P.info? K.e).map (·.size) = some K.sz := by
  obtain ⟨ht, i, z, hi, hz, hsz, hzs, hby⟩ := hS
  rw [hi, Option.map_some, hsz]
theorem Sty.make {K : Kd} {t : Nat} (hS : Sty P K t) (n : Nat) (hn : n ≤ 1000000000) (w : World) : ∃ arr : Array Value, (Instr.makeSlice t (.int .i64 n) (.int .i64 n)).run P w = .ok (.slice (some ⟨w.heap.size, 0, none⟩) n n) (w.alloc (.cells arr K.e)) ∧ arr.size = n * K.sz := by
  obtain ⟨ht, i, z, hi, hz, hsz, hzs, hby⟩ := hS
  have hb : n * i.bytes ≤ 1000000000 * 1000 := Nat.mul_le_mul hn hby
  have hb' : (i.bytes : Int) * (n : Int) ≤ 281474976710656 := by
    have h : ((i.bytes * n : Nat) : Int) ≤ 281474976710656 := by rw [Nat.mul_comm]; omega
    rwa [Int.natCast_mul] at h
  have := run_make (P := P) w t K.e i z ht hi hz .i64 .i64 n n (by omega) (by omega) hb' (by omega)
  simp only [Int.toNat_natCast, hsz] at this
  exact ⟨_, this, by simp [madeCells]⟩
theorem Sty.build1 {K : Kd} (hK : K.Ok) {t : Nat} (hS : Sty P K t) (hs : K.sz ≤ 1000) {xs : List Value} (hl : xs.length = K.sz) (w : World) : (Instr.buildSlice t 1 #[(0, .agg xs.toArray)]).run P w = .ok (.slice (some ⟨w.heap.size, 0, none⟩) 1 1) (w.alloc (.cells xs.toArray K.e)) := by
  obtain ⟨ht, i, z, hi, hz, hsz, hzs, hby⟩ := hS
  have hp := hK.pos
  refine run_buildSlice w t K.e 1 _ _ i z ht hi hz (by rw [hsz]; omega) (by rw [hsz]; omega) ?_
  rw [hsz, Nat.one_mul]
  obtain ⟨cs, hcs⟩ : ∃ cs : List Value, (((Array.range K.sz).map (z.cells[· % z.cells.size]!)).toList) = cs := ⟨_, rfl⟩
  have hlen : cs.length = K.sz := by rw [← hcs]; simp
  have e0 : (Array.range K.sz).map (z.cells[· % z.cells.size]!) = cs.toArray := by rw [← hcs, Array.toArray_toList]
  rw [e0]
  have hv : (Value.agg xs.toArray).cells.size = K.sz := by show xs.toArray.size = _; simpa using hl
  rw [fill_step (off := 0) (by rw [hv, Nat.zero_mul]) (by rw [hv]; omega)]
  show some _ = some _
  congr 1
  rw [hv, Nat.zero_add, List.drop_of_length_le (by omega)]
  show ([] ++ (xs.toArray.toList ++ [])).toArray = xs.toArray
  simp
end
end Go.Proofs.YtkcmapimcgppmaaGreatDoor
end
