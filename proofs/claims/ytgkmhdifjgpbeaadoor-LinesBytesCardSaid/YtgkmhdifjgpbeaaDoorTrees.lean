/-
  Trees of words as plain data, and what it is that memory holds them. Conditions: none (definitions and their plain laws).
-/
import Derived.WalkKit
import Derived.Lib.Hide
import Derived.Deep.QuietTactic
import Derived.BigQuiet
namespace Go.Proofs.YtgkmhdifjgpbeaaDoor
open Go.RowKit

/-- A row of trees: the first one's word, its kids, the other trees. -/
inductive Ts where
  | nil
  | cons (word : ByteArray) (kids rest : Ts)

namespace Ts
def len : Ts → Nat
  | nil => 0
  | cons _ _ r => r.len + 1
def wd : Ts → Nat → ByteArray
  | nil, _ => ⟨#[]⟩
  | cons w _ _, 0 => w
  | cons _ _ r, k + 1 => r.wd k
def kd : Ts → Nat → Ts
  | nil, _ => nil
  | cons _ x _, 0 => x
  | cons _ _ r, k + 1 => r.kd k
/-- How many trees there are, at every depth. -/
def count : Ts → Nat
  | nil => 0
  | cons _ x r => x.count + r.count + 1
/-- How deep they are. -/
def deep : Ts → Nat
  | nil => 0
  | cons _ x r => max (x.deep + 1) r.deep
/-- How great they are, words and all. -/
def great : Ts → Nat
  | nil => 0
  | cons w x r => 1 + w.size + x.great + r.great
/-- Their words are no longer than memory can hold. -/
def small : Ts → Prop
  | nil => True
  | cons w x r => w.size ≤ 140737488355328 ∧ x.small ∧ r.small
def drop : Nat → Ts → Ts
  | 0, t => t
  | _ + 1, nil => nil
  | n + 1, cons _ _ r => drop n r
/-- How great they are, counted until a bound is passed. -/
def parts : Ts → Int → Int → Int
  | nil, _, n => n
  | cons w x r, b, n => if n ≤ b then r.parts b (n + 1 + w.size + x.parts (b - n) 0) else n
/-- Their text, the first one's without a blank ahead, or with one. -/
def txt : Bool → Ts → List UInt8
  | _, nil => []
  | f, cons w x r => (if f then [] else [32]) ++ (if w.size = 0 then 40 :: (txt true x ++ [41]) else w.data.toList) ++ txt false r
/-- One tree's text. -/
def one (w : ByteArray) (x : Ts) : List UInt8 := if w.size = 0 then 40 :: (txt true x ++ [41]) else w.data.toList
def app : Ts → Ts → Ts
  | nil, y => y
  | cons w x r, y => cons w x (r.app y)
def snoc (x : Ts) (w : ByteArray) (k : Ts) : Ts := x.app (cons w k nil)
def take : Nat → Ts → Ts
  | 0, _ => nil
  | _ + 1, nil => nil
  | n + 1, cons w x r => cons w x (take n r)

theorem count_kd {t : Ts} {k : Nat} (h : k < t.len) : (t.kd k).count < t.count := by
  induction t generalizing k with
  | nil => simp [len] at h
  | cons w x r _ ih =>
    cases k with
    | zero => simp [kd, count]; omega
    | succ k =>
      have := ih (k := k) (by simp [len] at h; omega)
      simp [kd, count]; omega
theorem deep_kd {t : Ts} {k : Nat} (h : k < t.len) : (t.kd k).deep + 1 ≤ t.deep := by
  induction t generalizing k with
  | nil => simp [len] at h
  | cons w x r _ ih =>
    cases k with
    | zero => simp only [kd, deep]; omega
    | succ k =>
      have := ih (k := k) (by simp [len] at h; omega)
      simp only [kd, deep]; omega
theorem deep_le {t : Ts} {n : Nat} (h : ∀ k, k < t.len → (t.kd k).deep + 1 ≤ n) : t.deep ≤ n := by
  induction t with
  | nil => simp [deep]
  | cons w x r _ ih =>
    have h0 := h 0 (by simp [len])
    have h1 := ih (fun k hk => h (k + 1) (by simp [len]; omega))
    simp only [kd, deep] at *; omega
theorem small_kd {t : Ts} (h : t.small) (k : Nat) : (t.kd k).small := by
  induction t generalizing k with
  | nil => exact trivial
  | cons w x r _ ih =>
    cases k with
    | zero => exact h.2.1
    | succ k => exact ih h.2.2 k
theorem small_wd {t : Ts} (h : t.small) (k : Nat) : (t.wd k).size ≤ 140737488355328 := by
  induction t generalizing k with
  | nil => exact Nat.zero_le _
  | cons w x r _ ih =>
    cases k with
    | zero => exact h.1
    | succ k => exact ih h.2.2 k
theorem drop_step {t : Ts} {k : Nat} (h : k < t.len) : t.drop k = cons (t.wd k) (t.kd k) (t.drop (k + 1)) := by
  induction t generalizing k with
  | nil => simp [len] at h
  | cons w x r _ ih =>
    cases k with
    | zero => rfl
    | succ k => exact ih (k := k) (by simp [len] at h; omega)
theorem drop_len (t : Ts) : t.drop t.len = nil := by
  induction t with
  | nil => rfl
  | cons w x r _ ih => exact ih
theorem parts_ge (t : Ts) : ∀ b n : Int, n ≤ t.parts b n := by
  induction t with
  | nil => intro b n; exact Int.le_refl _
  | cons w x r ihx ihr =>
    intro b n
    simp only [parts]
    split
    · have h1 := ihx (b - n) 0
      have h2 := ihr b (n + 1 + w.size + x.parts (b - n) 0)
      omega
    · omega
theorem parts_le {t : Ts} (h : t.small) : ∀ (b n : Int), t.parts b n ≤ max n (b + 140737488355329 * t.deep) := by
  induction t with
  | nil => intro b n; simp only [parts]; omega
  | cons w x r ihx ihr =>
    intro b n
    simp only [parts, deep]
    split
    · have h1 := ihx h.2.1 (b - n) 0
      have h2 := ihr h.2.2 b (n + 1 + w.size + x.parts (b - n) 0)
      have h3 := h.1
      omega
    · omega
theorem parts_eq (t : Ts) : ∀ (b n : Int), t.parts b n ≤ b → t.parts b n = n + t.great := by
  induction t with
  | nil => intro b n _; simp [parts, great]
  | cons w x r ihx ihr =>
    intro b n h
    simp only [parts, great] at *
    split
    · rename_i hn
      rw [if_pos hn] at h
      have h1 := ihr b _ h
      have h0 := parts_ge r b (n + 1 + w.size + x.parts (b - n) 0)
      have h2 := ihx (b - n) 0 (by omega)
      omega
    · rename_i hn
      rw [if_neg hn] at h
      omega
theorem deep_len {t : Ts} (h : 0 < t.len) : 1 ≤ t.deep := by have := deep_kd h; omega
theorem deep_of {t : Ts} {n : Nat} (h : ∀ k, k < t.len → (t.kd k).deep + 1 ≤ n) (h' : n = 0 ∨ ∃ k, k < t.len ∧ (t.kd k).deep + 1 = n) : t.deep = n := by
  have h1 := deep_le h
  rcases h' with rfl | ⟨k, hk, e⟩
  · omega
  · have := deep_kd hk; omega
theorem app_len (x y : Ts) : (x.app y).len = x.len + y.len := by
  induction x with
  | nil => simp [app, len]
  | cons w k r _ ih => simp [app, len, ih]; omega
theorem snoc_len (x : Ts) (w : ByteArray) (k : Ts) : (x.snoc w k).len = x.len + 1 := by simp [snoc, app_len, len]
theorem app_assoc (x y z : Ts) : (x.app y).app z = x.app (y.app z) := by
  induction x with
  | nil => rfl
  | cons w k r _ ih => simp [app, ih]
theorem app_nil (x : Ts) : x.app nil = x := by
  induction x with
  | nil => rfl
  | cons w k r _ ih => simp [app, ih]
theorem take_len (t : Ts) : t.take t.len = t := by
  induction t with
  | nil => rfl
  | cons w k r _ ih => simp [take, len, ih]
theorem take_succ {t : Ts} {k : Nat} (h : k < t.len) : t.take (k + 1) = (t.take k).snoc (t.wd k) (t.kd k) := by
  induction t generalizing k with
  | nil => simp [len] at h
  | cons w x r _ ih =>
    cases k with
    | zero => simp [take, snoc, app, wd, kd]
    | succ k =>
      have := ih (k := k) (by simp [len] at h; omega)
      simp [take, snoc, app, wd, kd] at this ⊢
      exact this
theorem app_great (x y : Ts) : (x.app y).great = x.great + y.great := by
  induction x with
  | nil => simp [app, great]
  | cons w k r _ ih => simp [app, great, ih]; omega
theorem great_take {t : Ts} {k : Nat} (h : k < t.len) : (t.take (k + 1)).great = (t.take k).great + (1 + (t.wd k).size + (t.kd k).great) := by
  rw [take_succ h, snoc, app_great]; simp [great]
theorem len_le_great (t : Ts) : t.len ≤ t.great := by
  induction t with
  | nil => simp [len]
  | cons w x r _ ih => simp [len, great]; omega
theorem great_kd {t : Ts} {k : Nat} (h : k < t.len) : (t.kd k).great + (t.wd k).size < t.great := by
  induction t generalizing k with
  | nil => simp [len] at h
  | cons w x r _ ih =>
    cases k with
    | zero => simp only [kd, wd, great]; omega
    | succ k =>
      have := ih (k := k) (by simp [len] at h; omega)
      simp only [kd, wd, great]; omega
theorem app_deep (x y : Ts) : (x.app y).deep = max x.deep y.deep := by
  induction x with
  | nil => simp [app, deep]
  | cons w k r _ ih => simp only [app, deep, ih]; omega
theorem deep_take {t : Ts} {k : Nat} (h : k < t.len) : (t.take (k + 1)).deep = max (t.take k).deep ((t.kd k).deep + 1) := by
  rw [take_succ h, snoc, app_deep]; simp [deep]
theorem deep_take_le (t : Ts) : ∀ k : Nat, (t.take k).deep ≤ t.deep := by
  induction t with
  | nil => intro k; cases k <;> simp [take, deep]
  | cons w x r _ ih =>
    intro k
    cases k with
    | zero => simp [take, deep]
    | succ k => have := ih k; simp only [take, deep]; omega
theorem txt_app (x y : Ts) (f : Bool) : (x.app y).txt f = x.txt f ++ y.txt (f && x.len == 0) := by
  induction x generalizing f with
  | nil => simp [app, txt, len]
  | cons w k r _ ih =>
    have : ∀ n : Nat, (n + 1 == 0) = false := fun n => rfl
    simp [app, txt, len, ih, this]
theorem txt_take {t : Ts} {k : Nat} (h : k < t.len) : (t.take (k + 1)).txt true = (t.take k).txt true ++ ((if k = 0 then [] else [32]) ++ one (t.wd k) (t.kd k)) := by
  have hl : (t.take k).len = k := by
    have : ∀ (t : Ts) (k : Nat), k ≤ t.len → (t.take k).len = k := by
      intro t
      induction t with
      | nil => intro k h; simp [len] at h; subst h; rfl
      | cons w x r _ ih =>
        intro k h
        cases k with
        | zero => rfl
        | succ k => simp [take, len]; exact ih k (by simp [len] at h; omega)
    exact this t k (by omega)
  rw [take_succ h, snoc, txt_app, hl]
  cases k <;> simp [txt, one]
theorem txt_take_le {t : Ts} {k : Nat} (h : k ≤ t.len) : ((t.take k).txt true).length ≤ (t.txt true).length := by
  have key : ∀ n, k + n = t.len → ((t.take k).txt true).length ≤ (t.txt true).length := by
    intro n
    induction n generalizing k with
    | zero => intro e; obtain rfl : k = t.len := by omega
              rw [take_len]; exact Nat.le_refl _
    | succ n ih =>
      intro e
      have := ih (k := k + 1) (by omega) (by omega)
      rw [txt_take (by omega)] at this
      simp only [List.length_append] at this
      omega
  exact key (t.len - k) (by omega)
theorem take_len_le {t : Ts} {k : Nat} (h : k ≤ t.len) : (t.take k).len = k := by
  induction t generalizing k with
  | nil => simp [len] at h; subst h; rfl
  | cons w x r _ ih =>
    cases k with
    | zero => rfl
    | succ k => simp [take, len]; exact ih (by simp [len] at h; omega)
end Ts

theorem ret_int {k : IntKind} {a b : Int} (h : a = b) : Ending.returned (.int k a) = .returned (.int k b) := by rw [h]

/-- A cell that may be read and written. -/
def U (w : World) (b o : Nat) : Option Value := if w.frozen? ⟨b, o, none⟩ = true then none else w.cell? ⟨b, o, none⟩

theorem U_cell {w : World} {b o : Nat} {v : Value} (h : U w b o = some v) : w.cell? ⟨b, o, none⟩ = some v := by
  unfold U at h; split at h
  · cases h
  · exact h
theorem U_frozen {w : World} {b o : Nat} {v : Value} (h : U w b o = some v) : w.frozen? ⟨b, o, none⟩ = false := by
  unfold U at h; split at h
  · cases h
  · rename_i hn; simpa using hn
theorem U_mk {w : World} {b o : Nat} {v : Value} (h : w.cell? ⟨b, o, none⟩ = some v) (hf : w.frozen? ⟨b, o, none⟩ = false) : U w b o = some v := by
  unfold U; rw [hf]; simpa using h
theorem U_block {w w' : World} {b : Nat} (h : w'.heap[b]? = w.heap[b]?) (o : Nat) : U w' b o = U w b o := by
  unfold U World.frozen? World.cell?; simp only [h]

/-- From block lo on, below block hi, where F is what the cells hold: the trees lie at an address. -/
def TAt (F : Nat → Nat → Option Value) (lo hi : Nat) : Ts → Nat → Nat → Prop
  | .nil, _, _ => True
  | .cons w x r, b, o => F b o = some (.string w) ∧ w.size ≤ 140737488355328 ∧
      (∃ (p : Option Addr) (n c : Nat), F b (o + 1) = some (.slice p n c) ∧ n = x.len ∧ n ≤ c ∧ c ≤ maxLen ∧
        ((p = none ∧ c = 0) ∨ (n = 0 ∧ p ≠ none) ∨ ∃ b' o', p = some ⟨b', o', none⟩ ∧ lo ≤ b' ∧ b' < hi ∧ TAt F lo hi x b' o')) ∧
      TAt F lo hi r b (o + 2)

/-- A slice value that is a row of trees. -/
def Sl (F : Nat → Nat → Option Value) (lo hi : Nat) (v : Value) (t : Ts) : Prop :=
  ∃ (p : Option Addr) (n c : Nat), v = .slice p n c ∧ n = t.len ∧ n ≤ c ∧ c ≤ maxLen ∧
    ((p = none ∧ c = 0) ∨ (n = 0 ∧ p ≠ none) ∨ ∃ b o, p = some ⟨b, o, none⟩ ∧ lo ≤ b ∧ b < hi ∧ TAt F lo hi t b o)

theorem TAt_cons {F : Nat → Nat → Option Value} {lo hi : Nat} {w : ByteArray} {x r : Ts} {b o : Nat} :
    TAt F lo hi (.cons w x r) b o ↔ F b o = some (.string w) ∧ w.size ≤ 140737488355328 ∧ (∃ v, F b (o + 1) = some v ∧ Sl F lo hi v x) ∧ TAt F lo hi r b (o + 2) := by
  constructor
  · rintro ⟨h1, h2, ⟨p, n, c, h3, h4, h5, h6, h7⟩, h8⟩
    exact ⟨h1, h2, ⟨_, h3, p, n, c, rfl, h4, h5, h6, h7⟩, h8⟩
  · rintro ⟨h1, h2, ⟨v, h3, p, n, c, rfl, h4, h5, h6, h7⟩, h8⟩
    exact ⟨h1, h2, ⟨p, n, c, h3, h4, h5, h6, h7⟩, h8⟩

theorem TAt.at_ {F : Nat → Nat → Option Value} {lo hi : Nat} {t : Ts} {b o k : Nat} (h : TAt F lo hi t b o) (hk : k < t.len) :
    F b (o + k * 2) = some (.string (t.wd k)) ∧ (t.wd k).size ≤ 140737488355328 ∧ ∃ v, F b (o + k * 2 + 1) = some v ∧ Sl F lo hi v (t.kd k) := by
  induction t generalizing o k with
  | nil => simp [Ts.len] at hk
  | cons w x r _ ih =>
    obtain ⟨h1, h2, h3, h4⟩ := TAt_cons.1 h
    cases k with
    | zero => exact ⟨h1, h2, h3⟩
    | succ k =>
      have := ih h4 (k := k) (by simp [Ts.len] at hk; omega)
      rw [show o + (k + 1) * 2 = o + 2 + k * 2 by omega]
      exact this

theorem TAt.mono {F F' : Nat → Nat → Option Value} {lo hi lo' hi' : Nat} {t : Ts} {b o : Nat} (h : TAt F lo hi t b o) (hb : lo ≤ b ∧ b < hi)
    (hF : ∀ b o v, lo ≤ b → b < hi → F b o = some v → F' b o = some v) (hlo : lo' ≤ lo) (hhi : hi ≤ hi') : TAt F' lo' hi' t b o := by
  induction t generalizing b o with
  | nil => trivial
  | cons w x r ihx ihr =>
    obtain ⟨h1, h2, ⟨p, n, c, h3, h4, h5, h6, h7⟩, h8⟩ := h
    refine ⟨hF _ _ _ hb.1 hb.2 h1, h2, ⟨p, n, c, hF _ _ _ hb.1 hb.2 h3, h4, h5, h6, ?_⟩, ihr h8 hb⟩
    rcases h7 with h7 | h7 | ⟨b', o', e, hl, hh, ht⟩
    · exact .inl h7
    · exact .inr (.inl h7)
    · exact .inr (.inr ⟨b', o', e, by omega, by omega, ihx ht ⟨hl, hh⟩⟩)
theorem Sl.mono {F F' : Nat → Nat → Option Value} {lo hi lo' hi' : Nat} {v : Value} {t : Ts} (h : Sl F lo hi v t)
    (hF : ∀ b o v, lo ≤ b → b < hi → F b o = some v → F' b o = some v) (hlo : lo' ≤ lo) (hhi : hi ≤ hi') : Sl F' lo' hi' v t := by
  obtain ⟨p, n, c, h3, h4, h5, h6, h7⟩ := h
  refine ⟨p, n, c, h3, h4, h5, h6, ?_⟩
  rcases h7 with h7 | h7 | ⟨b', o', e, hl, hh, ht⟩
  · exact .inl h7
  · exact .inr (.inl h7)
  · exact .inr (.inr ⟨b', o', e, by omega, by omega, ht.mono ⟨hl, hh⟩ hF hlo hhi⟩)
theorem TAt.small {F : Nat → Nat → Option Value} {lo hi : Nat} {t : Ts} {b o : Nat} (h : TAt F lo hi t b o) : t.small := by
  induction t generalizing b o with
  | nil => trivial
  | cons w x r ihx ihr =>
    obtain ⟨h1, h2, ⟨p, n, c, h3, h4, h5, h6, h7⟩, h8⟩ := h
    refine ⟨h2, ?_, ihr h8⟩
    rcases h7 with h7 | h7 | ⟨b', o', e, hl, hh, ht⟩
    · cases x with
      | nil => trivial
      | cons => simp [Ts.len] at h4; omega
    · cases x with
      | nil => trivial
      | cons => simp [Ts.len] at h4; omega
    · exact ihx ht
theorem Sl.small {F : Nat → Nat → Option Value} {lo hi : Nat} {v : Value} {t : Ts} (h : Sl F lo hi v t) : t.small := by
  obtain ⟨p, n, c, h3, h4, h5, h6, h7⟩ := h
  rcases h7 with h7 | h7 | ⟨b', o', e, hl, hh, ht⟩
  · cases t with
    | nil => trivial
    | cons => simp [Ts.len] at h4; omega
  · cases t with
    | nil => trivial
    | cons => simp [Ts.len] at h4; omega
  · exact ht.small
theorem Sl.none_ (F : Nat → Nat → Option Value) (lo hi : Nat) : Sl F lo hi (.slice none 0 0) .nil := ⟨none, 0, 0, rfl, rfl, Nat.le_refl _, Nat.zero_le _, .inl ⟨rfl, rfl⟩⟩

theorem U_below {B : Nat} {w w' : World} (h : Below B w w') : ∀ b o v, b < B → U w b o = some v → U w' b o = some v :=
  fun b o _ hb hv => (U_block (h.block b hb) o).trans hv
theorem Sl.below {B lo hi : Nat} {w w' : World} {v : Value} {t : Ts} (h : Sl (U w) lo hi v t) (hb : Below B w w') (hB : hi ≤ B) : Sl (U w') lo hi v t :=
  h.mono (fun b o u _ hh hu => U_below hb b o u (by omega) hu) (Nat.le_refl _) (Nat.le_refl _)
theorem Sl.widen {F : Nat → Nat → Option Value} {lo hi lo' hi' : Nat} {v : Value} {t : Ts} (h : Sl F lo hi v t) (hlo : lo' ≤ lo) (hhi : hi ≤ hi') : Sl F lo' hi' v t :=
  h.mono (fun _ _ _ _ _ h => h) hlo hhi
theorem U_drewN (w : World) (n b o : Nat) : U (w.drewN n) b o = U w b o := rfl
theorem Sl.drewN {lo hi : Nat} {w : World} {v : Value} {t : Ts} (h : Sl (U w) lo hi v t) (n : Nat) : Sl (U (w.drewN n)) lo hi v t := h

/-- The k-th tree of a row: its two cells. -/
theorem Sl.at_ {lo hi : Nat} {w : World} {p : Option Addr} {n c k : Nat} {t : Ts} (h : Sl (U w) lo hi (.slice p n c) t) (hk : k < n) :
    ∃ b o, p = some ⟨b, o, none⟩ ∧ n = t.len ∧ lo ≤ b ∧ b < hi ∧ U w b (o + k * 2) = some (.string (t.wd k)) ∧ (t.wd k).size ≤ 140737488355328 ∧ ∃ v, U w b (o + k * 2 + 1) = some v ∧ Sl (U w) lo hi v (t.kd k) := by
  obtain ⟨p', n', c', e, h4, h5, h6, h7⟩ := h
  cases e
  rcases h7 with ⟨rfl, rfl⟩ | ⟨h0, -⟩ | ⟨b, o, rfl, hl, hh, ht⟩
  · omega
  · omega
  · obtain ⟨g1, g2, g3⟩ := ht.at_ (k := k) (by omega)
    exact ⟨b, o, rfl, h4, hl, hh, g1, g2, g3⟩
theorem Sl.slice {F : Nat → Nat → Option Value} {lo hi : Nat} {v : Value} {t : Ts} (h : Sl F lo hi v t) : ∃ p c, v = .slice p t.len c ∧ t.len ≤ c ∧ c ≤ maxLen ∧ (p = none → c = 0) := by
  obtain ⟨p, n, c, rfl, rfl, h5, h6, h7⟩ := h
  refine ⟨p, c, rfl, h5, h6, ?_⟩
  rcases h7 with ⟨rfl, rfl⟩ | ⟨-, h0⟩ | ⟨b, o, rfl, _⟩
  · exact fun _ => rfl
  · exact fun h => absurd h h0
  · exact fun h => by cases h
end Go.Proofs.YtgkmhdifjgpbeaaDoor
