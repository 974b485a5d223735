/-
  Where words end: blanks and signs among bytes, and what the library says of them. Conditions: none.
-/
import Derived.Test.YtgkmhdifjgpbeaaDoorTrees
import Derived.Test.YtgkmhdifjgpbeaaDoorShelf
import Derived.Shelf.Strings.SlTrimAscii
import Derived.Shelf.GgClosure.StringsIndexFuncTop
import Derived.Lib.DecodeN
namespace Go.Proofs.YtgkmhdifjgpbeaaDoor
open Go.RowKit

/-- Blanks; bytes at which a word ends. -/
def isBlank (b : UInt8) : Bool := b == 9 || b == 10 || b == 13 || b == 32
def isEnd (b : UInt8) : Bool := b == 9 || b == 10 || b == 13 || b == 32 || b == 40 || b == 41 || b == 59
def endR (x : Nat) : Bool := x == 9 || x == 10 || x == 13 || x == 32 || x == 40 || x == 41 || x == 59

theorem isEnd_nat (b : UInt8) : isEnd b = endR b.toNat := by
  have h : ∀ c : UInt8, (b == c) = (b.toNat == c.toNat) := fun c => by
    rw [Bool.eq_iff_iff, beq_iff_eq, beq_iff_eq, UInt8.toNat_inj]
  simp only [isEnd, endR, h]
  rfl
theorem endR_lt {x : Nat} (h : endR x = true) : x < 128 := by
  simp only [endR, Bool.or_eq_true, beq_iff_eq] at h
  omega

/-- Where the first end is; -1: there is none. -/
def idxB : List UInt8 → Int
  | [] => -1
  | b :: r => if isEnd b then 0 else if idxB r = -1 then -1 else idxB r + 1
theorem idxB_ge (l : List UInt8) : -1 ≤ idxB l := by
  induction l with
  | nil => simp [idxB]
  | cons b r ih => simp only [idxB]; split <;> (try split) <;> omega
theorem idxB_skip : ∀ (x y : List UInt8), (∀ b ∈ x, isEnd b = false) → idxB (x ++ y) = if idxB y = -1 then -1 else idxB y + x.length
  | [], y, _ => by by_cases hy : idxB y = -1 <;> simp [hy]
  | b :: x, y, h => by
    have h0 := h b (List.mem_cons_self ..)
    have ih := idxB_skip x y (fun c hc => h c (List.mem_cons_of_mem _ hc))
    have hg := idxB_ge y
    simp only [List.cons_append, idxB, h0, ih, List.length_cons]
    by_cases hy : idxB y = -1
    · simp [hy]
    · simp only [if_neg hy, Bool.false_eq_true, if_false]
      rw [if_neg (by omega)]; omega
theorem idxB_iff (l : List UInt8) : 0 ≤ idxB l ↔ l.any isEnd = true := by
  induction l with
  | nil => simp [idxB]
  | cons b r ih =>
    have hg := idxB_ge r
    by_cases hb : isEnd b = true
    · simp [idxB, hb]
    · have hb' : isEnd b = false := by simpa using hb
      rw [List.any_cons, hb', Bool.false_or, ← ih]
      have he : idxB (b :: r) = if idxB r = -1 then -1 else idxB r + 1 := by
        show (if isEnd b = true then 0 else _) = _
        rw [if_neg hb]
      rw [he]
      by_cases hr : idxB r = -1
      · rw [if_pos hr, hr]
      · rw [if_neg hr]; omega
theorem idxB_any (l : List UInt8) : decide (0 ≤ idxB l) = l.any isEnd := by
  rw [Bool.eq_iff_iff, decide_eq_true_eq]; exact idxB_iff l

theorem decodeN_high {n b0 b1 b2 b3 : Nat} (h : 128 ≤ b0) : 128 ≤ (Lib.decodeN n b0 b1 b2 b3).1 ∧ ((Lib.decodeN n b0 b1 b2 b3).2 = 1 ∨ ((Lib.decodeN n b0 b1 b2 b3).2 = 2 ∧ 1 < n ∧ 128 ≤ b1) ∨
    ((Lib.decodeN n b0 b1 b2 b3).2 = 3 ∧ 2 < n ∧ 128 ≤ b1 ∧ 128 ≤ b2) ∨ ((Lib.decodeN n b0 b1 b2 b3).2 = 4 ∧ 3 < n ∧ 128 ≤ b1 ∧ 128 ≤ b2 ∧ 128 ≤ b3)) := by
  unfold Lib.decodeN
  rw [if_neg (by omega)]
  split
  · rename_i hc
    split
    · exact ⟨by dsimp only; omega, .inr (.inl ⟨rfl, hc.2.1, by omega⟩)⟩
    · exact ⟨by decide, .inl rfl⟩
  · split
    · rename_i hc
      split
      · rename_i hd
        exact ⟨by dsimp only; omega, .inr (.inr (.inl ⟨rfl, hc.2.2.1, by omega, by omega⟩))⟩
      · exact ⟨by decide, .inl rfl⟩
    · split
      · rename_i hc
        split
        · rename_i hd
          exact ⟨by dsimp only; omega, .inr (.inr (.inr ⟨rfl, hc.2.2.2.1, by omega, by omega, by omega⟩))⟩
        · exact ⟨by decide, .inl rfl⟩
      · exact ⟨by decide, .inl rfl⟩

theorem get_at (s : ByteArray) (i : Nat) (h : i < s.size) : s.data.toList[i]? = some (s.get! i) := by
  rw [Array.getElem?_toList]
  show s.data[i]? = some (s.data[i]!)
  have : i < s.data.size := h
  rw [Array.getElem?_eq_getElem this, getElem!_pos s.data i this]
/-- The library's search by runes finds the first byte at which a word ends. -/
theorem idxFunc_eq (s : ByteArray) : ∀ (f pos : Nat), s.size ≤ pos + f → Lib.idxFuncFrom endR true s f pos = if idxB (s.data.toList.drop pos) = -1 then -1 else idxB (s.data.toList.drop pos) + pos
  | 0, pos, hf => by
    have : s.data.toList.drop pos = [] := List.drop_eq_nil_of_le (by rw [Array.length_toList]; exact hf)
    rw [this]; rfl
  | f + 1, pos, hf => by
    unfold Lib.idxFuncFrom
    by_cases hp : pos < s.size
    · rw [if_pos hp]
      have hl : s.data.toList.length = s.size := by rw [Array.length_toList]; rfl
      have hcons : ∀ i, i < s.size → s.data.toList.drop i = s.get! i :: s.data.toList.drop (i + 1) := fun i hi => by
        rw [List.drop_eq_getElem_cons (by omega)]
        have := get_at s i hi
        rw [List.getElem?_eq_getElem (by omega)] at this
        rw [Option.some.inj this]
      rw [Lib.decode_at]
      by_cases hb : (s.get! pos).toNat < 128
      · have hd : Lib.decodeN (s.size - pos) (s.get! pos).toNat (s.get! (pos + 1)).toNat (s.get! (pos + 2)).toNat (s.get! (pos + 3)).toNat = ((s.get! pos).toNat, 1) := by unfold Lib.decodeN; rw [if_pos hb]
        rw [hd, hcons pos hp]
        simp only [idxB, isEnd_nat]
        by_cases he : endR (s.get! pos).toNat = true
        · rw [if_pos he, if_pos he]; simp
        · rw [if_neg he, if_neg he, idxFunc_eq s f (pos + 1) (by omega)]
          have hg := idxB_ge (s.data.toList.drop (pos + 1))
          by_cases hr : idxB (s.data.toList.drop (pos + 1)) = -1
          · simp [hr]
          · rw [if_neg hr, if_neg hr, if_neg (by omega)]; omega
      · obtain ⟨h1, h2⟩ := decodeN_high (n := s.size - pos) (b0 := (s.get! pos).toNat) (b1 := (s.get! (pos + 1)).toNat) (b2 := (s.get! (pos + 2)).toNat) (b3 := (s.get! (pos + 3)).toNat) (by omega)
        generalize Lib.decodeN (s.size - pos) (s.get! pos).toNat (s.get! (pos + 1)).toNat (s.get! (pos + 2)).toNat (s.get! (pos + 3)).toNat = d at h1 h2
        have hne : ¬ endR d.1 = true := fun h => by have := endR_lt h; omega
        rw [if_neg hne]
        have hw : ∀ b : UInt8, 128 ≤ b.toNat → isEnd b = false := fun b hb => by
          rw [isEnd_nat]
          cases h : endR b.toNat
          · rfl
          · have := endR_lt h; omega
        -- the bytes of the rune
        have hx : ∃ x : List UInt8, s.data.toList.drop pos = x ++ s.data.toList.drop (pos + d.2) ∧ (∀ b ∈ x, isEnd b = false) ∧ x.length = d.2 := by
          have hb0 := hw _ (Nat.le_of_not_lt hb)
          rcases h2 with h2 | ⟨h2, hn, g1⟩ | ⟨h2, hn, g1, g2⟩ | ⟨h2, hn, g1, g2, g3⟩
          · exact ⟨[s.get! pos], by rw [h2, hcons pos hp]; rfl, by simpa using hb0, by rw [h2]; rfl⟩
          · exact ⟨[s.get! pos, s.get! (pos + 1)], by rw [h2, hcons pos hp, hcons (pos + 1) (by omega)]; rfl, by simpa using ⟨hb0, hw _ g1⟩, by rw [h2]; rfl⟩
          · exact ⟨[s.get! pos, s.get! (pos + 1), s.get! (pos + 2)], by rw [h2, hcons pos hp, hcons (pos + 1) (by omega), hcons (pos + 2) (by omega)]; rfl, by simpa using ⟨hb0, hw _ g1, hw _ g2⟩, by rw [h2]; rfl⟩
          · exact ⟨[s.get! pos, s.get! (pos + 1), s.get! (pos + 2), s.get! (pos + 3)], by rw [h2, hcons pos hp, hcons (pos + 1) (by omega), hcons (pos + 2) (by omega), hcons (pos + 3) (by omega)]; rfl, by simpa using ⟨hb0, hw _ g1, hw _ g2, hw _ g3⟩, by rw [h2]; rfl⟩
        obtain ⟨x, hx1, hx2, hx3⟩ := hx
        have hd1 : 1 ≤ d.2 := by omega
        rw [idxFunc_eq s f (pos + d.2) (by omega), hx1, idxB_skip x _ hx2]
        have hg := idxB_ge (s.data.toList.drop (pos + d.2))
        by_cases hr : idxB (s.data.toList.drop (pos + d.2)) = -1
        · simp [hr]
        · rw [if_neg hr, if_neg hr, if_neg (by omega)]; omega
    · rw [if_neg hp]
      have : s.data.toList.drop pos = [] := List.drop_eq_nil_of_le (by rw [Array.length_toList]; exact Nat.le_of_not_lt hp)
      rw [this]; rfl

set_option maxHeartbeats 1000000 in
theorem ends_any (x : Nat) (w : World) : Calls Tryd.prog 51 #[.int .i32 x] w fun e w' => e = .returned (.bool (endR x)) ∧ w = w' := by
  go_enter Tryd.func51, Tryd.ntmps51
  go_wp2
  all_goals
    go_ret
    refine ⟨?_, rfl⟩
    first
    | (have h : endR x = true := by
         simp only [beq_iff_eq, beq_eq_false_iff_ne, ne_eq] at *
         simp only [endR, Bool.or_eq_true, beq_iff_eq]
         omega
       rw [h]; rfl)
    | (have h : endR x = false := by
         simp only [beq_eq_false_iff_ne, ne_eq] at *
         simp only [endR, Bool.or_eq_false_iff, beq_eq_false_iff_ne, ne_eq]
         omega
       rw [h]; rfl)

theorem ends_pred (w : World) : PredAt Tryd.prog 51 #[] encR endR w := fun W x _ => by
  unfold FnGives
  exact (ends_any x W).mono fun _ _ ⟨he, hw⟩ => ⟨he, 0, hw.symm⟩

theorem trim_any (s : ByteArray) (w : World) : Calls Tryd.prog 49 #[.string s, .string ⟨#[9, 10, 13, 32]⟩] w fun e w' =>
    e = .returned (.string ⟨(s.data.toList.dropWhile isBlank).toArray⟩) ∧ Below w.heap.size w w' := by
  have h := Any.strings_TrimLeft_laid Tryd.lays161 (by kernel_rfl) s ⟨#[9, 10, 13, 32]⟩ w (by decide) (ascii_of_all (by decide))
  have hb : (fun b => ([9, 10, 13, 32] : List UInt8).contains b) = isBlank := by
    funext b
    simp only [isBlank, List.contains_cons, List.contains_nil, Bool.or_false, Bool.or_assoc]
  change Calls Tryd.prog 49 _ _ (fun e w' => e = .returned (.string ⟨(s.data.toList.dropWhile fun b => ([9, 10, 13, 32] : List UInt8).contains b).toArray⟩) ∧ Below w.heap.size w w') at h
  rw [hb] at h
  exact h
theorem index_any (s : ByteArray) (w : World) : Calls Tryd.prog 50 #[.string s, .func (.func 51) #[] #[]] w fun e w' =>
    e = .returned (.int .i64 (idxB s.data.toList)) ∧ Below w.heap.size w w' := by
  have h := Tryd.strings_IndexFunc 51 #[] (enters_of Tryd.func51 (by kernel_rfl) rfl) endR s w (ends_pred w)
  have he : Lib.idxFunc endR true s = idxB s.data.toList := by
    unfold Lib.idxFunc
    rw [idxFunc_eq s s.size 0 (by omega), List.drop_zero]
    have := idxB_ge s.data.toList
    split <;> omega
  rw [he] at h
  exact h
theorem contains_any (s : ByteArray) (w : World) : Calls Tryd.prog 57 #[.string s, .func (.func 51) #[] #[]] w fun e w' =>
    e = .returned (.bool (s.data.toList.any isEnd)) ∧ Below w.heap.size w w' := by
  have h := Tryd.strings_ContainsFunc 51 #[] (enters_of Tryd.func51 (by kernel_rfl) rfl) endR s w (ends_pred w)
  have he : Lib.idxFunc endR true s = idxB s.data.toList := by
    unfold Lib.idxFunc
    rw [idxFunc_eq s s.size 0 (by omega), List.drop_zero]
    have := idxB_ge s.data.toList
    split <;> omega
  rw [he, idxB_any] at h
  exact h

/-- Is a tree one, by its own word? -/
def okOne (w : ByteArray) (x : Ts) : Bool := !(w.data.toList.any isEnd) && (w.size == 0 || x.len == 0)
/-- Are trees such, at every depth? -/
def Ts.right : Ts → Bool
  | .nil => true
  | .cons w x r => okOne w x && x.right && r.right
theorem Ts.right_app (x y : Ts) : (x.app y).right = (x.right && y.right) := by
  induction x with
  | nil => simp [Ts.app, Ts.right]
  | cons w k r _ ih => simp [Ts.app, Ts.right, ih, Bool.and_assoc]
theorem Ts.right_take {t : Ts} {k : Nat} (h : k < t.len) : (t.take (k + 1)).right = ((t.take k).right && (okOne (t.wd k) (t.kd k) && (t.kd k).right)) := by
  rw [Ts.take_succ h, Ts.snoc, Ts.right_app]; simp [Ts.right]
theorem Ts.right_at {t : Ts} (h : t.right = true) {k : Nat} (hk : k < t.len) : okOne (t.wd k) (t.kd k) = true ∧ (t.kd k).right = true := by
  induction t generalizing k with
  | nil => simp [Ts.len] at hk
  | cons w x r _ ih =>
    simp only [Ts.right, Bool.and_eq_true] at h
    cases k with
    | zero => exact h.1
    | succ k => exact ih h.2 (k := k) (by simp [Ts.len] at hk; omega)
theorem Ts.right_no {t : Ts} {k : Nat} (hk : k < t.len) (h : okOne (t.wd k) (t.kd k) = false ∨ (t.kd k).right = false) : t.right = false := by
  cases e : t.right
  · rfl
  · obtain ⟨h1, h2⟩ := Ts.right_at e hk
    rw [h1, h2] at h
    rcases h with h | h <;> cases h
end Go.Proofs.YtgkmhdifjgpbeaaDoor
