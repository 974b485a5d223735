/-
  The words and the signs of a text; what a text reads as. Conditions: none (plain laws).
-/
import Derived.Test.YtgkmhdifjgpbeaaDoorTok
import Derived.Test.YtgkmhdifjgpbeaaDoorEnds
import Derived.Test.YtgkmhdifjgpbeaaDoorRefBytes
namespace Go.Proofs.YtgkmhdifjgpbeaaDoor
open Go.RowKit

/-- Where in a text we are: between words; in a word, that has begun; in a remark. -/
inductive Md where
  | out
  | word (a : List UInt8)
  | note

def toks : Md → List UInt8 → List (List UInt8)
  | .out, [] => []
  | .word a, [] => [a]
  | .note, [] => []
  | .note, b :: r => if b = 10 then toks .out r else toks .note r
  | .out, b :: r => if isBlank b then toks .out r else if b = 59 then toks .note r else if isSign b then [b] :: toks .out r else toks (.word [b]) r
  | .word a, b :: r => if isBlank b then a :: toks .out r else if b = 59 then a :: toks .note r else if isSign b then a :: [b] :: toks .out r else toks (.word (a ++ [b])) r

theorem isEnd_no {b : UInt8} (h : isEnd b = false) : isBlank b = false ∧ b ≠ 59 ∧ isSign b = false := by
  rw [isEnd_parts] at h
  simp at h
  exact ⟨h.1.1, h.2, h.1.2⟩
theorem isEnd_yes {b : UInt8} (h : isEnd b = true) : isBlank b = true ∨ b = 59 ∨ isSign b = true := by
  rw [isEnd_parts] at h
  simp at h
  rcases h with (h | h) | h
  · exact .inl h
  · exact .inr (.inr h)
  · exact .inr (.inl h)

theorem toks_trim (l : List UInt8) : toks .out (l.dropWhile isBlank) = toks .out l := by
  induction l with
  | nil => rfl
  | cons b r ih =>
    rw [List.dropWhile_cons]
    cases hb : isBlank b
    · rfl
    · simp only [if_true, ih, toks, hb]
theorem toks_chars : ∀ (x y : List UInt8) (a : List UInt8), (∀ b ∈ x, isEnd b = false) → toks (.word a) (x ++ y) = toks (.word (a ++ x)) y
  | [], y, a, _ => by simp
  | b :: x, y, a, h => by
    obtain ⟨h1, h2, h3⟩ := isEnd_no (h b List.mem_cons_self)
    rw [List.cons_append, toks, h1, h3, if_neg (by decide), if_neg h2, if_neg (by decide), toks_chars x y (a ++ [b]) (fun c hc => h c (List.mem_cons_of_mem _ hc))]
    simp
theorem toks_stop {y : List UInt8} (h : ∀ b, y.head? = some b → isEnd b = true) (a : List UInt8) : toks (.word a) y = a :: toks .out y := by
  cases y with
  | nil => rfl
  | cons b r =>
    have hb := h b rfl
    rcases isEnd_yes hb with h1 | h1 | h1
    · simp [toks, h1]
    · subst h1; have : isBlank 59 = false := by decide
      simp [toks, this]
    · have h2 : isBlank b = false := by
        unfold isSign at h1; simp at h1
        rcases h1 with rfl | rfl <;> decide
      have h3 : b ≠ 59 := by rintro rfl; revert h1; decide
      simp [toks, h1, h2, h3]
theorem toks_word {x y : List UInt8} (hx : x ≠ []) (h : ∀ b ∈ x, isEnd b = false) (hy : ∀ b, y.head? = some b → isEnd b = true) : toks .out (x ++ y) = x :: toks .out y := by
  cases x with
  | nil => exact absurd rfl hx
  | cons b x =>
    obtain ⟨h1, h2, h3⟩ := isEnd_no (h b List.mem_cons_self)
    rw [List.cons_append, toks, h1, h3, if_neg (by decide), if_neg h2, if_neg (by decide), toks_chars x y [b] (fun c hc => h c (List.mem_cons_of_mem _ hc)), toks_stop hy]
    rfl
/-- What lies behind the first line feed. -/
def after10 : List UInt8 → List UInt8
  | [] => []
  | b :: r => if b = 10 then r else after10 r
theorem toks_note (l : List UInt8) : toks .note l = toks .out (after10 l) := by
  induction l with
  | nil => rfl
  | cons b r ih =>
    rw [toks, after10]
    split
    · rfl
    · exact ih
theorem after10_len (l : List UInt8) : (after10 l).length ≤ l.length - 1 := by
  induction l with
  | nil => simp [after10]
  | cons b r ih => rw [after10]; split <;> simp; omega
theorem after10_eq (l : List UInt8) : after10 l = if Lib.indexByte l 10 = -1 then [] else l.drop (Lib.indexByte l 10 + 1).toNat := by
  induction l with
  | nil => simp [after10, Lib.indexByte]
  | cons b r ih =>
    have hg := Lib.indexByte_ge r 10
    by_cases hb : b = 10
    · subst hb; simp [after10, Lib.indexByte]
    · have e1 : Lib.indexByte (b :: r) 10 = if Lib.indexByte r 10 = -1 then -1 else Lib.indexByte r 10 + 1 := by
        rw [Lib.indexByte, if_neg (by simpa using hb)]; simp
      rw [after10, if_neg hb, ih, e1]
      by_cases hr : Lib.indexByte r 10 = -1
      · simp [hr]
      · rw [if_neg hr, if_neg hr, if_neg (by omega)]
        rw [show (Lib.indexByte r 10 + 1 + 1).toNat = (Lib.indexByte r 10 + 1).toNat + 1 by omega, List.drop_succ_cons]

/-- Where there is an end, none lies ahead of it. -/
theorem idxB_some : ∀ (l : List UInt8), 0 ≤ idxB l → (∀ b ∈ l.take (idxB l).toNat, isEnd b = false) ∧ (∃ b, l[(idxB l).toNat]? = some b ∧ isEnd b = true)
  | [], h => by simp [idxB] at h
  | b :: r, h => by
    by_cases hb : isEnd b = true
    · have e1 : idxB (b :: r) = 0 := by simp [idxB, hb]
      rw [e1]
      exact ⟨by simp, b, by simp, hb⟩
    · have hb' : isEnd b = false := by simpa using hb
      have hg := idxB_ge r
      have e1 : idxB (b :: r) = if idxB r = -1 then -1 else idxB r + 1 := by
        show (if isEnd b = true then 0 else _) = _
        rw [if_neg hb]
      by_cases hr : idxB r = -1
      · rw [e1, if_pos hr] at h; omega
      · rw [e1, if_neg hr]
        obtain ⟨h1, b', h2, h3⟩ := idxB_some r (by omega)
        rw [show (idxB r + 1).toNat = (idxB r).toNat + 1 by omega]
        refine ⟨fun c hc => ?_, b', by simpa using h2, h3⟩
        rw [List.take_succ_cons] at hc
        rcases List.mem_cons.1 hc with rfl | hc
        · exact hb'
        · exact h1 c hc
theorem idxB_none {l : List UInt8} (h : idxB l < 0) : ∀ b ∈ l, isEnd b = false := by
  intro b hb
  have h1 : ¬ (l.any isEnd = true) := fun h2 => by have := (idxB_iff l).2 h2; omega
  rw [List.any_eq_true] at h1
  cases he : isEnd b with
  | false => rfl
  | true => exact absurd ⟨b, hb, he⟩ h1
theorem idxB_lt {l : List UInt8} (h : 0 ≤ idxB l) : (idxB l).toNat < l.length := by
  obtain ⟨_, b, h2, _⟩ := idxB_some l h
  exact (List.getElem?_eq_some_iff.1 h2).1

theorem toks_last {l : List UInt8} (hl : l ≠ []) (h : idxB l < 0) : toks .out l = [l] := by
  have := toks_word (y := []) hl (idxB_none h) (by simp)
  simpa [toks] using this
theorem toks_next {l : List UInt8} (h : 0 < idxB l) : toks .out l = l.take (idxB l).toNat :: toks .out (l.drop (idxB l).toNat) := by
  obtain ⟨h1, b, h2, h3⟩ := idxB_some l (by omega)
  have hlt := idxB_lt (l := l) (by omega)
  have := toks_word (x := l.take (idxB l).toNat) (y := l.drop (idxB l).toNat) (by intro e; have := congrArg List.length e; rw [List.length_take] at this; simp only [List.length_nil] at this; omega) h1 (fun c hc => by
    rw [List.head?_drop, h2] at hc
    cases hc; exact h3)
  rwa [List.take_append_drop] at this
theorem toks_sign {b : UInt8} {r : List UInt8} (h : isEnd b = true) (h1 : isBlank b = false) (h2 : b ≠ 59) : toks .out (b :: r) = [b] :: toks .out r := by
  rcases isEnd_yes h with h3 | h3 | h3
  · rw [h1] at h3; cases h3
  · exact absurd h3 h2
  · simp [toks, h1, h2, h3]
theorem toks_rem (r : List UInt8) : toks .out (59 :: r) = toks .out (after10 (59 :: r)) := by
  have h1 : isBlank 59 = false := by decide
  have h2 : (59 : UInt8) ≠ 10 := by decide
  rw [toks, h1, if_neg (by decide), if_pos rfl, toks_note, after10, if_neg h2]

/-- The steps of words and signs, one behind the other. -/
def run : List Ts → List (List UInt8) → Except Int (List Ts)
  | st, [] => .ok st
  | st, s :: r => match step st ⟨s.toArray⟩ with
    | .ok st' => run st' r
    | .error n => .error n
/-- The trees of a text, or an error's number. -/
def readE (l : List UInt8) : Except Int Ts :=
  if 262144 < l.length then .error 3 else match run [.nil] (toks .out l) with
    | .ok [t] => .ok t
    | .ok _ => .error 4
    | .error n => .error n

/-- What holds of open rows behind k steps. -/
def Fit (k : Nat) (st : List Ts) : Prop := st ≠ [] ∧ st.length ≤ 401 ∧ ∀ u ∈ st, u.len ≤ k
theorem Fit.step {k : Nat} {st st' : List Ts} {s : ByteArray} (h : Fit k st) (hs : step st s = .ok st') : Fit (k + 1) st' := by
  obtain ⟨h0, h1, h2⟩ := h
  unfold YtgkmhdifjgpbeaaDoor.step at hs
  split at hs
  · split at hs
    · cases hs
      refine ⟨by simp, by simp; omega, fun u hu => ?_⟩
      rcases List.mem_cons.1 hu with rfl | hu
      · simp [Ts.len]
      · have := h2 u hu; omega
    · cases hs
  · split at hs
    · split at hs
      · rename_i t u r
        cases hs
        refine ⟨by simp, by simp at h1 ⊢; omega, fun x hx => ?_⟩
        rcases List.mem_cons.1 hx with rfl | hx
        · rw [Ts.snoc_len]; have := h2 u (by simp); omega
        · have := h2 x (by simp [hx]); omega
      · cases hs
    · split at hs
      · split at hs
        · rename_i t r hle
          cases hs
          refine ⟨by simp, by simpa using h1, fun x hx => ?_⟩
          rcases List.mem_cons.1 hx with rfl | hx
          · rw [Ts.snoc_len]; have := h2 t (by simp); omega
          · have := h2 x (by simp [hx]); omega
        · cases hs
      · cases hs
theorem Fit.start : Fit 0 [.nil] := ⟨by simp, by simp, by simp [Ts.len]⟩
end Go.Proofs.YtgkmhdifjgpbeaaDoor
