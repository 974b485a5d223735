/-
  What is written is read as the trees; what is read can be written. Conditions: none (plain laws).
-/
import Derived.Test.YtgkmhdifjgpbeaaDoorRead
import Derived.Test.YtgkmhdifjgpbeaaDoorWrite
namespace Go.Proofs.YtgkmhdifjgpbeaaDoor
open Go.RowKit

/-- The words and signs of trees. -/
def Ts.tk : Ts → List (List UInt8)
  | .nil => []
  | .cons w x r => (if w.size = 0 then [40] :: (x.tk ++ [[41]]) else [w.data.toList]) ++ r.tk

theorem size_list (w : ByteArray) : w.data.toList.length = w.size := by rw [Array.length_toList]; rfl
theorem size_zero {w : ByteArray} (h : w.size = 0) : w = ⟨#[]⟩ := by
  have : w.data = #[] := Array.eq_empty_of_size_eq_zero h
  cases w; simp at this; subst this; rfl
theorem Ts.len_zero {t : Ts} (h : t.len = 0) : t = .nil := by
  cases t with
  | nil => rfl
  | cons => simp [Ts.len] at h
theorem Ts.snoc_app (u : Ts) (w : ByteArray) (x r : Ts) : (u.snoc w x).app r = u.app (.cons w x r) := by
  unfold Ts.snoc
  induction u with
  | nil => rfl
  | cons w' x' r' _ ih => simp [Ts.app, ih]
theorem okOne_parts {w : ByteArray} {x : Ts} (h : okOne w x = true) : (∀ b ∈ w.data.toList, isEnd b = false) ∧ (w.size = 0 ∨ x = .nil) := by
  unfold okOne at h
  simp only [Bool.and_eq_true, Bool.not_eq_true', Bool.or_eq_true, beq_iff_eq] at h
  refine ⟨fun b hb => ?_, h.2.imp_right Ts.len_zero⟩
  cases he : isEnd b with
  | false => rfl
  | true => rw [List.any_eq_true.2 ⟨b, hb, he⟩] at h; exact absurd h.1 (by decide)

theorem toks_blank (y : List UInt8) : toks .out (32 :: y) = toks .out y := by
  have h : isBlank 32 = true := by decide
  simp [toks, h]
theorem toks_open (y : List UInt8) : toks .out (40 :: y) = [40] :: toks .out y := toks_sign (by decide) (by decide) (by decide)
theorem toks_shut (y : List UInt8) : toks .out (41 :: y) = [41] :: toks .out y := toks_sign (by decide) (by decide) (by decide)

theorem toks_txt : ∀ (t : Ts) (f : Bool) (rest : List UInt8), t.right = true → (∀ b, rest.head? = some b → isEnd b = true) → toks .out (t.txt f ++ rest) = t.tk ++ toks .out rest
  | .nil, f, rest, _, _ => by simp [Ts.txt, Ts.tk]
  | .cons w x r, f, rest, h, hr => by
    simp only [Ts.right, Bool.and_eq_true] at h
    obtain ⟨⟨h1, h2⟩, h3⟩ := h
    obtain ⟨hw, hx⟩ := okOne_parts h1
    have hsep : ∀ y, toks .out ((if f = true then [] else [32]) ++ y) = toks .out y := fun y => by
      cases f
      · exact toks_blank y
      · rfl
    have hhead : ∀ b, (Ts.txt false r ++ rest).head? = some b → isEnd b = true := by
      cases r with
      | nil => exact hr
      | cons w' x' r' =>
        intro b hb
        simp [Ts.txt] at hb
        subst hb
        decide
    rw [Ts.txt, List.append_assoc, List.append_assoc, hsep]
    by_cases hz : w.size = 0
    · rw [if_pos hz, Ts.tk, if_pos hz, List.cons_append, toks_open, List.append_assoc, toks_txt x true _ h2 (by
        intro b hb
        simp at hb
        subst hb
        decide), List.singleton_append, toks_shut, toks_txt r false rest h3 hr]
      simp
    · rw [if_neg hz, Ts.tk, if_neg hz, toks_word (by intro e; have := size_list w; rw [e] at this; simp at this; omega) hw hhead, toks_txt r false rest h3 hr]
      rfl

theorem step_open {st : List Ts} (h : st.length ≤ 400) : step st ⟨[40].toArray⟩ = .ok (.nil :: st) := by
  unfold step; rw [if_pos rfl, if_pos h]
theorem step_shut {t u : Ts} {st : List Ts} : step (t :: u :: st) ⟨[41].toArray⟩ = .ok (u.snoc ⟨#[]⟩ t :: st) := by
  unfold step; rw [if_neg (by decide), if_pos rfl]
theorem step_word {t : Ts} {st : List Ts} {w : ByteArray} (h : (t :: st).length ≤ 400) (hw : ∀ b ∈ w.data.toList, isEnd b = false) : step (t :: st) ⟨w.data.toList.toArray⟩ = .ok (t.snoc w .nil :: st) := by
  have e : (⟨w.data.toList.toArray⟩ : ByteArray) = w := rfl
  rw [e]
  have h1 : ¬ w.data.toList = [40] := fun e => by have := hw 40 (by rw [e]; simp); exact absurd this (by decide)
  have h2 : ¬ w.data.toList = [41] := fun e => by have := hw 41 (by rw [e]; simp); exact absurd this (by decide)
  unfold step
  rw [if_neg h1, if_neg h2, if_pos h]

theorem run_tk : ∀ (t u : Ts) (st : List Ts) (more : List (List UInt8)), t.right = true → t.deep + (st.length + 1) ≤ 401 → run (u :: st) (t.tk ++ more) = run (u.app t :: st) more
  | .nil, u, st, more, _, _ => by rw [Ts.app_nil]; rfl
  | .cons w x r, u, st, more, h, hd => by
    simp only [Ts.right, Bool.and_eq_true] at h
    obtain ⟨⟨h1, h2⟩, h3⟩ := h
    obtain ⟨hw, hx⟩ := okOne_parts h1
    simp only [Ts.deep] at hd
    have hd1 : x.deep + 1 + (st.length + 1) ≤ 401 := by omega
    have hd2 : r.deep + (st.length + 1) ≤ 401 := by omega
    by_cases hz : w.size = 0
    · have hw0 := size_zero hz
      rw [Ts.tk, if_pos hz, List.cons_append, List.cons_append, run, step_open (by simp; omega)]
      simp only [List.append_assoc]
      rw [run_tk x .nil (u :: st) _ h2 (by simp; omega), List.singleton_append, run]
      rw [show Ts.nil.app x = x from rfl, step_shut]
      simp only
      rw [run_tk r (u.snoc ⟨#[]⟩ x) st more h3 hd2, Ts.snoc_app, ← hw0]
    · rw [Ts.tk, if_neg hz, List.singleton_append, List.cons_append, run, step_word (by simp; omega) hw]
      simp only
      rw [run_tk r _ st more h3 hd2, Ts.snoc_app]
      rcases hx with h | rfl
      · exact absurd h hz
      · rfl

/-- What is written is read as the trees. -/
theorem read_written {t : Ts} (h : wErr t = 0) : readE (t.txt true) = .ok t := by
  unfold wErr at h
  split at h
  · cases h
  · rename_i h1
    split at h
    · cases h
    · rename_i h2
      split at h
      · cases h
      · rename_i h3
        have hr : t.right = true := by simpa using h1
        refine readE_one (by omega) ?_
        have e := toks_txt t true [] hr (by simp)
        rw [List.append_nil] at e
        have e2 := run_tk t .nil [] [] hr (by simp; omega)
        rw [e]
        simp only [toks]
        rw [e2]
        rfl

/-- A word, or a sign. -/
def GoodTok (s : List UInt8) : Prop := s = [40] ∨ s = [41] ∨ (s ≠ [] ∧ ∀ b ∈ s, isEnd b = false)
theorem sign_tok {b : UInt8} (h : isSign b = true) : GoodTok [b] := by
  unfold isSign at h
  simp only [Bool.or_eq_true, beq_iff_eq] at h
  rcases h with rfl | rfl
  · exact .inl rfl
  · exact .inr (.inl rfl)
theorem not_end {b : UInt8} (h1 : isBlank b = false) (h2 : b ≠ 59) (h3 : isSign b = false) : isEnd b = false := by
  rw [isEnd_parts, h1, h3]; simpa using h2

def GoodMd : Md → Prop
  | .word a => a ≠ [] ∧ ∀ b ∈ a, isEnd b = false
  | _ => True
theorem toks_good : ∀ (l : List UInt8) (m : Md), GoodMd m → ∀ s ∈ toks m l, GoodTok s
  | [], .out, _ => by simp [toks]
  | [], .note, _ => by simp [toks]
  | [], .word a, hm => by
    intro s hs
    simp [toks] at hs
    subst hs
    exact .inr (.inr hm)
  | b :: r, .note, _ => by
    intro s hs
    simp only [toks] at hs
    split at hs
    · exact toks_good r .out trivial s hs
    · exact toks_good r .note trivial s hs
  | b :: r, .out, _ => by
    intro s hs
    simp only [toks] at hs
    split at hs
    · exact toks_good r .out trivial s hs
    · rename_i h1
      split at hs
      · exact toks_good r .note trivial s hs
      · rename_i h2
        split at hs
        · rename_i h3
          rcases List.mem_cons.1 hs with rfl | hs
          · exact sign_tok h3
          · exact toks_good r .out trivial s hs
        · rename_i h3
          exact toks_good r (.word [b]) ⟨by simp, by intro c hc; simp at hc; subst hc; exact not_end (by simpa using h1) h2 (by simpa using h3)⟩ s hs
  | b :: r, .word a, hm => by
    intro s hs
    simp only [toks] at hs
    split at hs
    · rcases List.mem_cons.1 hs with rfl | hs
      · exact .inr (.inr hm)
      · exact toks_good r .out trivial s hs
    · rename_i h1
      split at hs
      · rcases List.mem_cons.1 hs with rfl | hs
        · exact .inr (.inr hm)
        · exact toks_good r .note trivial s hs
      · rename_i h2
        split at hs
        · rename_i h3
          rcases List.mem_cons.1 hs with rfl | hs
          · exact .inr (.inr hm)
          · rcases List.mem_cons.1 hs with rfl | hs
            · exact sign_tok h3
            · exact toks_good r .out trivial s hs
        · rename_i h3
          exact toks_good r (.word (a ++ [b])) ⟨by simp, by
            intro c hc
            rcases List.mem_append.1 hc with hc | hc
            · exact hm.2 c hc
            · simp at hc; subst hc; exact not_end (by simpa using h1) h2 (by simpa using h3)⟩ s hs

def total : List (List UInt8) → Nat
  | [] => 0
  | s :: r => s.length + total r
theorem toks_total : ∀ (l : List UInt8) (m : Md), total (toks m l) ≤ l.length + (match m with | .word a => a.length | _ => 0)
  | [], .out => by simp [toks, total]
  | [], .note => by simp [toks, total]
  | [], .word a => by simp [toks, total]
  | b :: r, .note => by
    have h1 := toks_total r .out
    have h2 := toks_total r .note
    simp only [toks]
    split <;> simp at h1 h2 ⊢ <;> omega
  | b :: r, .out => by
    have h1 := toks_total r .out
    have h2 := toks_total r .note
    have h3 := toks_total r (.word [b])
    simp only [toks]
    split
    · simp at h1 ⊢; omega
    · split
      · simp at h2 ⊢; omega
      · split
        · simp [total] at h1 ⊢; omega
        · simp at h3 ⊢; omega
  | b :: r, .word a => by
    have h1 := toks_total r .out
    have h2 := toks_total r .note
    have h3 := toks_total r (.word (a ++ [b]))
    simp only [toks]
    split
    · simp [total] at h1 ⊢; omega
    · split
      · simp [total] at h2 ⊢; omega
      · split
        · simp [total] at h1 ⊢; omega
        · simp at h3 ⊢; omega

/-- What holds of open rows: right, not too deep. -/
def Well : List Ts → Prop
  | [] => True
  | u :: r => u.right = true ∧ u.deep + r.length ≤ 400 ∧ Well r
/-- How long their texts are. -/
def longs : List Ts → Nat
  | [] => 0
  | u :: r => (u.txt false).length + longs r

theorem Ts.deep_app (x y : Ts) : (x.app y).deep = max x.deep y.deep := by
  induction x with
  | nil => simp [Ts.app, Ts.deep]
  | cons w k r _ ih => simp [Ts.app, Ts.deep, ih, Nat.max_assoc]
theorem Ts.deep_snoc (x : Ts) (w : ByteArray) (k : Ts) : (x.snoc w k).deep = max x.deep (k.deep + 1) := by
  unfold Ts.snoc; rw [Ts.deep_app]; simp [Ts.deep]
theorem Ts.right_snoc (x : Ts) (w : ByteArray) (k : Ts) : (x.snoc w k).right = (x.right && (okOne w k && k.right)) := by
  unfold Ts.snoc; rw [Ts.right_app]; simp [Ts.right]
theorem Ts.txtf_app (x y : Ts) : ((x.app y).txt false) = x.txt false ++ y.txt false := by
  induction x with
  | nil => simp [Ts.app, Ts.txt]
  | cons w k r _ ih => simp [Ts.app, Ts.txt, ih]
theorem Ts.txtf_le (x : Ts) : (x.txt true).length ≤ (x.txt false).length := by
  cases x with
  | nil => simp [Ts.txt]
  | cons w k r => simp [Ts.txt]
theorem Ts.txt_snoc (x : Ts) (w : ByteArray) (k : Ts) : ((x.snoc w k).txt false).length ≤ (x.txt false).length + 1 + (if w.size = 0 then 2 + (k.txt false).length else w.size) := by
  unfold Ts.snoc
  rw [Ts.txtf_app]
  have h := Ts.txtf_le k
  have hs := size_list w
  by_cases hz : w.size = 0
  · simp [Ts.txt, hz]; omega
  · simp [Ts.txt, hz]; omega

theorem okOne_list (k : Ts) : okOne ⟨#[]⟩ k = true := by unfold okOne; rfl
theorem okOne_word {w : ByteArray} (hw : ∀ b ∈ w.data.toList, isEnd b = false) : okOne w .nil = true := by
  unfold okOne
  have : w.data.toList.any isEnd = false := by
    rw [Bool.eq_false_iff]
    intro h
    obtain ⟨b, hb, he⟩ := List.any_eq_true.1 h
    rw [hw b hb] at he; cases he
  rw [this]
  simp [Ts.len]

theorem step_well {st st' : List Ts} {s : List UInt8} (hs : GoodTok s) (h : step st ⟨s.toArray⟩ = .ok st') (hw : Well st) : Well st' ∧ longs st' ≤ longs st + 3 * s.length := by
  unfold step at h
  split at h
  · split at h
    · cases h
      refine ⟨⟨rfl, by simp [Ts.deep]; omega, hw⟩, by simp [longs, Ts.txt]⟩
    · cases h
  · rename_i n40
    split at h
    · rename_i h41
      split at h
      · rename_i t u r
        cases h
        obtain ⟨w1, w2, w3, w4, w5⟩ := hw
        have hl : s.length = 1 := by have := congrArg List.length h41; simpa using this
        refine ⟨⟨by rw [Ts.right_snoc, w3, w1, okOne_list]; rfl, by rw [Ts.deep_snoc]; simp at w2; omega, w5⟩, ?_⟩
        have h1 := Ts.txt_snoc u ⟨#[]⟩ t
        rw [if_pos (show (⟨#[]⟩ : ByteArray).size = 0 from rfl)] at h1
        simp only [longs]
        omega
      · cases h
    · rename_i n41
      split at h
      · rename_i hle
        split at h
        · rename_i t r
          cases h
          obtain ⟨w1, w2, w3⟩ := hw
          have hg : s ≠ [] ∧ ∀ b ∈ s, isEnd b = false := by
            rcases hs with rfl | rfl | hs
            · exact absurd rfl n40
            · exact absurd rfl n41
            · exact hs
          have hsz : (⟨s.toArray⟩ : ByteArray).size = s.length := by simp [ByteArray.size]
          have hpos : 0 < s.length := List.length_pos_iff.2 hg.1
          refine ⟨⟨by rw [Ts.right_snoc, w1, okOne_word (w := ⟨s.toArray⟩) (by simpa using hg.2)]; rfl, by rw [Ts.deep_snoc]; simp [Ts.deep] at hle ⊢; omega, w3⟩, ?_⟩
          have h1 := Ts.txt_snoc t ⟨s.toArray⟩ .nil
          rw [if_neg (by omega), hsz] at h1
          simp only [longs]
          omega
        · cases h
      · cases h
theorem run_well : ∀ {L : List (List UInt8)} {st st' : List Ts}, (∀ s ∈ L, GoodTok s) → run st L = .ok st' → Well st → Well st' ∧ longs st' ≤ longs st + 3 * total L
  | [], st, st', _, h, hw => by
    simp [run] at h; subst h; exact ⟨hw, by simp [total]⟩
  | s :: r, st, st', hg, h, hw => by
    rw [run] at h
    cases hs : step st ⟨s.toArray⟩ with
    | error m => rw [hs] at h; cases h
    | ok st1 =>
      rw [hs] at h
      obtain ⟨h1, h2⟩ := step_well (hg s List.mem_cons_self) hs hw
      obtain ⟨h3, h4⟩ := run_well (fun x hx => hg x (List.mem_cons_of_mem _ hx)) h h1
      exact ⟨h3, by simp [total]; omega⟩

/-- What is read: right trees, not too deep, not too long. -/
theorem read_well {l : List UInt8} {t : Ts} (h : readE l = .ok t) : t.right = true ∧ t.deep ≤ 400 ∧ (t.txt true).length ≤ 3 * l.length := by
  unfold readE at h
  split at h
  · cases h
  · split at h
    · rename_i t' hr
      cases h
      obtain ⟨h1, h2⟩ := run_well (toks_good l .out trivial) hr ⟨rfl, by simp [Ts.deep], trivial⟩
      have h3 := toks_total l .out
      have h4 := Ts.txtf_le t
      simp [longs, Ts.txt] at h2 h3
      exact ⟨h1.1, by have := h1.2.1; simpa using this, by omega⟩
    · cases h
    · cases h
theorem wErr_read {l : List UInt8} {t : Ts} (h : readE l = .ok t) (hl : l.length ≤ 80000) : wErr t = 0 := by
  obtain ⟨h1, h2, h3⟩ := read_well h
  unfold wErr
  rw [h1, if_neg (by decide), if_neg (by omega), if_neg (by omega)]
end Go.Proofs.YtgkmhdifjgpbeaaDoor
