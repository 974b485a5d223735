/-
  Texts behind each other, remarks and blanks, a text within signs. Conditions: none (plain laws).
-/
import Derived.Test.YtgkmhdifjgpbeaaDoorLaws
namespace Go.Proofs.YtgkmhdifjgpbeaaDoor
open Go.RowKit

theorem toks_feed : ∀ (A : List UInt8) (m : Md) (B : List UInt8), toks m (A ++ 10 :: B) = toks m A ++ toks .out B
  | [], .out, B => by
    have h : isBlank 10 = true := by decide
    simp [toks, h]
  | [], .note, B => by simp [toks]
  | [], .word a, B => by
    have h : isBlank 10 = true := by decide
    simp [toks, h]
  | b :: r, .note, B => by
    simp only [List.cons_append, toks]
    split
    · exact toks_feed r .out B
    · exact toks_feed r .note B
  | b :: r, .out, B => by
    simp only [List.cons_append, toks]
    split
    · exact toks_feed r .out B
    · split
      · exact toks_feed r .note B
      · split
        · rw [toks_feed r .out B]; rfl
        · exact toks_feed r (.word [b]) B
  | b :: r, .word a, B => by
    simp only [List.cons_append, toks]
    split
    · rw [toks_feed r .out B]; rfl
    · split
      · rw [toks_feed r .note B]; rfl
      · split
        · rw [toks_feed r .out B]; rfl
        · exact toks_feed r (.word (a ++ [b])) B

theorem run_app : ∀ (L1 L2 : List (List UInt8)) (st : List Ts), run st (L1 ++ L2) = match run st L1 with
    | .ok st' => run st' L2
    | .error n => .error n
  | [], L2, st => by simp [run]
  | s :: r, L2, st => by
    simp only [List.cons_append, run]
    cases step st ⟨s.toArray⟩ with
    | ok st' => exact run_app r L2 st'
    | error n => rfl

/-- Trees ahead of the outermost row. -/
def addB (x : Ts) : List Ts → List Ts
  | [] => []
  | [u] => [x.app u]
  | u :: v :: r => u :: addB x (v :: r)
theorem addB_len (x : Ts) : ∀ st : List Ts, (addB x st).length = st.length
  | [] => rfl
  | [u] => rfl
  | u :: v :: r => by simp [addB, addB_len x (v :: r)]
theorem addB_cons {x u : Ts} {st : List Ts} (h : st ≠ []) : addB x (u :: st) = u :: addB x st := by
  cases st with
  | nil => exact absurd rfl h
  | cons v r => rfl
theorem app_snoc (x u : Ts) (w : ByteArray) (k : Ts) : (x.app u).snoc w k = x.app (u.snoc w k) := by
  unfold Ts.snoc
  induction x with
  | nil => rfl
  | cons w' x' r' _ ih => simp [Ts.app, ih]
theorem step_addB {x : Ts} {st st' : List Ts} {s : ByteArray} (hne : st ≠ []) (h : step st s = .ok st') : step (addB x st) s = .ok (addB x st') ∧ st' ≠ [] := by
  unfold step at h ⊢
  split at h
  · rename_i h1
    rw [if_pos h1, addB_len]
    split at h
    · rename_i h2
      cases h
      rw [if_pos h2]
      exact ⟨by rw [addB_cons hne], by simp⟩
    · cases h
  · rename_i h1
    rw [if_neg h1]
    split at h
    · rename_i h2
      rw [if_pos h2]
      split at h
      · rename_i t u r
        cases h
        cases r with
        | nil => exact ⟨by simp [addB, app_snoc], by simp⟩
        | cons v r => exact ⟨by simp [addB], by simp⟩
      · cases h
    · rename_i h2
      rw [if_neg h2, addB_len]
      split at h
      · rename_i h3
        rw [if_pos h3]
        split at h
        · rename_i t r
          cases h
          cases r with
          | nil => exact ⟨by simp [addB, app_snoc], by simp⟩
          | cons v r => exact ⟨by simp [addB], by simp⟩
        · cases h
      · cases h
theorem run_addB {x : Ts} : ∀ {L : List (List UInt8)} {st st' : List Ts}, st ≠ [] → run st L = .ok st' → run (addB x st) L = .ok (addB x st')
  | [], st, st', _, h => by simp [run] at h ⊢; rw [h]
  | s :: r, st, st', hne, h => by
    rw [run] at h
    cases hs : step st ⟨s.toArray⟩ with
    | error m => rw [hs] at h; cases h
    | ok st1 =>
      rw [hs] at h
      obtain ⟨h1, h2⟩ := step_addB (x := x) hne hs
      rw [run, h1]
      exact run_addB h2 h

theorem readE_parts {l : List UInt8} {t : Ts} (h : readE l = .ok t) : l.length ≤ 262144 ∧ run [.nil] (toks .out l) = .ok [t] := by
  unfold readE at h
  split at h
  · cases h
  · rename_i h1
    split at h
    · rename_i hr; cases h; exact ⟨by omega, hr⟩
    · cases h
    · cases h
/-- Two texts behind each other. -/
theorem read_both {A B : List UInt8} {x y : Ts} (hx : readE A = .ok x) (hy : readE B = .ok y) (hl : A.length + B.length ≤ 262143) : readE (A ++ 10 :: B) = .ok (x.app y) := by
  obtain ⟨-, h1⟩ := readE_parts hx
  obtain ⟨-, h2⟩ := readE_parts hy
  refine readE_one (by simp; omega) ?_
  rw [toks_feed, run_app, h1]
  have h3 := run_addB (x := x) (by simp) h2
  simp only [addB, Ts.app_nil] at h3
  exact h3
/-- A remark in front, blanks at the ends. -/
theorem read_more {A : List UInt8} (hl : A.length ≤ 262000) : readE (59 :: 120 :: 40 :: 59 :: 10 :: 32 :: 9 :: (A ++ [10, 13, 32])) = readE A := by
  have h1 : isBlank 59 = false := by decide
  have h2 : isBlank 32 = true := by decide
  have h3 : isBlank 9 = true := by decide
  have h4 : isBlank 13 = true := by decide
  have e : toks .out (59 :: 120 :: 40 :: 59 :: 10 :: 32 :: 9 :: (A ++ [10, 13, 32])) = toks .out A := by
    have e1 : toks .out (59 :: 120 :: 40 :: 59 :: 10 :: 32 :: 9 :: (A ++ [10, 13, 32])) = toks .out (A ++ [10, 13, 32]) := by
      simp [toks, h1, h2, h3]
    rw [e1, toks_feed]
    simp [toks, h2, h4]
  unfold readE
  rw [e, if_neg (by simp; omega), if_neg (by omega)]

/-- How deep what is open will be at least. -/
def reach : List Ts → Nat
  | [] => 0
  | u :: r => max (u.deep + r.length) (reach r)
theorem step_reach {st st' : List Ts} {s : ByteArray} (h : step st s = .ok st') : reach st ≤ reach st' := by
  unfold step at h
  split at h
  · split at h
    · cases h; simp [reach]; omega
    · cases h
  · split at h
    · split at h
      · cases h; simp [reach, Ts.deep_snoc]; omega
      · cases h
    · split at h
      · split at h
        · cases h; simp [reach, Ts.deep_snoc]; omega
        · cases h
      · cases h
theorem run_reach : ∀ {L : List (List UInt8)} {st st' : List Ts}, run st L = .ok st' → reach st ≤ reach st'
  | [], st, st', h => by simp [run] at h; subst h; exact Nat.le_refl _
  | s :: r, st, st', h => by
    rw [run] at h
    cases hs : step st ⟨s.toArray⟩ with
    | error m => rw [hs] at h; cases h
    | ok st1 => rw [hs] at h; exact Nat.le_trans (step_reach hs) (run_reach h)
theorem step_deeper {z : Ts} {st st' : List Ts} {s : ByteArray} (h : step st s = .ok st') : (reach st' ≤ 399 → step (st ++ [z]) s = .ok (st' ++ [z])) ∧ (reach st ≤ 399 → 400 ≤ reach st' → step (st ++ [z]) s = .error 3) := by
  unfold step at h ⊢
  split at h
  · rename_i h1
    split at h
    · cases h
      refine ⟨fun hr => ?_, fun h2 h3 => ?_⟩
      · simp [reach, Ts.deep] at hr
        rw [if_pos h1, if_pos (by simp; omega)]; rfl
      · simp [reach, Ts.deep] at h3
        rw [if_pos h1, if_neg (by simp; omega)]
    · cases h
  · rename_i h1
    split at h
    · rename_i h2
      split at h
      · rename_i t u r
        cases h
        refine ⟨fun _ => ?_, fun h3 h4 => ?_⟩
        · rw [if_neg h1, if_pos h2]; rfl
        · simp [reach, Ts.deep_snoc] at h3 h4
          omega
      · cases h
    · rename_i h2
      split at h
      · split at h
        · rename_i t r
          cases h
          refine ⟨fun hr => ?_, fun h3 h4 => ?_⟩
          · simp [reach, Ts.deep_snoc, Ts.deep] at hr
            rw [if_neg h1, if_neg h2, if_pos (by simp; omega)]; rfl
          · simp [reach, Ts.deep_snoc, Ts.deep] at h3 h4
            rw [if_neg h1, if_neg h2, if_neg (by simp; omega)]
        · cases h
      · cases h
theorem run_deeper {z : Ts} : ∀ {L : List (List UInt8)} {st st' : List Ts}, run st L = .ok st' → (reach st' ≤ 399 → run (st ++ [z]) L = .ok (st' ++ [z])) ∧ (reach st ≤ 399 → 400 ≤ reach st' → run (st ++ [z]) L = .error 3)
  | [], st, st', h => by
    simp [run] at h; subst h
    exact ⟨fun _ => rfl, fun h1 h2 => by omega⟩
  | s :: r, st, st', h => by
    rw [run] at h
    cases hs : step st ⟨s.toArray⟩ with
    | error m => rw [hs] at h; cases h
    | ok st1 =>
      rw [hs] at h
      obtain ⟨a1, a2⟩ := step_deeper (z := z) hs
      obtain ⟨b1, b2⟩ := run_deeper (z := z) h
      have hm := run_reach h
      refine ⟨fun hr => ?_, fun h1 h2 => ?_⟩
      · rw [run, a1 (by omega)]; exact b1 hr
      · by_cases h3 : reach st1 ≤ 399
        · rw [run, a1 h3]; exact b2 h3 h2
        · rw [run, a2 h1 (by omega)]
/-- A text within signs. -/
theorem read_within {A : List UInt8} {x : Ts} (hx : readE A = .ok x) (hl : A.length ≤ 262000) : readE (40 :: (A ++ [10, 41])) = if 400 ≤ x.deep then .error 3 else .ok (.cons ⟨#[]⟩ x .nil) := by
  obtain ⟨-, h1⟩ := readE_parts hx
  have e : toks .out (40 :: (A ++ [10, 41])) = [40] :: (toks .out A ++ [[41]]) := by
    rw [toks_open, toks_feed, toks_shut]; rfl
  obtain ⟨d1, d2⟩ := run_deeper (z := .nil) h1
  have h2 : run [.nil] ([40] :: (toks .out A ++ [[41]])) = run [.nil, .nil] (toks .out A ++ [[41]]) := by rw [run, step_open (by simp)]
  have hr : reach [x] = x.deep := by simp [reach]
  rw [hr] at d1 d2
  by_cases hd : 400 ≤ x.deep
  · rw [if_pos hd]
    unfold readE
    rw [if_neg (by simp; omega), e, h2, run_app, show ([Ts.nil, .nil] : List Ts) = [.nil] ++ [.nil] from rfl, d2 (by simp [reach, Ts.deep]) hd]
  · rw [if_neg hd]
    refine readE_one (by simp; omega) ?_
    rw [e, h2, run_app, show ([Ts.nil, .nil] : List Ts) = [.nil] ++ [.nil] from rfl, d1 (by omega)]
    simp only [List.cons_append, List.nil_append, run, step_shut]
    rfl
end Go.Proofs.YtgkmhdifjgpbeaaDoor
