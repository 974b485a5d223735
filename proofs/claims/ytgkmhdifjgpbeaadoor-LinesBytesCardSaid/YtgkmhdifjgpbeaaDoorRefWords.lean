/-
  The words and the signs of a text, as the document goes through them. Conditions: a text of 262144 bytes at most.
-/
import Derived.Test.YtgkmhdifjgpbeaaDoorToks
import Derived.Test.YtgkmhdifjgpbeaaDoorRefBytes
import Derived.Test.YtgkmhdifjgpbeaaDoorCut
import Derived.Test.YtgkmhdifjgpbeaaDoorCopied
import Derived.OwnWalk
namespace Go.Proofs.YtgkmhdifjgpbeaaDoor
open Go.RowKit

def strOf (l : List UInt8) : Value := .string ⟨l.toArray⟩
/-- A row of words of the call's own. -/
def WRow (w : World) (base : Nat) (v : Value) (L : List (List UInt8)) : Prop := w.ownsRow base 9 1 v L.length (L.map strOf)

theorem info9 : (Tryd.prog.info? 9).map (fun i => (i.zero, i.size, i.bytes)) = some (some (.string ⟨#[]⟩), 1, 16) := by kernel_rfl

theorem extract_mid (s : ByteArray) (k m : Nat) : (s.extract k (k + m)).data.toList = (s.data.toList.drop k).take m := by
  rw [ByteArray.data_extract, Array.toList_extract]
  simp [List.extract_eq_take_drop]
theorem strOf_mid (s : ByteArray) (k m : Nat) : strOf ((s.data.toList.drop k).take m) = .string (s.extract k (k + m)) := by
  unfold strOf
  rw [← extract_mid]

theorem drop_at {s : ByteArray} {k : Nat} (h : k < s.size) : s.data.toList.drop k = s[k]'h :: s.data.toList.drop (k + 1) := by
  have hl : k < s.data.toList.length := by rw [Array.length_toList]; exact h
  rw [List.drop_eq_getElem_cons hl]
  rfl

/-- Where the words of a text stand behind k of its bytes. -/
def WAt (s : ByteArray) (k : Nat) (L : List (List UInt8)) : Prop := toks .out s.data.toList = L ++ toks .out (s.data.toList.drop k) ∧ L.length ≤ k

theorem WAt.blank {s : ByteArray} {k : Nat} {L : List (List UInt8)} (h : WAt s k L) (hk : k < s.size) (hb : isBlank (s[k]'hk) = true) : WAt s (k + 1) L := by
  obtain ⟨h1, h2⟩ := h
  rw [drop_at hk] at h1
  rw [toks, hb, if_pos rfl] at h1
  exact ⟨h1, by omega⟩
theorem WAt.sign {s : ByteArray} {k : Nat} {L : List (List UInt8)} (h : WAt s k L) (hk : k < s.size) (hb : isBlank (s[k]'hk) = false) (h59 : s[k]'hk ≠ 59) (hs : isSign (s[k]'hk) = true) : WAt s (k + 1) (L ++ [(s.data.toList.drop k).take 1]) := by
  obtain ⟨h1, h2⟩ := h
  rw [drop_at hk] at h1 ⊢
  rw [toks, hb, if_neg (by decide), if_neg h59, if_pos hs] at h1
  refine ⟨by rw [h1, List.take_succ_cons, List.take_zero, List.append_assoc]; rfl, by simp; omega⟩
theorem WAt.note {s : ByteArray} {k j : Nat} {L : List (List UInt8)} (h : WAt s k L) (hk : k < s.size) (h59 : s[k]'hk = 59) (hkj : k ≤ j) (hj : toks .note (s.data.toList.drop k) = toks .note (s.data.toList.drop j)) (he : (∃ hj : j < s.size, s[j]'hj = 10) ∨ s.size ≤ j) : WAt s j L := by
  obtain ⟨h1, h2⟩ := h
  refine ⟨?_, by omega⟩
  rw [h1]
  congr 1
  have e1 : toks .out (s.data.toList.drop k) = toks .note (s.data.toList.drop k) := by
    rw [drop_at hk, h59]
    have hb : isBlank 59 = false := by decide
    simp [toks, hb]
  rw [e1, hj]
  rcases he with ⟨hj2, h10⟩ | hj2
  · rw [drop_at hj2, h10]
    have hb : isBlank 10 = true := by decide
    simp [toks, hb]
  · rw [List.drop_of_length_le (by rw [Array.length_toList]; exact hj2)]; rfl
theorem WAt.word {s : ByteArray} {k m : Nat} {L : List (List UInt8)} (h : WAt s k L) (hm : 0 < m) (hk : k + m ≤ s.size) (hw : ∀ b ∈ (s.data.toList.drop k).take m, isEnd b = false)
    (he : ∀ h : k + m < s.size, isEnd (s[k + m]'h) = true) : WAt s (k + m) (L ++ [(s.data.toList.drop k).take m]) := by
  obtain ⟨h1, h2⟩ := h
  refine ⟨?_, by simp; omega⟩
  have hd : (s.data.toList.drop k).drop m = s.data.toList.drop (k + m) := by rw [List.drop_drop]
  have hl : ((s.data.toList.drop k).take m).length = m := by rw [List.length_take, List.length_drop, Array.length_toList]; have : s.data.size = s.size := rfl; omega
  have := toks_word (x := (s.data.toList.drop k).take m) (y := s.data.toList.drop (k + m)) (by intro e; rw [e] at hl; simp at hl; omega) hw (fun b hb => by
    by_cases h : k + m < s.size
    · rw [drop_at h] at hb; cases hb; exact he h
    · rw [List.drop_of_length_le (by rw [Array.length_toList]; have : s.data.size = s.size := rfl; omega)] at hb; cases hb)
  rw [← hd, List.take_append_drop, hd] at this
  rw [h1, this, List.append_assoc]; rfl
theorem note_step {s : ByteArray} {j : Nat} (h : j < s.size) (h10 : s[j]'h ≠ 10) : toks .note (s.data.toList.drop j) = toks .note (s.data.toList.drop (j + 1)) := by
  rw [drop_at h, toks, if_neg h10]
theorem word_step {s : ByteArray} {k m : Nat} (h : k + m < s.size) (hw : ∀ b ∈ (s.data.toList.drop k).take m, isEnd b = false) (he : isEnd (s[k + m]'h) = false) : ∀ b ∈ (s.data.toList.drop k).take (m + 1), isEnd b = false := by
  intro b hb
  rw [List.take_succ_eq_append_getElem (by rw [List.length_drop, Array.length_toList]; have : s.data.size = s.size := rfl; omega)] at hb
  rcases List.mem_append.1 hb with h1 | h1
  · exact hw b h1
  · simp at h1; subst h1; exact he

theorem word_stepJ {s : ByteArray} {k j : Nat} (hkj : k ≤ j) (h : j < s.size) (hw : ∀ b ∈ (s.data.toList.drop k).take (j - k), isEnd b = false) (he : isEnd (s[j]'h) = false) : ∀ b ∈ (s.data.toList.drop k).take (j + 1 - k), isEnd b = false := by
  obtain ⟨m, rfl⟩ : ∃ m, j = k + m := ⟨j - k, by omega⟩
  rw [show k + m - k = m by omega] at hw
  rw [show k + m + 1 - k = m + 1 by omega]
  exact word_step h hw he
theorem WAt.wordJ {s : ByteArray} {k j : Nat} {L : List (List UInt8)} (h : WAt s k L) (hm : k < j) (hk : j ≤ s.size) (hw : ∀ b ∈ (s.data.toList.drop k).take (j - k), isEnd b = false)
    (he : ∀ h : j < s.size, isEnd (s[j]'h) = true) : WAt s j (L ++ [(s.data.toList.drop k).take (j - k)]) := by
  obtain ⟨m, rfl⟩ : ∃ m, j = k + m := ⟨j - k, by omega⟩
  rw [show k + m - k = m by omega] at hw ⊢
  exact h.word (by omega) hk hw he
theorem strOf_midJ (s : ByteArray) {k j : Nat} (h : k ≤ j) : strOf ((s.data.toList.drop k).take (j - k)) = .string (s.extract k j) := by
  obtain ⟨m, rfl⟩ : ∃ m, j = k + m := ⟨j - k, by omega⟩
  rw [show k + m - k = m by omega]
  exact strOf_mid s k m

theorem exit_word {s : ByteArray} {k j : Nat} {L : List (List UInt8)} (hkj : k ≤ j) (hj : j ≤ s.size) (hw : ∀ b ∈ (s.data.toList.drop k).take (j - k), isEnd b = false) (h : WAt s k L) (hk : k < s.size) (hb : isBlank (s[k]'hk) = false) (hs : isSign (s[k]'hk) = false) (h59 : ¬ s[k]'hk = 59)
    (he : ∀ h : j < s.size, isEnd (s[j]'h) = true) : k < j ∧ WAt s j (L ++ [(s.data.toList.drop k).take (j - k)]) := by
  have hlt : k < j := by
    rcases Nat.lt_or_ge k j with h1 | h1
    · exact h1
    · obtain rfl : k = j := by omega
      have h2 := he hk
      rw [isEnd_parts, hb, hs] at h2
      simp at h2
      exact absurd h2 h59
  exact ⟨hlt, h.wordJ hlt hj hw he⟩

def WRel (s : ByteArray) (w : World) (v i : Value) (wr : World) : Prop :=
  ∃ (k : Nat) (L : List (List UInt8)), k ≤ s.size ∧ i = .int .i64 k ∧ Below w.heap.size w wr ∧ WRow wr w.heap.size v L ∧ WAt s k L

/-- A word more. -/
theorem WRel.more {s : ByteArray} {w wr w2 : World} {u v' : Value} {k j : Nat} {L : List (List UInt8)} {e : Obj} (hB : Below w.heap.size w wr) (hrow : WRow wr w.heap.size u L) (hkj : k ≤ j) (hj : j ≤ s.size)
    (hat : WAt s j (L ++ [(s.data.toList.drop k).take (j - k)])) (hown : w2.ownsRow w.heap.size 9 1 v' (L.length + 1) (L.map strOf ++ [.string (s.extract k j)])) (hg : (wr.alloc e).grownBy w2 u.ownBlock) : WRel s w v' (.int .i64 j) w2 := by
  refine ⟨j, _, hj, rfl, (hB.alloc hB.size _).grown hg (by simp; exact Nat.le_trans hB.size (Nat.le_succ _)) (fun g hg => (hrow.lt g hg).1), ?_, hat⟩
  unfold WRow
  rw [List.length_append, List.map_append, List.length_singleton, List.map_singleton, strOf_midJ s hkj]
  exact hown

set_option maxRecDepth 100000 in
set_option maxHeartbeats 4000000 in
theorem refWords_any (s : ByteArray) (w : World) (hs : s.size ≤ 262144) : Calls Tryd.prog 31 #[.string s] w fun e w' =>
    Below w.heap.size w w' ∧ ∃ v, e = .returned v ∧ WRow w' w.heap.size v (toks .out s.data.toList) := by
  obtain ⟨i0, hi0, hz0, hz1, hz2⟩ := info_parts info9
  go_enter Tryd.func31, Tryd.ntmps31
  go_wp2_with fail
  go_loopw [3, 4] (fun v i wr => WRel s w v i wr) (fun _ i _ => s.size - (intOf i).toNat)
  case atStart => exact ⟨0, [], Nat.zero_le _, rfl, Below.refl _ _, World.ownsRow_nil w _ _ _, rfl, Nat.le_refl _⟩
  case round =>
    obtain ⟨k, L, hk, rfl, hB, hrow, hat⟩ := hrel
    have HROW := Lib.hid hrow
    have HAT := Lib.hid hat
    have HB := Lib.hid hB
    clear hrow hat hB
    by_cases hlt : k < s.size
    · go_wp2_with fail
      refine (blank_any _ _).mono ?_
      rintro e w' ⟨rfl, rfl⟩
      cases hb : isBlank (s[k]'hlt)
      · have HBL := Lib.hid hb
        clear hb
        by_cases h59 : s[k]'hlt = 59
        · have q59 : (((s[k]'hlt).toNat : Int) == 59) = true := by rw [h59]; decide
          have H59 := Lib.hid h59
          clear h59
          go_wp2_with fail
          go_loopw [4] (fun i wr' => wr' = wr ∧ ∃ j : Nat, k ≤ j ∧ j ≤ s.size ∧ i = .int .i64 j ∧ (j = k ∨ k < j) ∧ toks .note (s.data.toList.drop k) = toks .note (s.data.toList.drop j)) (fun i _ => s.size - (intOf i).toNat)
          case atStart => exact ⟨rfl, k, Nat.le_refl _, hk, rfl, .inl rfl, rfl⟩
          case round =>
            obtain ⟨rfl, j, hkj, hj, rfl, hjk, hn⟩ := hrel
            have HN := Lib.hid hn
            clear hn hjk
            by_cases hlj : j < s.size
            · by_cases h10 : s[j]'hlj = 10
              · have q10 : (((s[j]'hlj).toNat : Int) == 10) = true := by rw [h10]; decide
                have H10 := Lib.hid h10
                clear h10
                go_wp2_with fail
                have hne : j ≠ k := by
                  rintro rfl
                  have h1 := H59.out
                  rw [H10.out] at h1
                  exact absurd h1 (by decide)
                exact ⟨⟨j, L, hj, rfl, HB.out, HROW.out, HAT.out.note hlt H59.out hkj HN.out (.inl ⟨hlj, H10.out⟩)⟩, by simp [intOf]; omega⟩
              · have q10 : (((s[j]'hlj).toNat : Int) == 10) = false := by
                  have h1 : (s[j]'hlj).toNat ≠ 10 := fun h => h10 (UInt8.toNat_inj.1 h)
                  simpa using fun h => h1 (by omega)
                have H10 := Lib.hid h10
                clear h10
                go_wp2_with fail
                go_roundw
                case rel => exact ⟨trivial, j + 1, by omega, by omega, by go_num, .inr (by omega), HN.out.trans (note_step hlj H10.out)⟩
                case measure => simp [intOf]; omega
            · go_wp2_with fail
              exact ⟨⟨j, L, hj, rfl, HB.out, HROW.out, HAT.out.note hlt H59.out hkj HN.out (.inr (by omega))⟩, by simp [intOf]; omega⟩
        · have q59 : (((s[k]'hlt).toNat : Int) == 59) = false := by
            have h1 : (s[k]'hlt).toNat ≠ 59 := fun h => h59 (UInt8.toNat_inj.1 h)
            simpa using fun h => h1 (by omega)
          have H59 := Lib.hid h59
          clear h59
          go_wp2_with fail
          refine (sign_any _ _).mono ?_
          rintro e w' ⟨rfl, rfl⟩
          cases hsg : isSign (s[k]'hlt)
          · have HSG := Lib.hid hsg
            clear hsg
            go_wp2_with fail
            go_loopw [5] (fun i wr' => wr' = wr ∧ ∃ j : Nat, k ≤ j ∧ j ≤ s.size ∧ i = .int .i64 j ∧ ∀ b ∈ (s.data.toList.drop k).take (j - k), isEnd b = false) (fun i _ => s.size - (intOf i).toNat)
            case atStart => exact ⟨rfl, k, Nat.le_refl _, hk, rfl, by simp⟩
            case round =>
              obtain ⟨rfl, j, hkj, hj, rfl, hw⟩ := hrel
              have HW := Lib.hid hw
              clear hw
              have hrow := HROW.out
              have hLk := HAT.out.2
              unfold WRow at hrow
              have C3 : Hid (L.length + 1 ≤ maxLen) := by unfold maxLen Hid; omega
              have C4 : Hid ((L.length + 1) * 16 ≤ 140737488355328) := by unfold Hid; omega
              have hsz := HB.out.size
              have C5 : Hid (w.heap.size ≤ (wr.alloc (.cells #[.string (s.extract k j)] 9)).heap.size) := by unfold Hid; simp; omega
              have hjn : (k : Int) ≤ (j : Int) := by omega
              by_cases hlj : j < s.size
              · have HP := Lib.hid (isEnd_parts (s[j]'hlj))
                go_wp2_with fail
                refine (blank_any _ _).mono ?_
                rintro e w' ⟨rfl, rfl⟩
                cases hb : isBlank (s[j]'hlj)
                · have HB1 := Lib.hid hb
                  clear hb
                  go_wp2_with fail
                  refine (sign_any _ _).mono ?_
                  rintro e w' ⟨rfl, rfl⟩
                  cases hsg : isSign (s[j]'hlj)
                  · have HS1 := Lib.hid hsg
                    clear hsg
                    by_cases h59 : s[j]'hlj = 59
                    · have r59 : (((s[j]'hlj).toNat : Int) == 59) = true := by rw [h59]; decide
                      have HE := Lib.hid (show isEnd (s[j]'hlj) = true by rw [h59]; decide)
                      clear h59
                      have HEX := Lib.hid (exit_word hkj hj HW.out HAT.out hlt HBL.out HSG.out H59.out (fun _ => HE.out))
                      go_wp2_with (at_builtin; refine wpList_append_own_at _ rfl (.tmp 37) (.tmp 42) 49 rfl w.heap.size 9 i0 (.string ⟨#[]⟩) 1 16 Tryd.underlying49 hi0 hz0 hz1 hz2 rfl (by decide) u3 L.length _ rfl (hrow.alloc _) ⟨wr.heap.size, 0, none⟩ 1 1 [.string (s.extract k j)] rfl rfl (new_cells _ _ _) (by simp [Value.oneCell']) C3.out C4.out C5.out ?_; intro v' w2 hown2 hg2 _ hat2)
                      refine ⟨?_, by have := HEX.out.1; simp [intOf]; omega⟩
                      exact WRel.more HB.out HROW.out hkj hj HEX.out.2 hown2 hg2
                    · have r59 : (((s[j]'hlj).toNat : Int) == 59) = false := by
                        have h1 : (s[j]'hlj).toNat ≠ 59 := fun h => h59 (UInt8.toNat_inj.1 h)
                        simpa using fun h => h1 (by omega)
                      have HE := Lib.hid (show isEnd (s[j]'hlj) = false by rw [HP.out, HB1.out, HS1.out]; simpa using h59)
                      clear h59
                      go_wp2_with fail
                      go_roundw
                      case rel => exact ⟨trivial, j + 1, by omega, by omega, by go_num, word_stepJ hkj hlj HW.out HE.out⟩
                      case measure => simp [intOf]; omega
                  · have HE := Lib.hid (show isEnd (s[j]'hlj) = true by rw [HP.out, hsg]; simp)
                    clear hsg
                    have HEX := Lib.hid (exit_word hkj hj HW.out HAT.out hlt HBL.out HSG.out H59.out (fun _ => HE.out))
                    go_wp2_with (at_builtin; refine wpList_append_own_at _ rfl (.tmp 37) (.tmp 42) 49 rfl w.heap.size 9 i0 (.string ⟨#[]⟩) 1 16 Tryd.underlying49 hi0 hz0 hz1 hz2 rfl (by decide) u3 L.length _ rfl (hrow.alloc _) ⟨wr.heap.size, 0, none⟩ 1 1 [.string (s.extract k j)] rfl rfl (new_cells _ _ _) (by simp [Value.oneCell']) C3.out C4.out C5.out ?_; intro v' w2 hown2 hg2 _ hat2)
                    refine ⟨?_, by have := HEX.out.1; simp [intOf]; omega⟩
                    exact WRel.more HB.out HROW.out hkj hj HEX.out.2 hown2 hg2
                · have HE := Lib.hid (show isEnd (s[j]'hlj) = true by rw [HP.out, hb]; rfl)
                  clear hb
                  have HEX := Lib.hid (exit_word hkj hj HW.out HAT.out hlt HBL.out HSG.out H59.out (fun _ => HE.out))
                  go_wp2_with (at_builtin; refine wpList_append_own_at _ rfl (.tmp 37) (.tmp 42) 49 rfl w.heap.size 9 i0 (.string ⟨#[]⟩) 1 16 Tryd.underlying49 hi0 hz0 hz1 hz2 rfl (by decide) u3 L.length _ rfl (hrow.alloc _) ⟨wr.heap.size, 0, none⟩ 1 1 [.string (s.extract k j)] rfl rfl (new_cells _ _ _) (by simp [Value.oneCell']) C3.out C4.out C5.out ?_; intro v' w2 hown2 hg2 _ hat2)
                  refine ⟨?_, by have := HEX.out.1; simp [intOf]; omega⟩
                  exact WRel.more HB.out HROW.out hkj hj HEX.out.2 hown2 hg2
              · have HEX := Lib.hid (exit_word hkj hj HW.out HAT.out hlt HBL.out HSG.out H59.out (fun h => absurd h hlj))
                go_wp2_with (at_builtin; refine wpList_append_own_at _ rfl (.tmp 37) (.tmp 42) 49 rfl w.heap.size 9 i0 (.string ⟨#[]⟩) 1 16 Tryd.underlying49 hi0 hz0 hz1 hz2 rfl (by decide) u3 L.length _ rfl (hrow.alloc _) ⟨wr.heap.size, 0, none⟩ 1 1 [.string (s.extract k j)] rfl rfl (new_cells _ _ _) (by simp [Value.oneCell']) C3.out C4.out C5.out ?_; intro v' w2 hown2 hg2 _ hat2)
                refine ⟨?_, by have := HEX.out.1; simp [intOf]; omega⟩
                exact WRel.more HB.out HROW.out hkj hj HEX.out.2 hown2 hg2
          · have HSG := Lib.hid hsg
            clear hsg
            have hk1 : (k : Int) + 1 ≤ (s.size : Int) := by omega
            have hk2 : (k : Int) ≤ (k : Int) + 1 := by omega
            have hk3 : ((k : Int) + 1).toNat = k + 1 := by omega
            have hrow := HROW.out
            have hLk := HAT.out.2
            unfold WRow at hrow
            have C3 : Hid (L.length + 1 ≤ maxLen) := by unfold maxLen Hid; omega
            have C4 : Hid ((L.length + 1) * 16 ≤ 140737488355328) := by unfold Hid; omega
            have hsz := HB.out.size
            have C5 : Hid (w.heap.size ≤ (wr.alloc (.cells #[.string (s.extract k (k + 1))] 9)).heap.size) := by unfold Hid; simp; omega
            go_wp2_with (at_builtin; refine wpList_append_own_at _ rfl (.tmp 74) (.tmp 80) 49 rfl w.heap.size 9 i0 (.string ⟨#[]⟩) 1 16 Tryd.underlying49 hi0 hz0 hz1 hz2 rfl (by decide) u3 L.length _ rfl (hrow.alloc _) ⟨wr.heap.size, 0, none⟩ 1 1 [.string (s.extract k (k + 1))] rfl rfl (new_cells _ _ _) (by simp [Value.oneCell']) C3.out C4.out C5.out ?_; intro v' w2 hown2 hg2 _ hat2)
            refine ⟨?_, by simp [intOf]; omega⟩
            exact WRel.more (j := k + 1) HB.out HROW.out (by omega) (by omega) (by rw [show k + 1 - k = 1 by omega]; exact HAT.out.sign hlt HBL.out H59.out HSG.out) hown2 hg2
      · have HBL := Lib.hid hb
        clear hb
        go_wp2_with fail
        go_roundw
        case rel => exact ⟨k + 1, L, by omega, by go_num, HB.out, HROW.out, HAT.out.blank hlt HBL.out⟩
        case measure => simp [intOf]; omega
    · go_wp2_with fail
      go_ret
      refine ⟨HB.out, _, rfl, ?_⟩
      obtain ⟨h1, h2⟩ := HAT.out
      rw [List.drop_of_length_le (by rw [Array.length_toList]; have : s.data.size = s.size := rfl; omega)] at h1
      rw [h1]
      simpa [toks] using HROW.out
end Go.Proofs.YtgkmhdifjgpbeaaDoor
