/-
  The law LinesBytes: it answers true. Conditions: none.
-/
import Derived.Test.YtgkmhdifjgpbeaaDoorLaid
import Derived.Test.YtgkmhdifjgpbeaaDoorLawRead
import Derived.Test.YtgkmhdifjgpbeaaDoorLawWrite
import Derived.Test.YtgkmhdifjgpbeaaDoorLong
import Derived.Laws.IdiomStrings
import Derived.BigGuardPart
namespace Go.Proofs.YtgkmhdifjgpbeaaDoor
open Go.RowKit

theorem byte_string (k : Nat) (hk : k < 256) (W : World) : (convert 48 9 (.slice (some ⟨W.heap.size, 0, none⟩) 1 1)).run Tryd.prog (W.alloc (.cells #[.int .u8 k] 5)) = .ok (.string ⟨#[UInt8.ofNat k]⟩) (W.alloc (.cells #[.int .u8 k] 5)) := by
  refine run_convert_bytes_back (P := Tryd.prog) _ 48 9 5 ⟨W.heap.size, 0, none⟩ 1 [UInt8.ofNat k] Tryd.underlying48 Tryd.underlying5 Tryd.underlying9 fun j hj => ?_
  have : j = 0 := by simpa using hj
  subst this
  have : (UInt8.ofNat k).toNat = k := by simp; omega
  have h := U_cell (laid_cell (w := W) (cs := #[.int .u8 k]) (ty := 5) (o := 0) rfl)
  simp only [List.getElem_cons_zero, this]
  exact h
theorem append_le {a b : ByteArray} {n m : Nat} (ha : a.size ≤ n) (hb : b.size ≤ m) : (a ++ b).size ≤ n + m := by rw [ByteArray.size_append]; omega

def eight (s : ByteArray) : Array Value := #[.string s, .string (⟨#[97]⟩ ++ s ++ ⟨#[98]⟩), .string (⟨#[40, 97]⟩ ++ s ++ ⟨#[41]⟩), .string (⟨#[40]⟩ ++ s ++ ⟨#[32, 98, 41]⟩), .string (⟨#[59, 32, 97]⟩ ++ s ++ ⟨#[98, 10, 99]⟩), .string (s ++ s), .string (⟨#[97, 59]⟩ ++ s ++ ⟨#[10, 41]⟩), .string (⟨#[40, 59]⟩ ++ s ++ ⟨#[41]⟩)]
theorem eight_short (s : ByteArray) (hs : s.size ≤ 1) : ∀ j, j < 8 → ∃ t : ByteArray, (eight s)[j]? = some (.string t) ∧ t.size ≤ 100 := by
  intro j hj
  obtain rfl | rfl | rfl | rfl | rfl | rfl | rfl | rfl : j = 0 ∨ j = 1 ∨ j = 2 ∨ j = 3 ∨ j = 4 ∨ j = 5 ∨ j = 6 ∨ j = 7 := by omega
  all_goals exact ⟨_, rfl, by
    first
    | exact Nat.le_trans hs (by decide)
    | exact Nat.le_trans (append_le hs hs) (by decide)
    | exact Nat.le_trans (append_le (append_le (n := 4) (by decide) hs) (m := 4) (by decide)) (by decide)⟩

def four : Array Value := #[.string ⟨#[40]⟩, .string ⟨#[41]⟩, .string ⟨#[97, 32]⟩, .string ⟨#[59, 32, 120, 10]⟩]
theorem four_short : ∀ j, j < 4 → ∃ t : ByteArray, four[j]? = some (.string t) ∧ t.size ≤ 4 := by
  intro j hj
  obtain rfl | rfl | rfl | rfl : j = 0 ∨ j = 1 ∨ j = 2 ∨ j = 3 := by omega
  all_goals exact ⟨_, rfl, by decide⟩

set_option maxRecDepth 100000 in
set_option maxHeartbeats 4000000 in
theorem lawBytes_any (w : World) : Calls Tryd.prog 7 #[] w fun e w' => e = .returned (.bool true) ∧ Below w.heap.size w w' := by
  have HLR : Hid (∀ (t : ByteArray) (W : World), t.size ≤ 140737488355328 → Calls Tryd.prog 3 #[.string t] W fun e w' => e = .returned (.bool true) ∧ Below W.heap.size W w') := fun t W hs => lawRead_any t W hs
  go_enter Tryd.func7, Tryd.ntmps7
  go_wp2_with fail
  go_loopw [1] (fun i wr => ∃ k : Nat, k ≤ 256 ∧ i = .int .i64 k ∧ Below w.heap.size w wr) (fun i _ => 256 - (intOf i).toNat)
  case atStart => exact ⟨0, Nat.zero_le _, rfl, Below.refl _ _⟩
  case round =>
    obtain ⟨k, hk, rfl, hB⟩ := hrel
    have HB := Lib.hid hB
    clear hB
    by_cases hlt : k < 256
    · have r1 : decide ((k : Int) < 256) = true := decide_eq_true (by omega)
      have hcv := byte_string k hlt wr
      obtain ⟨s, hs⟩ : ∃ s : ByteArray, (⟨#[UInt8.ofNat k]⟩ : ByteArray) = s := ⟨_, rfl⟩
      have hs1 : s.size ≤ 1 := by rw [← hs]; exact Nat.le_refl _
      rw [hs] at hcv
      clear hs
      go_wp2_with fail
      obtain ⟨W0, hW0⟩ : ∃ W0, (wr.alloc (.cells #[.int .u8 k] 5)).alloc (.cells (eight s) 9) = W0 := ⟨_, rfl⟩
      have HT := Lib.hid (Strs.mk (w := wr.alloc (.cells #[.int .u8 k] 5)) (ty := 9) (eight_short s hs1))
      have HB0 := Lib.hid (below_step HB.out (below_step (below_alloc wr (.cells #[.int .u8 k] 5)) (below_alloc _ (.cells (eight s) 9))))
      rw [hW0] at HT HB0
      unfold eight at hW0
      obtain ⟨b, hb⟩ : ∃ b, wr.heap.size + 1 = b := ⟨_, rfl⟩
      have HT' : Hid (Strs W0 b 8 100) := Lib.hid (by rw [← hb]; have := HT.out; simpa using this)
      rw [hW0, hb]
      clear hW0 hb HT HB hcv
      go_loopw [4] (fun i wv => ∃ j : Nat, j ≤ 8 ∧ i = .int .i64 j ∧ Below W0.heap.size W0 wv) (fun i _ => 8 - (intOf i).toNat)
      case atStart => exact ⟨0, Nat.zero_le _, rfl, Below.refl _ _⟩
      case round =>
        obtain ⟨j, hj, rfl, hBj⟩ := hrel
        have HBj := Lib.hid hBj
        clear hBj
        by_cases hlj : j < 8
        · obtain ⟨t, htc, hts⟩ := (HT'.out.on HBj.out).2 j hlj
          go_wp2_with fail
          refine (HLR.out t _ (by omega)).mono ?_
          rintro e w3 ⟨rfl, hb3⟩
          have HB3 := Lib.hid (below_step HBj.out hb3)
          clear hb3 htc hts
          go_wp2_with fail
          go_roundw
          case rel => exact ⟨j + 1, by omega, by go_num, HB3.out⟩
          case measure => simp [intOf]; omega
        · have HBw := Lib.hid (below_step HB0.out HBj.out)
          clear HT' HB0 HBj hj
          go_wp2_with fail
          refine (word_any _ _).mono ?_
          rintro e x1 ⟨rfl, h1⟩
          have H1 := Lib.hid h1
          clear h1
          go_wp2_with fail
          refine (word_any _ _).mono ?_
          rintro e x2 ⟨rfl, h2⟩
          have H2 := Lib.hid h2
          clear h2
          go_wp2_with fail
          refine (word_any _ _).mono ?_
          rintro e x3 ⟨rfl, h3⟩
          have H3 := Lib.hid h3
          clear h3
          go_wp2_with fail
          refine (list_any _ _ _ _).mono ?_
          rintro e x4 ⟨rfl, h4⟩
          have H4 := Lib.hid h4
          clear h4
          go_wp2_with fail
          refine (list_any _ _ _ _).mono ?_
          rintro e x5 ⟨rfl, h5⟩
          have H5 := Lib.hid h5
          clear h5
          have S3 := Lib.hid ((Sl.row1 (w := x3) (s := s ++ ⟨#[98]⟩) (ty := 41) (Nat.le_trans (append_le hs1 (m := 1) (by decide)) (by decide)) (Sl_none _ _ _)).on H4.out)
          have S4 := Lib.hid ((Sl.row2 (w := x4) (s := ⟨#[97]⟩ ++ s) (t := ⟨#[]⟩) (ty := 41) (Nat.le_trans (append_le (n := 1) (by decide) hs1) (by decide)) (by decide) (Sl_none _ _ _) S3.out).on H5.out)
          have S5 := Lib.hid (Sl.row2 (w := x5) (s := s) (t := ⟨#[]⟩) (ty := 41) (Nat.le_trans hs1 (by decide)) (by decide) (Sl_none _ _ _) S4.out)
          go_wp2_with fail
          refine (lawWrite_any _ _ _ S5.out).mono ?_
          rintro e x6 ⟨rfl, h6⟩
          have HBy := Lib.hid (below_step (below_step (below_step (below_step (below_step (below_step (below_step (below_step (below_step HBw.out H1.out) H2.out) H3.out) (below_alloc _ _)) H4.out) (below_alloc _ _)) H5.out) (below_alloc _ _)) h6)
          clear H1 H2 H3 H4 H5 h6 S3 S4 S5 HBw
          go_wp2_with fail
          go_roundw
          case rel => exact ⟨k + 1, by omega, by go_num, HBy.out⟩
          case measure => simp [intOf]; omega
    · clear hk
      have r1 : decide ((k : Int) < 256) = false := decide_eq_false (by omega)
      go_wp2_with fail
      obtain ⟨W1, hW1⟩ : ∃ W1, wr.alloc (.cells #[.string ⟨#[40]⟩, .string ⟨#[41]⟩, .string ⟨#[97, 32]⟩, .string ⟨#[59, 32, 120, 10]⟩] 9) = W1 := ⟨_, rfl⟩
      have HT := Lib.hid (Strs.mk (w := wr) (ty := 9) four_short)
      have HB1 := Lib.hid (below_step HB.out (below_alloc wr (.cells four 9)))
      unfold four at HT HB1
      rw [hW1] at HT HB1
      obtain ⟨b, hb⟩ : ∃ b, wr.heap.size = b := ⟨_, rfl⟩
      rw [hb] at HT
      rw [hW1, hb]
      clear hW1 hb HB r1
      go_loopw [6] (fun i wv => ∃ n : Nat, n ≤ 1024 ∧ i = .int .i64 n ∧ Below W1.heap.size W1 wv) (fun i _ => 1024 - (intOf i).toNat)
      case atStart => exact ⟨0, Nat.zero_le _, rfl, Below.refl _ _⟩
      case round =>
        obtain ⟨n, hn, rfl, hBn⟩ := hrel
        have HBn := Lib.hid hBn
        clear hBn
        by_cases hln : n < 1024
        · have r2 : decide ((n : Int) < 1024) = true := decide_eq_true (by omega)
          go_wp2_with fail
          clear r2
          go_loopw [7, 8] (fun v i wv => ∃ (txt : ByteArray) (m : Nat), v = .string txt ∧ i = .int .i64 m ∧ txt.size + 4 * m ≤ 4096 ∧ wv = wr) (fun _ i _ => (intOf i).toNat)
          case atStart => exact ⟨_, n, rfl, rfl, by have : (⟨#[]⟩ : ByteArray).size = 0 := rfl; omega, rfl⟩
          case round =>
            obtain ⟨txt, m, rfl, rfl, hsz, rfl⟩ := hrel
            by_cases hlm : 0 < m
            · have hq : Int.tdiv (m : Int) 4 = ((m / 4 : Nat) : Int) := by rw [Int.tdiv_eq_ediv_of_nonneg (by omega)]; omega
              have hr : Int.tmod (m : Int) 4 = ((m % 4 : Nat) : Int) := by rw [Int.tmod_eq_emod_of_nonneg (by omega)]; omega
              have hm4 : m % 4 < 4 := Nat.mod_lt _ (by decide)
              obtain ⟨t, htc, hts⟩ := (HT.out.on HBn.out).2 (m % 4) hm4
              have hts' : txt.size + t.size ≤ 140737488355328 := by omega
              go_wp2_with fail
              exact ⟨⟨_, m / 4, rfl, congrArg (Value.int .i64) (by omega), by rw [ByteArray.size_append]; omega, trivial⟩, by simp [intOf]; omega⟩
            · go_wp2_with fail
              refine (HLR.out txt _ (by omega)).mono ?_
              rintro e w3 ⟨rfl, hb3⟩
              have HB3 := Lib.hid (below_step HBn.out hb3)
              clear hb3
              go_wp2_with fail
              go_roundw
              case rel => exact ⟨n + 1, by omega, by go_num, HB3.out⟩
              case measure => simp [intOf]; omega
        · have r2 : decide ((n : Int) < 1024) = false := decide_eq_false (by omega)
          have HBe := Lib.hid (below_step HB1.out HBn.out)
          clear HT HB1 HBn hn
          go_wp2_with fail
          clear r2
          obtain ⟨W2, hW2⟩ : ∃ W2 : World, wr = W2 := ⟨_, rfl⟩
          go_loopw [9] (fun i wv => ∃ n : Nat, 398 ≤ n ∧ n ≤ 403 ∧ i = .int .i64 n ∧ Below w.heap.size w wv) (fun i _ => 403 - (intOf i).toNat)
          case atStart => exact ⟨398, by decide, by decide, rfl, HBe.out⟩
          case round =>
            obtain ⟨d, hd1, hd2, rfl, hBd⟩ := hrel
            have HBd := Lib.hid hBd
            clear hBd HBe
            by_cases hld : d < 403
            · have r3 : decide ((d : Int) < 403) = true := decide_eq_true (by omega)
              obtain ⟨so, hso, hro⟩ := rep_spec ⟨#[40]⟩ 1 d 1 rfl (by omega) (by decide) (by decide) wr
              have HRO := Lib.hid hro
              clear hro
              go_wp2_with fail
              refine HRO.out.mono ?_
              rintro e w2 ⟨rfl, hb2⟩
              obtain ⟨sc, hsc, hrc⟩ := rep_spec ⟨#[41]⟩ 1 d 1 rfl (by omega) (by decide) (by decide) w2
              have HRC := Lib.hid hrc
              have HB2 := Lib.hid (below_step HBd.out hb2)
              clear hrc hb2 HRO HBd
              go_wp2_with fail
              refine HRC.out.mono ?_
              rintro e w3 ⟨rfl, hb3⟩
              have HB3 := Lib.hid (below_step HB2.out hb3)
              clear hb3 HRC HB2
              go_wp2_with fail
              have hso' : so.size ≤ 403 := by omega
              have hsc' : sc.size ≤ 403 := by omega
              clear hso hsc r3
              refine (HLR.out _ _ (Nat.le_trans (append_le hso' hsc') (by decide))).mono ?_
              rintro e c1 ⟨rfl, h1⟩
              have HC1 := Lib.hid (below_step HB3.out h1)
              clear h1 HB3
              go_wp2_with fail
              refine (HLR.out _ _ (Nat.le_trans (append_le (append_le hso' (m := 1) (by decide)) hsc') (by decide))).mono ?_
              rintro e c2 ⟨rfl, h1⟩
              have HC2 := Lib.hid (below_step HC1.out h1)
              clear h1 HC1
              go_wp2_with fail
              refine (HLR.out _ _ (Nat.le_trans (append_le (append_le (append_le hso' (m := 2) (by decide)) hsc') (m := 1) (by decide)) (by decide))).mono ?_
              rintro e c3 ⟨rfl, h1⟩
              have HC3 := Lib.hid (below_step HC2.out h1)
              clear h1 HC2
              go_wp2_with fail
              refine (HLR.out _ _ (Nat.le_trans (append_le hso' (m := 1) (by decide)) (by decide))).mono ?_
              rintro e c4 ⟨rfl, h1⟩
              have HC4 := Lib.hid (below_step HC3.out h1)
              clear h1 HC3
              go_wp2_with fail
              refine (nested_any d none 0 0 .nil _ (by omega) (Sl_none _ _ _)).mono ?_
              rintro e c5 ⟨h1, p5, n5, k5, T5, rfl, hT5⟩
              have HC5 := Lib.hid (below_step (below_step HC4.out h1) (below_alloc c5 (.cells #[.string ⟨#[]⟩, .slice p5 n5 k5] 41)))
              have HS5 := Lib.hid (Sl.row1 (w := c5) (s := ⟨#[]⟩) (ty := 41) (by decide) hT5)
              clear h1 hT5 HC4
              go_wp2_with fail
              refine (lawWrite_any _ _ _ HS5.out).mono ?_
              rintro e c6 ⟨rfl, h1⟩
              have HC6 := Lib.hid (below_step HC5.out h1)
              clear h1 HC5 HS5
              go_wp2_with fail
              refine (word_any _ _).mono ?_
              rintro e c7 ⟨rfl, h1⟩
              have HC7 := Lib.hid (below_step (below_step HC6.out h1) (below_alloc c7 (.cells #[.string ⟨#[97]⟩, .slice none 0 0] 41)))
              have HS7 := Lib.hid (Sl.row1 (w := c7) (s := ⟨#[97]⟩) (ty := 41) (by decide) (Sl_none _ _ _))
              clear h1 HC6
              go_wp2_with fail
              refine (nested_any d _ _ _ _ _ (by omega) HS7.out).mono ?_
              rintro e c8 ⟨h1, p8, n8, k8, T8, rfl, hT8⟩
              have HC8 := Lib.hid (below_step HC7.out h1)
              have HT8 := Lib.hid hT8
              clear h1 hT8 HC7 HS7
              go_wp2_with fail
              refine (word_any _ _).mono ?_
              rintro e c9 ⟨rfl, h1⟩
              have HC9 := Lib.hid (below_step (below_step HC8.out h1) (below_alloc c9 (.cells #[.string ⟨#[]⟩, .slice p8 n8 k8, .string ⟨#[98]⟩, .slice none 0 0] 41)))
              have HS9 := Lib.hid (Sl.row2 (w := c9) (s := ⟨#[]⟩) (t := ⟨#[98]⟩) (ty := 41) (by decide) (by decide) (HT8.out.on h1) (Sl_none _ _ _))
              clear h1 HT8 HC8
              go_wp2_with fail
              refine (lawWrite_any _ _ _ HS9.out).mono ?_
              rintro e d1 ⟨rfl, h1⟩
              have HD1 := Lib.hid (below_step HC9.out h1)
              clear h1 HC9 HS9
              go_wp2_with fail
              refine (nested_any d none 0 0 .nil _ (by omega) (Sl_none _ _ _)).mono ?_
              rintro e d2 ⟨h1, q2, n2, k2, T2, rfl, hT2⟩
              have HD2 := Lib.hid (below_step HD1.out h1)
              have HT2 := Lib.hid hT2
              clear h1 hT2 HD1
              go_wp2_with fail
              refine (word_any _ _).mono ?_
              rintro e d3 ⟨rfl, h1⟩
              have HD3 := Lib.hid (below_step (below_step HD2.out h1) (below_alloc d3 (.cells #[.string ⟨#[]⟩, .slice q2 n2 k2, .string ⟨#[40]⟩, .slice none 0 0] 41)))
              have HS3 := Lib.hid (Sl.row2 (w := d3) (s := ⟨#[]⟩) (t := ⟨#[40]⟩) (ty := 41) (by decide) (by decide) (HT2.out.on h1) (Sl_none _ _ _))
              clear h1 HT2 HD2
              go_wp2_with fail
              refine (lawWrite_any _ _ _ HS3.out).mono ?_
              rintro e d4 ⟨rfl, h1⟩
              have HD4 := Lib.hid (below_step HD3.out h1)
              clear h1 HD3 HS3
              go_wp2_with fail
              go_roundw
              case rel => exact ⟨d + 1, by omega, by omega, by go_num, HD4.out⟩
              case measure => simp [intOf]; omega
            · have r3 : decide ((d : Int) < 403) = false := decide_eq_false (by omega)
              go_wp2_with fail
              refine (long_any _).mono ?_
              rintro e l1 ⟨rfl, h1⟩
              have HL1 := Lib.hid (below_step HBd.out h1)
              clear h1 HBd r3
              go_wp2_with fail
              refine (lawWrite_any .nil _ _ (Sl_none _ _ _)).mono ?_
              rintro e l2 ⟨rfl, h1⟩
              have HL2 := Lib.hid (below_step HL1.out h1)
              clear h1 HL1
              go_wp2_with fail
              refine (word_any _ _).mono ?_
              rintro e l3 ⟨rfl, h1⟩
              have HL3 := Lib.hid (below_step HL2.out h1)
              clear h1 HL2
              go_wp2_with fail
              have S3 := Lib.hid (Sl.row1 (w := l3.alloc (.cells #[.string ⟨#[98]⟩, .slice none 0 0] 41)) (s := ⟨#[97]⟩) (ty := 41) (by decide) (Sl.row1 (w := l3) (s := ⟨#[98]⟩) (ty := 41) (by decide) (Sl_none _ _ _)))
              have S3' : Hid (Sl (U ((l3.alloc (.cells #[.string ⟨#[98]⟩, .slice none 0 0] 41)).alloc (.cells #[.string ⟨#[97]⟩, .slice (some ⟨l3.heap.size, 0, none⟩) 1 1] 41))) 0 ((l3.alloc (.cells #[.string ⟨#[98]⟩, .slice none 0 0] 41)).alloc (.cells #[.string ⟨#[97]⟩, .slice (some ⟨l3.heap.size, 0, none⟩) 1 1] 41)).heap.size (.slice (some ⟨l3.heap.size + 1, 0, none⟩) 1 1) (.cons ⟨#[97]⟩ (.cons ⟨#[98]⟩ .nil .nil) .nil)) := Lib.hid (by have := S3.out; simpa using this)
              refine (lawWrite_any _ _ _ S3'.out).mono ?_
              rintro e l4 ⟨rfl, h1⟩
              have HL4 := Lib.hid (below_step (below_step (below_step HL3.out (below_alloc _ _)) (below_alloc _ _)) h1)
              clear h1 HL3 S3 S3'
              go_wp2_with fail
              refine (word_any _ _).mono ?_
              rintro e l5 ⟨rfl, h1⟩
              have HL5 := Lib.hid (below_step HL4.out h1)
              have S5 := Lib.hid (Sl.row1 (w := l5) (s := ⟨#[]⟩) (ty := 41) (by decide) (Sl_none _ _ _))
              clear h1 HL4
              go_wp2_with fail
              refine (list_any _ _ _ _).mono ?_
              rintro e l6 ⟨rfl, h1⟩
              have HL6 := Lib.hid (below_step (below_step HL5.out (below_alloc _ _)) h1)
              have S6 := Lib.hid (S5.out.on h1)
              clear h1 HL5 S5
              go_wp2_with fail
              refine (list_any _ _ _ _).mono ?_
              rintro e l7 ⟨rfl, h1⟩
              have HL7 := Lib.hid (below_step HL6.out h1)
              have S7 := Lib.hid (Sl.row2 (w := l7) (s := ⟨#[]⟩) (t := ⟨#[]⟩) (ty := 41) (by decide) (by decide) (S6.out.on h1) (Sl_none _ _ _))
              clear h1 HL6 S6
              go_wp2_with fail
              refine (lawWrite_any _ _ _ S7.out).mono ?_
              rintro e l8 ⟨rfl, h1⟩
              have HL8 := Lib.hid (below_step (below_step HL7.out (below_alloc _ _)) h1)
              clear h1 HL7 S7
              go_wp2_with fail
              refine (awake_any _).mono ?_
              rintro e l9 ⟨rfl, h1⟩
              have HL9 := Lib.hid (below_step HL8.out h1)
              clear h1 HL8
              go_wp2_with fail
              go_ret
              exact ⟨rfl, HL9.out⟩
end Go.Proofs.YtgkmhdifjgpbeaaDoor
