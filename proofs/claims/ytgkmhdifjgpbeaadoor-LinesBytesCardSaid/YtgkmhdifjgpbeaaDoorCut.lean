/-
  strings.Cut at a line feed. Conditions: the text no longer than memory holds.
-/
import Derived.Test.YtgkmhdifjgpbeaaDoorToks
import Derived.Test.YtgkmhdifjgpbeaaDoorShelf
import Derived.OwnWalk
namespace Go.Proofs.YtgkmhdifjgpbeaaDoor
open Go.RowKit

theorem extract_end (s : ByteArray) (a : Nat) : (s.extract a s.size).data.toList = s.data.toList.drop a := by
  rw [ByteArray.data_extract, Array.toList_extract]
  simp [List.extract_eq_take_drop]
  exact List.take_of_length_le (by rw [List.length_drop, Array.length_toList]; exact Nat.le_refl _)
theorem extract_take (s : ByteArray) (a : Nat) : (s.extract 0 a).data.toList = s.data.toList.take a := by
  rw [ByteArray.data_extract, Array.toList_extract]
  simp [List.extract_eq_take_drop]

def CutSays (s : ByteArray) (w : World) (e : Ending) (w' : World) : Prop :=
  Below w.heap.size w w' ∧ ∃ x y b, e = .returned (.tuple #[.string x, .string y, .bool b]) ∧ y.data.toList = after10 s.data.toList

set_option maxRecDepth 100000 in
set_option maxHeartbeats 2000000 in
theorem cut69_any (s : ByteArray) (w : World) (hs : s.size ≤ 140737488355328) : Calls Tryd.prog 69 #[.string s, .string ⟨#[10]⟩] w (CutSays s w) := by
  have HA := Lib.hid (after10_eq s.data.toList)
  have hlen : s.data.toList.length = s.size := by rw [Array.length_toList]; rfl
  obtain ⟨i, hi⟩ : ∃ i, Lib.indexByte s.data.toList 10 = i := ⟨_, rfl⟩
  have HI := Lib.hid (Tryd.stringslite_Index_one s 10 w)
  rw [hi] at HA HI
  have hge := Lib.indexByte_ge s.data.toList 10
  rw [hi] at hge
  by_cases hn : i = -1
  · subst hn
    clear hi hge
    go_enter Tryd.func69, Tryd.ntmps69
    go_wp2_with fail
    refine HI.out.mono ?_
    rintro e w' ⟨rfl, rfl⟩
    go_wp2_with fail
    go_ret3
    exact ⟨Below.refl _ _, _, _, _, rfl, by rw [HA.out]; rfl⟩
  · obtain ⟨k, rfl⟩ : ∃ k : Nat, i = k := ⟨i.toNat, by omega⟩
    obtain ⟨hk, _⟩ := Lib.indexByte_some hi
    have hlt := (List.getElem?_eq_some_iff.1 hk).1
    rw [hlen] at hlt
    have h1 : (k : Int) + 1 ≤ (s.size : Int) := by omega
    have h2 : (0 : Int) ≤ (k : Int) + 1 := by omega
    have h3 : (k : Int) ≤ (s.size : Int) := by omega
    have h4 : (0 : Int) ≤ (k : Int) := by omega
    have hr1 : ((k : Int) + 1).toNat = k + 1 := by omega
    clear hi hge hk hlt hn
    go_enter Tryd.func69, Tryd.ntmps69
    go_wp2_with fail
    refine HI.out.mono ?_
    rintro e w' ⟨rfl, rfl⟩
    go_wp2_with fail
    go_quiet (fail)
    go_wp2_with fail
    go_ret3
    refine ⟨⟨rfl, rfl, rfl, Nat.le_refl _, fun _ _ => rfl⟩, _, _, _, rfl, ?_⟩
    rw [HA.out, if_neg (by omega), hr1]
    exact extract_end s (k + 1)

theorem cut_any (s : ByteArray) (w : World) (hs : s.size ≤ 140737488355328) : Calls Tryd.prog 52 #[.string s, .string ⟨#[10]⟩] w (CutSays s w) := by
  have H := Lib.hid (cut69_any s w hs)
  go_enter Tryd.func52, Tryd.ntmps52
  go_wp2_with fail
  refine H.out.mono ?_
  rintro e w' ⟨hb, x, y, b, rfl, hy⟩
  go_wp2
  go_ret3
  exact ⟨hb, _, _, _, rfl, hy⟩
end Go.Proofs.YtgkmhdifjgpbeaaDoor
