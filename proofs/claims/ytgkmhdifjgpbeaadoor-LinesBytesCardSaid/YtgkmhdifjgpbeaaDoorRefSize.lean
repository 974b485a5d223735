/-
  How many bytes the text of trees has, and the text, by the document. Conditions: trees no greater than 1000000.
-/
import Derived.Test.YtgkmhdifjgpbeaaDoorWtr
namespace Go.Proofs.YtgkmhdifjgpbeaaDoor
open Go.RowKit

/-- The bytes of trees' text, but for the blanks between. -/
def Ts.sz : Ts → Nat
  | .nil => 0
  | .cons w x r => (Ts.one w x).length + r.sz
theorem Ts.sz_len (t : Ts) (f : Bool) : (t.txt f).length + (if f && decide (0 < t.len) then 1 else 0) = t.sz + t.len := by
  induction t generalizing f with
  | nil => cases f <;> simp [Ts.txt, Ts.sz, Ts.len]
  | cons w x r _ ih =>
    have h := ih false
    simp only [Bool.false_and, Bool.false_eq_true, if_false, Nat.add_zero] at h
    have ho : (if w.size = 0 then (40 : UInt8) :: (x.txt true ++ [41]) else w.data.toList) = Ts.one w x := rfl
    cases f
    · simp only [Ts.txt, ho, List.length_append, h, Ts.sz, Ts.len]; simp; omega
    · simp only [Ts.txt, ho, List.length_append, h, Ts.sz, Ts.len]; simp; omega
theorem Ts.sz_app (x y : Ts) : (x.app y).sz = x.sz + y.sz := by
  induction x with
  | nil => simp [Ts.app, Ts.sz]
  | cons w k r _ ih => simp [Ts.app, Ts.sz, ih]; omega
theorem Ts.sz_take {t : Ts} {k : Nat} (h : k < t.len) : (t.take (k + 1)).sz = (t.take k).sz + (Ts.one (t.wd k) (t.kd k)).length := by
  rw [Ts.take_succ h, Ts.snoc, Ts.sz_app]; simp [Ts.sz]
theorem Ts.txt_le (t : Ts) (f : Bool) : (t.txt f).length ≤ 3 * t.great := by
  induction t generalizing f with
  | nil => simp [Ts.txt]
  | cons w x r ihx ihr =>
    have h1 := ihx true
    have h2 := ihr false
    have hl : w.data.toList.length = w.size := by rw [Array.length_toList]; rfl
    simp only [Ts.txt, Ts.great, List.length_append]
    by_cases hw : w.size = 0
    · rw [if_pos hw]; cases f <;> simp <;> omega
    · rw [if_neg hw, hl]; cases f <;> simp <;> omega
theorem Ts.sz_take_le (t : Ts) : ∀ k, (t.take k).sz ≤ t.sz := by
  induction t with
  | nil => intro k; cases k <;> simp [Ts.take, Ts.sz]
  | cons w x r _ ih =>
    intro k
    cases k with
    | zero => simp [Ts.take, Ts.sz]
    | succ k => have := ih k; simp only [Ts.take, Ts.sz]; omega
theorem Ts.sz_le (t : Ts) : t.sz ≤ 3 * t.great + 1 := by
  have h := Ts.sz_len t true
  have := Ts.txt_le t true
  have := Ts.len_le_great t
  by_cases hl : 0 < t.len
  · simp [hl] at h; omega
  · simp [hl] at h; omega

theorem string_of {s : ByteArray} {l : List UInt8} (h : s.data.toList = l) : s = ⟨l.toArray⟩ := by
  cases s with
  | mk d => simp only at h; subst h; simp

set_option maxRecDepth 100000 in
set_option maxHeartbeats 4000000 in
theorem size_any (m : Nat) : ∀ (t : Ts) (va : Value) (w : World), t.great < m → t.great ≤ 1000000 → Sl (U w) 0 w.heap.size va t →
    Calls Tryd.prog 40 #[va] w fun e w' => e = .returned (.int .i64 (t.txt true).length) ∧ w = w' := by
  induction m with
  | zero => intro t va w hm; omega
  | succ m ih =>
    intro t va w hm hg ha
    obtain ⟨pa, ca, rfl, ha1, ha2, _⟩ := ha.slice
    unfold maxLen at ha2
    have hlg := Ts.len_le_great t
    have hmax : ((max ((t.len : Int) - 1) 0)) = ((t.len - 1 : Nat) : Int) := by omega
    have HMAX := Lib.hid hmax
    have HSZ := Lib.hid (Ts.sz_len t true)
    have hszl := Ts.sz_le t
    clear hmax
    go_enter Tryd.func40, Tryd.ntmps40
    go_wp2_with fail
    rw [HMAX.out]
    go_loopw [3, 4] (fun n i wr => ∃ (k : Nat), k ≤ t.len ∧ n = .int .i64 ((t.len - 1 + (t.take k).sz : Nat) : Int) ∧ i = .int .i64 k ∧ w = wr) (fun _ i _ => t.len - (intOf i).toNat)
    case atStart => exact ⟨0, Nat.zero_le _, by rw [Ts.take, Ts.sz]; rfl, rfl, rfl⟩
    case round =>
      obtain ⟨k, hk, rfl, rfl, rfl⟩ := hrel
      have hsl := Ts.sz_take_le t k
      by_cases hlt : k < t.len
      · obtain ⟨bl, o, rfl, _, _, hbl, hc1, hw, v, hc2, hs⟩ := ha.at_ (k := k) hlt
        obtain ⟨pk, ck, rfl, hk1, _, _⟩ := hs.slice
        have e1 := U_cell hc1
        have e2 := U_cell hc2
        have hgk := Ts.great_kd hlt
        have HX := Lib.hid (Ts.sz_take hlt)
        have hsl1 := Ts.sz_take_le t (k + 1)
        have HIH := Lib.hid (ih (t.kd k) _ w (by omega) (by omega) hs)
        have hlen : (t.wd k).data.toList.length = (t.wd k).size := by rw [Array.length_toList]; rfl
        have HLEN := Lib.hid hlen
        have htk := Ts.txt_le (t.kd k) true
        clear ha hc1 hc2 hs ih hk1 hlen
        by_cases hz : (t.wd k).size = 0
        · have hz3 : (t.wd k).toList = [] := bytes_nil hz
          have hz2 : (t.wd k).toList.isEmpty = true := by rw [hz3]; rfl
          have HO : Hid ((Ts.one (t.wd k) (t.kd k)).length = ((t.kd k).txt true).length + 2) := by unfold Hid Ts.one; rw [if_pos hz]; simp
          have hz0 : ((t.wd k).size : Int) = 0 := by omega
          have HZ0 := Lib.hid hz0
          clear hz hz0
          go_wp2_with fail
          refine HIH.out.mono ?_
          rintro e w' ⟨rfl, rfl⟩
          have h1 := HX.out
          rw [HO.out] at h1
          have H1 := Lib.hid h1
          clear h1
          go_wp2_with fail
          go_roundw
          case rel => exact ⟨k + 1, by omega, by have := H1.out; have := HZ0.out; rw [H1.out]; congr 1; omega, by go_num, trivial⟩
          case measure => simp [intOf]; omega
        · have hz3 : (t.wd k).toList.isEmpty = false := bytes_some hz
          have hz5 : ¬ (t.wd k).toList = [] := fun h => by rw [h] at hz3; cases hz3
          have HO : Hid ((Ts.one (t.wd k) (t.kd k)).length = (t.wd k).size) := by unfold Hid Ts.one; rw [if_neg hz]; exact HLEN.out
          clear hz
          go_wp2_with fail
          go_roundw
          case rel => exact ⟨k + 1, by omega, by have h1 := HX.out; rw [HO.out] at h1; rw [h1]; congr 1; omega, by go_num, trivial⟩
          case measure => simp [intOf]; omega
      · go_wp2_with fail
        go_ret
        refine ⟨ret_int ?_, rfl⟩
        rw [show k = t.len by omega, Ts.take_len]
        have h := HSZ.out
        by_cases hl : 0 < t.len
        · simp [hl] at h; omega
        · simp [hl] at h; omega
end Go.Proofs.YtgkmhdifjgpbeaaDoor
