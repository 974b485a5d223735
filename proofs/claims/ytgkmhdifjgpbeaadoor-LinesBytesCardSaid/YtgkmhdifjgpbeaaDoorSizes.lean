/-
  How deep and how great rows of trees are. Conditions: none beyond what memory holds.
-/
import Derived.Test.YtgkmhdifjgpbeaaDoorTrees
import Derived.Test.YtgkmhdifjgpbeaaDoorSame
import Derived.Test.YtgkmhdifjgpbeaaDoorProg
import Derived.IntWalk
namespace Go.Proofs.YtgkmhdifjgpbeaaDoor
open Go.RowKit

def HighSays (t : Ts) (b : Int) (w : World) (e : Ending) (w' : World) : Prop := ∃ r : Bool, (r = false → (t.deep : Int) ≤ b) ∧ e = .returned (.bool r) ∧ w = w'

set_option maxHeartbeats 1000000 in
theorem high_any (m : Nat) : ∀ (t : Ts) (va : Value) (b : Int) (w : World), 0 ≤ b → b ≤ m → b ≤ 100000 → Sl (U w) 0 w.heap.size va t →
    Calls Tryd.prog 32 #[va, .int .i64 b] w (HighSays t b w) := by
  induction m with
  | zero =>
    intro t va b w hb0 hbm hbb ha
    obtain rfl : b = 0 := by omega
    obtain ⟨pa, ca, rfl, ha1, ha2, _⟩ := ha.slice
    unfold maxLen at ha2
    by_cases hz : t.len = 0
    · have hz' : (t.len : Int) ≤ 0 := by omega
      have hd : t.deep = 0 := by cases t with
        | nil => rfl
        | cons => simp [Ts.len] at hz
      have Hd := Lib.hid hd
      clear hz hd
      go_enter Tryd.func32, Tryd.ntmps32
      go_wp2_with fail
      go_loopw [5] (fun i wr => i = .int .i64 0 ∧ w = wr) (fun i _ => 0)
      case atStart => exact ⟨rfl, rfl⟩
      case round =>
        obtain ⟨rfl, rfl⟩ := hrel
        go_wp2_with fail
        go_ret
        exact ⟨false, fun _ => by rw [Hd.out]; exact Int.le_refl _, rfl, rfl⟩
    · have hz' : 0 < (t.len : Int) := by omega
      clear hz
      go_enter Tryd.func32, Tryd.ntmps32
      go_wp2_with fail
      go_loopw [5] (fun i wr => i = .int .i64 0 ∧ w = wr) (fun i _ => 0)
      case atStart => exact ⟨rfl, rfl⟩
      case round =>
        obtain ⟨rfl, rfl⟩ := hrel
        go_wp2_with fail
        go_ret
        exact ⟨true, fun h => (by cases h), rfl, rfl⟩
  | succ m ih =>
    intro t va b w hb0 hbm hbb ha
    obtain ⟨pa, ca, rfl, ha1, ha2, _⟩ := ha.slice
    unfold maxLen at ha2
    by_cases hbz : b = 0
    · exact ih t _ b w hb0 (by omega) hbb ha
    have hb : (b == 0) = false := by simpa using hbz
    have hb1 : 1 ≤ b := by omega
    clear hbz hb0
    go_enter Tryd.func32, Tryd.ntmps32
    go_wp2_with fail
    go_loopw [5] (fun i wr => ∃ k : Nat, k ≤ t.len ∧ (∀ j, j < k → ((t.kd j).deep : Int) + 1 ≤ b) ∧ i = .int .i64 k ∧ w = wr) (fun i _ => t.len - (intOf i).toNat)
    case atStart => exact ⟨0, Nat.zero_le _, fun j hj => by omega, rfl, rfl⟩
    case round =>
      obtain ⟨k, hk, hd, rfl, rfl⟩ := hrel
      have Hd := Lib.hid hd
      clear hd
      by_cases hlt : k < t.len
      · obtain ⟨bl, o, rfl, _, _, _, hc1, _, v, hc2, hs⟩ := ha.at_ (k := k) hlt
        have e2 := U_cell hc2
        have hi := ih (t.kd k) v (b - 1) w (by omega) (by omega) (by omega) hs
        have HI := Lib.hid hi
        clear hi ih ha hc1 hc2 hs
        go_wp2_with (go_at_call 32; refine HI.out.mono ?_; rintro e w' ⟨r, hr, rfl, rfl⟩)
        · go_ret
          exact ⟨true, fun h => (by cases h), rfl, rfl⟩
        · have hr' := hr (by assumption)
          go_roundw
          case rel => exact ⟨k + 1, by omega, (fun j hj => by
            rcases Nat.lt_or_ge j k with h | h
            · exact Hd.out j h
            · obtain rfl : j = k := by omega
              omega), by go_num, trivial⟩
          case measure => simp [intOf]; omega
      · go_wp2_with fail
        go_ret
        refine ⟨false, fun _ => ?_, rfl, rfl⟩
        have := Ts.deep_le (t := t) (n := b.toNat) (fun j hj => by have := Hd.out j (by omega); omega)
        omega

set_option maxHeartbeats 1000000 in
theorem equal_any (m : Nat) : ∀ (t : Ts) (va vb : Value) (w : World), t.count < m → Sl (U w) 0 w.heap.size va t → Sl (U w) 0 w.heap.size vb t →
    Calls Tryd.prog 20 #[va, vb] w fun e w' => e = .returned (.bool true) ∧ ∃ n, w' = w.drewN n := by
  induction m with
  | zero => intro t va vb w hm; omega
  | succ m ih =>
    intro t va vb w hm ha hb
    obtain ⟨pa, ca, rfl, ha1, ha2, _⟩ := ha.slice
    obtain ⟨pb, cb, rfl, hb1, hb2, _⟩ := hb.slice
    have hlen : t.len ≤ 9223372036854775807 := by unfold maxLen at ha2; omega
    have hne : ((t.len : Int) != (t.len : Int)) = false := by simp
    go_enter Tryd.func20, Tryd.ntmps20
    go_wp2_with fail
    clear hne
    go_loopw [5] (fun i wr => ∃ k n : Nat, k ≤ t.len ∧ i = .int .i64 k ∧ wr = w.drewN n) (fun i _ => t.len - (intOf i).toNat)
    case atStart => exact ⟨0, 0, Nat.zero_le _, rfl, rfl⟩
    case round =>
      obtain ⟨k, n, hk, rfl, rfl⟩ := hrel
      by_cases hlt : k < t.len
      · obtain ⟨b, o, rfl, _, _, _, hc1, _, v, hc2, hs⟩ := ha.at_ (k := k) hlt
        obtain ⟨b', o', rfl, _, _, _, hd1, _, v', hd2, hs'⟩ := hb.at_ (k := k) hlt
        have hcnt := Ts.count_kd hlt
        have e1 := U_cell hc1
        have e2 := U_cell hc2
        have e3 := U_cell hd1
        have e4 := U_cell hd2
        have hi := fun n => ih (t.kd k) v v' (w.drewN n) (by omega) hs hs'
        have HI := Lib.hid hi
        clear hi
        clear ih ha hb hc1 hc2 hd1 hd2 hs hs' hm hcnt
        have hne : (!((t.wd k).toList == (t.wd k).toList)) = false := by simp
        go_wp2_with fail
        go_quiet ((go_at_call 20; exact quiet_add_of (HI.out _)))
        go_wp2_with fail
        go_roundw
        case rel => exact ⟨k + 1, _, by omega, by go_num, rfl⟩
        case measure => simp [intOf]; omega
      · go_wp2_with fail
        go_ret
        exact ⟨rfl, n, rfl⟩


set_option maxHeartbeats 2000000 in
theorem parts_any (m : Nat) : ∀ (t : Ts) (va : Value) (b : Int) (w : World), t.count < m → t.deep ≤ 500 → 0 ≤ b → b ≤ 100000 → Sl (U w) 0 w.heap.size va t →
    Calls Tryd.prog 33 #[va, .int .i64 b] w fun e w' => e = .returned (.int .i64 (t.parts b 0)) ∧ ∃ q, w' = w.drewN q := by
  induction m with
  | zero => intro t va b w hm; omega
  | succ m ih =>
    intro t va b w hm hd hb0 hb ha
    obtain ⟨pa, ca, rfl, ha1, ha2, _⟩ := ha.slice
    unfold maxLen at ha2
    have hsm := ha.small
    go_enter Tryd.func33, Tryd.ntmps33
    go_wp2_with fail
    go_loopw [5, 6] (fun n i wr => ∃ (k : Nat) (m : Int) (q : Nat), k ≤ t.len ∧ 0 ≤ m ∧ m ≤ 80000000000000000 ∧ (t.drop k).parts b m = t.parts b 0 ∧ n = .int .i64 m ∧ i = .int .i64 k ∧ wr = w.drewN q) (fun _ i _ => t.len - (intOf i).toNat)
    case atStart => exact ⟨0, 0, 0, Nat.zero_le _, by omega, by omega, rfl, rfl, rfl, rfl⟩
    case round =>
      obtain ⟨k, m, q, hk, hm0, hm1, hm2, rfl, rfl, rfl⟩ := hrel
      have Hm2 := Lib.hid hm2
      clear hm2
      by_cases hlt : k < t.len
      · by_cases hmb : m ≤ b
        · obtain ⟨bl, o, rfl, _, _, _, hc1, hw, v, hc2, hs⟩ := ha.at_ (k := k) hlt
          have e1 := U_cell hc1
          have e2 := U_cell hc2
          have hdk := Ts.deep_kd hlt
          have hcnt := Ts.count_kd hlt
          have hi := fun q' => ih (t.kd k) v (b - m) (w.drewN q') (by omega) (by omega) (by omega) (by omega) hs
          have HI := Lib.hid hi
          have hp0 := Ts.parts_ge (t.kd k) (b - m) 0
          have hp1 := Ts.parts_le (Ts.small_kd hsm k) (b - m) 0
          have hfin : (t.drop (k + 1)).parts b (m + 1 + (t.wd k).size + (t.kd k).parts (b - m) 0) = t.parts b 0 := by
            rw [← Hm2.out, Ts.drop_step hlt, Ts.parts, if_pos hmb]
          have HF := Lib.hid hfin
          clear hi ih ha hc1 hc2 hs hfin Hm2
          generalize (t.kd k).parts (b - m) 0 = z at HI HF hp0 hp1
          have hz : z ≤ 71000000000000000 := by omega
          clear hp1 hcnt hsm hm
          have e3 : IntKind.i64.wrap (m + 1) = m + 1 := IntWalk.i64_in _ (by omega)
          have e4 : IntKind.i64.wrap (m + 1 + ((t.wd k).size : Int)) = m + 1 + ((t.wd k).size : Int) := IntWalk.i64_in _ (by omega)
          have e5 : IntKind.i64.wrap (b - m) = b - m := IntWalk.i64_in _ (by omega)
          have e6 : IntKind.i64.wrap (m + 1 + ((t.wd k).size : Int) + z) = m + 1 + ((t.wd k).size : Int) + z := IntWalk.i64_in _ (by omega)
          go_wp2_with fail
          go_quiet ((go_at_call 33; exact quiet_add_of (HI.out _)))
          go_wp2_with fail
          clear e1 e2 e3 e4 e5 e6
          go_roundw
          case rel => exact ⟨k + 1, _, _, by omega, by omega, by omega, HF.out, rfl, by go_num, rfl⟩
          case measure => simp [intOf]; omega
        · have hmb' : decide (m ≤ b) = false := by simpa using hmb
          have hmb2 : b < m := by omega
          clear hmb
          go_wp2_with fail
          go_ret
          refine ⟨?_, q, rfl⟩
          rw [← Hm2.out, Ts.drop_step hlt, Ts.parts, if_neg (by omega)]; rfl
      · go_wp2_with fail
        go_ret
        obtain rfl : k = t.len := by omega
        refine ⟨?_, q, rfl⟩
        rw [← Hm2.out, Ts.drop_len]; rfl

/-- Trees that are gone through in time. -/
def GreatSays (t : Ts) (w : World) (e : Ending) (w' : World) : Prop := ∃ r : Bool, (r = false → t.deep ≤ 500 ∧ t.great ≤ 4000) ∧ e = .returned (.bool r) ∧ ∃ q, w' = w.drewN q
set_option maxHeartbeats 1000000 in
theorem great_any (t : Ts) (va : Value) (w : World) (ha : Sl (U w) 0 w.heap.size va t) : Calls Tryd.prog 13 #[va] w (GreatSays t w) := by
  obtain ⟨pa, ca, rfl, _⟩ := ha.slice
  have h1 := Lib.hid (high_any 500 t (.slice pa t.len ca) 500 w (by omega) (by omega) (by omega) ha)
  have h2 := Lib.hid (fun hd => parts_any (t.count + 1) t (.slice pa t.len ca) 4000 w (by omega) hd (by omega) (by omega) ha)
  have h3 := Lib.hid (Ts.parts_eq t 4000 0)
  clear ha
  go_enter Tryd.func13, Tryd.ntmps13
  go_wp2_with fail
  refine h1.out.mono ?_
  rintro e w' ⟨r, hr, rfl, rfl⟩
  cases r
  · have hd : t.deep ≤ 500 := by have := hr rfl; omega
    clear hr
    go_wp2_with fail
    refine (h2.out hd).mono ?_
    rintro e w' ⟨rfl, q, rfl⟩
    generalize t.parts 4000 0 = z at h3
    go_wp2_with fail
    go_ret
    exact ⟨decide (4000 < z), fun h => ⟨hd, by have h' := of_decide_eq_false h; have := h3.out (by omega); omega⟩, rfl, q, rfl⟩
  · clear hr
    go_wp2_with fail
    go_ret
    exact ⟨true, fun h => (by cases h), rfl, 0, rfl⟩
end Go.Proofs.YtgkmhdifjgpbeaaDoor
