/-
  Two rows of trees that are the same are told to be. Conditions: none beyond what memory holds.
-/
import Derived.Test.YtgkmhdifjgpbeaaDoorTrees
import Derived.Test.YtgkmhdifjgpbeaaDoorProg
import Derived.IntWalk
namespace Go.Proofs.YtgkmhdifjgpbeaaDoor
open Go.RowKit

theorem quiet_add_of {P : Program} {f : FuncId} {args : Array Value} {w : World} {a n : Nat} {v : Value}
    (h : Calls P f args (w.drewN (a + n)) fun e w' => e = .returned v ∧ ∃ m, w' = (w.drewN (a + n)).drewN m) :
    Calls P f args (w.drewN (a + n)) fun e w'' => e = .returned v ∧ ∃ m, w'' = w.drewN (a + m) :=
  h.mono fun _ _ ⟨he, m, hm⟩ => ⟨he, n + m, by rw [hm, World.drewN_drewN, Nat.add_assoc]⟩

set_option maxHeartbeats 1000000 in
theorem same_any (m : Nat) : ∀ (t : Ts) (va vb : Value) (w : World), t.count < m → Sl (U w) 0 w.heap.size va t → Sl (U w) 0 w.heap.size vb t →
    Calls Tryd.prog 11 #[va, vb] w fun e w' => e = .returned (.bool true) ∧ ∃ n, w' = w.drewN n := by
  induction m with
  | zero => intro t va vb w hm; omega
  | succ m ih =>
    intro t va vb w hm ha hb
    obtain ⟨pa, ca, rfl, ha1, ha2, _⟩ := ha.slice
    obtain ⟨pb, cb, rfl, hb1, hb2, _⟩ := hb.slice
    have hlen : t.len ≤ 9223372036854775807 := by unfold maxLen at ha2; omega
    have hne : ((t.len : Int) != (t.len : Int)) = false := by simp
    go_enter Tryd.func11, Tryd.ntmps11
    go_wp2_with fail
    clear hne
    go_loopw [5] (fun i wr => ∃ k n : Nat, k ≤ t.len ∧ i = .int .i64 k ∧ wr = w.drewN n) (fun i _ => t.len - (intOf i).toNat)
    case atStart => exact ⟨0, 0, Nat.zero_le _, rfl, rfl⟩
    case round =>
      obtain ⟨k, n, hk, rfl, rfl⟩ := hrel
      by_cases hlt : k < t.len
      · obtain ⟨b, o, rfl, _, _, _, hc1, _, v, hc2, hs⟩ := ha.at_ (k := k) hlt
        obtain ⟨b', o', rfl, _, _, _, hd1, _, v', hd2, hs'⟩ := hb.at_ (k := k) hlt
        have hcnt := Ts.count_kd hlt
        have e1 := U_cell hc1
        have e2 := U_cell hc2
        have e3 := U_cell hd1
        have e4 := U_cell hd2
        have hi := fun n => ih (t.kd k) v v' (w.drewN n) (by omega) hs hs'
        have HI := Lib.hid hi
        clear hi
        clear ih ha hb hc1 hc2 hd1 hd2 hs hs' hm hcnt
        have hne : (!((t.wd k).toList == (t.wd k).toList)) = false := by simp
        go_wp2_with fail
        go_quiet ((go_at_call 11; exact quiet_add_of (HI.out _)))
        go_wp2_with fail
        go_roundw
        case rel => exact ⟨k + 1, _, by omega, by go_num, rfl⟩
        case measure => simp [intOf]; omega
      · go_wp2_with fail
        go_ret
        exact ⟨rfl, n, rfl⟩
end Go.Proofs.YtgkmhdifjgpbeaaDoor
