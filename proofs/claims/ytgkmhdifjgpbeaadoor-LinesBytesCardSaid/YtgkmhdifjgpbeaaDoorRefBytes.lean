/-
  The document's blanks and signs. Conditions: none.
-/
import Derived.Test.YtgkmhdifjgpbeaaDoorEnds
namespace Go.Proofs.YtgkmhdifjgpbeaaDoor
open Go.RowKit

def isSign (b : UInt8) : Bool := b == 40 || b == 41
theorem beq_nat (b c : UInt8) : (b == c) = (b.toNat == c.toNat) := by rw [Bool.eq_iff_iff, beq_iff_eq, beq_iff_eq, UInt8.toNat_inj]
theorem isEnd_parts (b : UInt8) : isEnd b = (isBlank b || isSign b || b == 59) := by
  simp only [isEnd, isBlank, isSign, Bool.or_assoc]

set_option maxHeartbeats 1000000 in
theorem sign_any (b : UInt8) (w : World) : Calls Tryd.prog 55 #[.int .u8 b.toNat] w fun e w' => e = .returned (.bool (isSign b)) ∧ w = w' := by
  have hs : isSign b = (b.toNat == 40 || b.toNat == 41) := by unfold isSign; rw [beq_nat, beq_nat]; rfl
  rw [hs]
  clear hs
  generalize b.toNat = n
  by_cases h1 : n = 40
  · subst h1
    go_enter Tryd.func55, Tryd.ntmps55
    go_wp2
    go_ret
    exact ⟨rfl, rfl⟩
  · have e1 : ((n : Int) == 40) = false := by simp; omega
    have e2 : (n == 40) = false := by simpa using h1
    rw [e2]
    clear h1 e2
    go_enter Tryd.func55, Tryd.ntmps55
    go_wp2
    go_ret
    refine ⟨?_, rfl⟩
    show Ending.returned (.bool ((n : Int) == 41)) = _
    have : ((n : Int) == 41) = (n == 41) := by rw [Bool.eq_iff_iff, beq_iff_eq, beq_iff_eq]; omega
    rw [this]; rfl

set_option maxHeartbeats 1000000 in
theorem blank_any (b : UInt8) (w : World) : Calls Tryd.prog 54 #[.int .u8 b.toNat] w fun e w' => e = .returned (.bool (isBlank b)) ∧ w = w' := by
  have hs : isBlank b = (b.toNat == 9 || b.toNat == 10 || b.toNat == 13 || b.toNat == 32) := by unfold isBlank; rw [beq_nat, beq_nat, beq_nat, beq_nat]; rfl
  rw [hs]
  clear hs
  generalize b.toNat = n
  have key : ∀ c : Nat, ((n : Int) == (c : Int)) = (n == c) := fun c => by rw [Bool.eq_iff_iff, beq_iff_eq, beq_iff_eq]; omega
  by_cases h1 : n = 9
  · subst h1
    go_enter Tryd.func54, Tryd.ntmps54
    go_wp2
    go_ret
    exact ⟨rfl, rfl⟩
  have e1 : ((n : Int) == 9) = false := by simp; omega
  have e1' : (n == 9) = false := by simpa using h1
  rw [e1']
  by_cases h2 : n = 10
  · subst h2
    go_enter Tryd.func54, Tryd.ntmps54
    go_wp2
    go_ret
    exact ⟨rfl, rfl⟩
  have e2 : ((n : Int) == 10) = false := by simp; omega
  have e2' : (n == 10) = false := by simpa using h2
  rw [e2']
  by_cases h3 : n = 13
  · subst h3
    go_enter Tryd.func54, Tryd.ntmps54
    go_wp2
    go_ret
    exact ⟨rfl, rfl⟩
  have e3 : ((n : Int) == 13) = false := by simp; omega
  have e3' : (n == 13) = false := by simpa using h3
  rw [e3']
  have k := Lib.hid (key 32)
  clear h1 h2 h3 e1' e2' e3' key
  go_enter Tryd.func54, Tryd.ntmps54
  go_wp2
  go_ret
  refine ⟨?_, rfl⟩
  show Ending.returned (.bool ((n : Int) == ((32 : Nat) : Int))) = _
  rw [k.out]; rfl
end Go.Proofs.YtgkmhdifjgpbeaaDoor
