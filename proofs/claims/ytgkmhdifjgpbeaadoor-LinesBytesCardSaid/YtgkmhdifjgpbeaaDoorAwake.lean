/-
  The chapter's example holds. Conditions: none.
-/
import Derived.Test.YtgkmhdifjgpbeaaDoorRead
import Derived.BigGuardPart
import Derived.WalkKit
import Derived.Test.YtgkmhdifjgpbeaaDoorTok
import Derived.Test.YtgkmhdifjgpbeaaDoorWrite
import Derived.Test.YtgkmhdifjgpbeaaDoorDeep
namespace Go.Proofs.YtgkmhdifjgpbeaaDoor
open Go.RowKit

theorem below_step {a b c : World} (h : Below a.heap.size a b) (k : Below b.heap.size b c) : Below a.heap.size a c := h.trans (k.mono h.size)
theorem below_drew (w : World) : Below w.heap.size w w.drew := ⟨rfl, rfl, rfl, Nat.le_refl _, fun _ _ => rfl⟩
theorem below_drewN (w : World) (n : Nat) : Below w.heap.size w (w.drewN n) := ⟨rfl, rfl, rfl, Nat.le_refl _, fun _ _ => rfl⟩

def awText : ByteArray := ⟨#[40, 97, 32, 98, 41, 59, 32, 99, 10, 40, 41]⟩
def awIn : Ts := .cons ⟨#[97]⟩ .nil (.cons ⟨#[98]⟩ .nil .nil)
def awT : Ts := .cons ⟨#[]⟩ awIn (.cons ⟨#[]⟩ .nil .nil)
theorem aw_read : readE awText.data.toList = .ok awT := by rfl
theorem aw_ts : rTs awText.data.toList = awT := by unfold rTs; rw [aw_read]
theorem aw_err : rErr awText.data.toList = 0 := by unfold rErr; rw [aw_read]
theorem aw_text : wText awT = [40, 97, 32, 98, 41, 32, 40, 41] := by rfl
theorem aw_werr : wErr awT = 0 := by rfl

set_option maxRecDepth 100000 in
set_option maxHeartbeats 4000000 in
theorem awake_any (w : World) : Calls Tryd.prog 8 #[] w fun e w' => e = .returned (.bool true) ∧ Below w.heap.size w w' := by
  have HR := Lib.hid (read_any awText w (by decide))
  have HAT := Lib.hid aw_ts
  have HAE := Lib.hid aw_err
  go_enter Tryd.func8, Tryd.ntmps8
  go_wp2_with fail
  refine HR.out.mono ?_
  rintro e w1 ⟨hb1, va, rfl, hsl, -⟩
  rw [HAT.out] at hsl
  rw [HAE.out]
  obtain ⟨p, c, rfl, hc1, hc2, -⟩ := hsl.slice
  have HSL := Lib.hid hsl
  have HW := Lib.hid (write_any awT _ w1 (hsl.widen (Nat.zero_le _) (Nat.le_refl _)) (by decide))
  obtain ⟨s8, hs8⟩ : ∃ s8 : ByteArray, (⟨#[40, 97, 32, 98, 41, 32, 40, 41]⟩ : ByteArray) = s8 := ⟨_, rfl⟩
  rw [aw_werr, show (⟨(wText awT).toArray⟩ : ByteArray) = ⟨#[40, 97, 32, 98, 41, 32, 40, 41]⟩ from rfl, hs8] at HW
  have HB1 := Lib.hid hb1
  clear hb1 hsl
  go_wp2_with fail
  refine HW.out.mono ?_
  rintro e w2 ⟨rfl, hb2⟩
  have hs2 := (HSL.out.below hb2 (Nat.le_refl _)).widen (Nat.zero_le _) hb2.size
  have HB2 := Lib.hid (HB1.out.trans (hb2.mono HB1.out.size))
  obtain ⟨bl, o, hp, -, -, -, hA0, -, v0, hA1, hS0⟩ := hs2.at_ (k := 0) (by decide)
  obtain ⟨bl', o', hp', -, -, -, -, -, v1, hB1', hS1⟩ := hs2.at_ (k := 1) (by decide)
  subst hp
  cases hp'
  obtain ⟨p0, c0, hv0, -, -, -⟩ := hS0.slice
  have hv0' : v0 = .slice p0 2 c0 := hv0
  subst hv0'
  obtain ⟨p1, c1, hv1, -, -, -⟩ := hS1.slice
  have hv1' : v1 = .slice p1 0 c1 := hv1
  subst hv1'
  obtain ⟨bk, ok, hpk, -, -, -, hK, -, -⟩ := hS0.at_ (k := 1) (by decide)
  subst hpk
  have HD := Lib.hid (deep_any (awIn.count + 1) awIn ⟨#[]⟩ _ w2 (Nat.lt_succ_self _) (by decide) (hS0.widen (Nat.zero_le _) (Nat.le_refl _)))
  have x0 : w2.cell? ⟨bl, o, none⟩ = some (.string ⟨#[]⟩) := U_cell hA0
  have x1 : w2.cell? ⟨bl, o + 1, none⟩ = some (.slice (some ⟨bk, ok, none⟩) 2 c0) := by have := U_cell hA1; simpa using this
  have x2 : w2.cell? ⟨bl, o + 3, none⟩ = some (.slice p1 0 c1) := by have := U_cell hB1'; simpa using this
  have x3 : w2.cell? ⟨bk, ok + 2, none⟩ = some (.string ⟨#[98]⟩) := by have := U_cell hK; exact this
  have x4 : w2.cell? ⟨bl, o + 2 + 1, none⟩ = some (.slice p1 0 c1) := x2
  have hlen : awT.len = 2 := rfl
  rw [hlen]
  have q8 : (s8.toList == [40, 97, 32, 98, 41, 32, 40, 41]) = true := by rw [← hs8]; exact bytes_eq rfl
  obtain ⟨sb, hsb⟩ : ∃ sb : ByteArray, (⟨#[98]⟩ : ByteArray) = sb := ⟨_, rfl⟩
  have qb : (sb.toList == [98]) = true := by rw [← hsb]; exact bytes_eq rfl
  rw [hsb] at x3
  clear hb2 hA0 hA1 hB1' hS0 hS1 hK hs2 hv0 hv1 hc1 hc2 hlen hs8 hsb
  go_wp2_with fail
  refine HD.out.mono ?_
  rintro e w3 ⟨rfl, hb3⟩
  have HB3 := Lib.hid (HB2.out.trans (hb3.mono HB2.out.size))
  rw [show ((awIn.deep + 1 : Nat) : Int) = 2 from rfl]
  clear hb3
  go_wp2_with fail
  go_ret
  exact ⟨rfl, HB3.out⟩
end Go.Proofs.YtgkmhdifjgpbeaaDoor
