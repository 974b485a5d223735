/-
  The document's word on whether a tree is one. Conditions: none beyond what memory holds.
-/
import Derived.Test.YtgkmhdifjgpbeaaDoorRefBytes
import Derived.Test.YtgkmhdifjgpbeaaDoorWtr
namespace Go.Proofs.YtgkmhdifjgpbeaaDoor
open Go.RowKit

theorem any_take (l : List UInt8) : ∀ k, (∀ j b, j < k → l[j]? = some b → isEnd b = false) → l.length ≤ k → l.any isEnd = false := by
  induction l with
  | nil => intro k _ _; rfl
  | cons b r ih =>
    intro k h hk
    cases k with
    | zero => simp at hk
    | succ k =>
      rw [List.any_cons, h 0 b (by omega) rfl, ih k (fun j c hj hc => h (j + 1) c (by omega) hc) (by simpa using hk)]; rfl
theorem any_at {l : List UInt8} {k : Nat} {b : UInt8} (h : l[k]? = some b) (hb : isEnd b = true) : l.any isEnd = true := by
  rw [List.any_eq_true]
  exact ⟨b, List.mem_of_getElem? h, hb⟩

def RefRightSays (wd : ByteArray) (t : Ts) (w : World) (e : Ending) (w' : World) : Prop := e = .returned (.bool (okOne wd t && t.right)) ∧ Below w.heap.size w w'

set_option maxRecDepth 100000 in
set_option maxHeartbeats 4000000 in
theorem refRight_any (m : Nat) : ∀ (t : Ts) (wd : ByteArray) (va : Value) (w : World), t.count < m → wd.size ≤ 140737488355328 → Sl (U w) 0 w.heap.size va t →
    Calls Tryd.prog 39 #[.agg #[.string wd, va]] w (RefRightSays wd t w) := by
  induction m with
  | zero => intro t wd va w hm; omega
  | succ m ih =>
    intro t wd va w hm hwd ha
    obtain ⟨pa, ca, rfl, ha1, ha2, _⟩ := ha.slice
    unfold maxLen at ha2
    have hlen : wd.data.toList.length = wd.size := by rw [Array.length_toList]; rfl
    have HLEN := Lib.hid hlen
    have HA := Lib.hid ha
    clear hlen ha
    go_enter Tryd.func39, Tryd.ntmps39
    go_wp2_with fail
    obtain ⟨W, hW⟩ : ∃ W, w.alloc (.cells #[.string wd, .slice pa t.len ca] 44) = W := ⟨_, rfl⟩
    have hbx : W.heap[w.heap.size]? = some (.cells #[.string wd, .slice pa t.len ca] 44 (0, 0)) := by rw [← hW]; exact heap_alloc_new w _
    have hBW : Below w.heap.size w W := by rw [← hW]; exact (Below.refl _ _).alloc (Nat.le_refl _) _
    have hszW : w.heap.size < W.heap.size := by rw [← hW]; simp
    rw [hW]
    clear hW
    have bx0 : W.cell? ⟨w.heap.size, 0, none⟩ = some (.string wd) := by simp [World.cell?, hbx]
    have bx1 : W.cell? ⟨w.heap.size, 1, none⟩ = some (.slice pa t.len ca) := by simp [World.cell?, hbx]
    have HBX := Lib.hid hbx
    have HBW := Lib.hid hBW
    clear hbx hBW
    go_loopw [3] (fun i wr => ∃ (k : Nat), k ≤ wd.size ∧ i = .int .i64 k ∧ W = wr ∧ (∀ j b, j < k → wd.data.toList[j]? = some b → isEnd b = false)) (fun i _ => wd.size - (intOf i).toNat)
    case atStart => exact ⟨0, Nat.zero_le _, rfl, rfl, fun j b hj => by omega⟩
    case round =>
      obtain ⟨k, hk, rfl, rfl, hE⟩ := hrel
      have HE := Lib.hid hE
      clear hE
      by_cases hlt : k < wd.size
      · have hget : wd.data.toList[k]? = some wd[k] := by rw [Array.getElem?_toList]; exact Array.getElem?_eq_getElem hlt
        have HG := Lib.hid hget
        clear hget
        have HP := Lib.hid (isEnd_parts wd[k])
        have hbad : isEnd wd[k] = true → okOne wd t = false := fun h => by unfold okOne; rw [any_at HG.out h]; rfl
        have HBAD := Lib.hid hbad
        clear hbad
        go_wp2_with fail
        refine (blank_any _ _).mono ?_
        rintro e w' ⟨rfl, rfl⟩
        cases hb : isBlank wd[k]
        · go_wp2_with fail
          refine (sign_any _ _).mono ?_
          rintro e w' ⟨rfl, rfl⟩
          cases hs : isSign wd[k]
          · by_cases h59 : wd[k].toNat = 59
            · have h59' : ((wd[k].toNat : Int) == 59) = true := by simp; omega
              have hend : isEnd wd[k] = true := by
                rw [HP.out, beq_nat]
                have : (wd[k].toNat == (59 : UInt8).toNat) = true := by simpa using h59
                rw [this, Bool.or_true]
              have HEND := Lib.hid hend
              clear h59 hend hb hs
              go_wp2_with fail
              go_ret
              exact ⟨by rw [HBAD.out HEND.out]; rfl, HBW.out⟩
            · have h59' : ((wd[k].toNat : Int) == 59) = false := by simp; omega
              have hend : isEnd wd[k] = false := by
                rw [HP.out, hb, hs, beq_nat]
                have : (wd[k].toNat == (59 : UInt8).toNat) = false := by simpa using h59
                rw [this]; rfl
              have HEND := Lib.hid hend
              clear h59 hend hb hs
              go_wp2_with fail
              go_roundw
              case rel => exact ⟨k + 1, by omega, by go_num, trivial, fun j b hj hjb => by
                rcases Nat.lt_or_ge j k with h | h
                · exact HE.out j b h hjb
                · obtain rfl : j = k := by omega
                  rw [HG.out] at hjb; cases hjb; exact HEND.out⟩
              case measure => simp [intOf]; omega
          · have hend : isEnd wd[k] = true := by rw [HP.out, hs]; simp
            have HEND := Lib.hid hend
            clear hend hb hs
            go_wp2_with fail
            go_ret
            exact ⟨by rw [HBAD.out HEND.out]; rfl, HBW.out⟩
        · have hend : isEnd wd[k] = true := by rw [HP.out, hb]; rfl
          have HEND := Lib.hid hend
          clear hend hb
          go_wp2_with fail
          go_ret
          exact ⟨by rw [HBAD.out HEND.out]; rfl, HBW.out⟩
      · have hany : wd.data.toList.any isEnd = false := any_take _ wd.size (fun j b hj h => HE.out j b (by omega) h) (by rw [HLEN.out]; exact Nat.le_refl _)
        have HANY := Lib.hid hany
        clear hany
        go_wp2_with fail
        clear hlt
        go_loopw [4] (fun i wr => ∃ (k : Nat), k ≤ t.len ∧ i = .int .i64 k ∧ Below w.heap.size w wr ∧ wr.cell? ⟨w.heap.size, 0, none⟩ = some (.string wd) ∧ wr.cell? ⟨w.heap.size, 1, none⟩ = some (.slice pa t.len ca) ∧ w.heap.size < wr.heap.size ∧ (t.take k).right = true) (fun i _ => t.len - (intOf i).toNat)
        case atStart => exact ⟨0, Nat.zero_le _, rfl, HBW.out, bx0, bx1, hszW, rfl⟩
        case round =>
          obtain ⟨k, hk, rfl, hB, by0, by1, hsz, hR⟩ := hrel
          have HR := Lib.hid hR
          clear hR bx0 bx1
          by_cases hlt : k < t.len
          · obtain ⟨bl, o, rfl, _, _, hbl, hc1, hw, v, hc2, hs⟩ := HA.out.at_ (k := k) hlt
            obtain ⟨pk, ck, rfl, hk1, _, _⟩ := hs.slice
            have e1 := U_cell (U_below hB _ _ _ hbl hc1)
            have e2 := U_cell (U_below hB _ _ _ hbl hc2)
            have hcnt := Ts.count_kd hlt
            have HX := Lib.hid (Ts.right_take hlt)
            have HN := Lib.hid (fun h => Ts.right_no (t := t) hlt h)
            have HIH := Lib.hid (ih (t.kd k) (t.wd k) _ wr (by omega) hw ((hs.below hB (Nat.le_refl _)).widen (Nat.le_refl _) (Nat.le_of_lt hsz)))
            have HB := Lib.hid hB
            clear hs hc1 hc2 ih hB hk1
            go_wp2_with fail
            refine HIH.out.mono ?_
            rintro e w2 ⟨rfl, hb2⟩
            have HB2 := Lib.hid (HB.out.trans (hb2.mono (Nat.le_of_lt hsz)))
            have bz0 := (hb2.cell (p := ⟨w.heap.size, 0, none⟩) hsz).trans by0
            have bz1 := (hb2.cell (p := ⟨w.heap.size, 1, none⟩) hsz).trans by1
            have hsz2 := hb2.size
            clear by0 by1 hb2
            cases hx : okOne (t.wd k) (t.kd k) && (t.kd k).right
            · have hno : t.right = false := HN.out (Bool.and_eq_false_iff.1 hx)
              have HNO := Lib.hid hno
              clear hx hno
              go_wp2_with fail
              go_ret
              exact ⟨by rw [HNO.out, Bool.and_false]; rfl, HB2.out⟩
            · have hyes : (t.take (k + 1)).right = true := by rw [HX.out, HR.out, hx]; rfl
              have HYES := Lib.hid hyes
              clear hx hyes
              go_wp2_with fail
              go_roundw
              case rel => exact ⟨k + 1, by omega, by go_num, HB2.out, bz0, bz1, by omega, HYES.out⟩
              case measure => simp [intOf]; omega
          · have hright : t.right = true := by
              have h1 := HR.out
              rw [show k = t.len by omega, Ts.take_len] at h1
              exact h1
            have HRT := Lib.hid hright
            have HOK : Hid (okOne wd t = (wd.size == 0 || t.len == 0)) := by unfold Hid okOne; rw [HANY.out]; rfl
            clear hright
            by_cases hz : wd.size = 0
            · have hz3 : wd.toList = [] := bytes_nil hz
              have hz2 : wd.toList.isEmpty = true := by rw [hz3]; rfl
              have HZ : Hid ((wd.size == 0) = true) := by unfold Hid; simpa using hz
              clear hz
              go_wp2_with fail
              go_ret
              exact ⟨by rw [HRT.out, HOK.out, HZ.out]; rfl, hB⟩
            · have hz3 : wd.toList.isEmpty = false := bytes_some hz
              have hz5 : ¬ wd.toList = [] := fun h => by rw [h] at hz3; cases hz3
              have HZ : Hid ((wd.size == 0) = false) := by unfold Hid; simpa using hz
              have HL : Hid (((t.len : Int) == 0) = (t.len == 0)) := by unfold Hid; rw [Bool.eq_iff_iff, beq_iff_eq, beq_iff_eq]; omega
              clear hz
              go_wp2_with fail
              go_ret
              refine ⟨?_, hB⟩
              rw [HRT.out, HOK.out, HZ.out, Bool.and_true, Bool.false_or, ← HL.out]
              rfl
end Go.Proofs.YtgkmhdifjgpbeaaDoor
