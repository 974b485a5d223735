/-
  What the program's writing tells: a text, or an error's number. Conditions: trees no deeper than 100000.
-/
import Derived.Test.YtgkmhdifjgpbeaaDoorWrite1
import Derived.Test.YtgkmhdifjgpbeaaDoorCatch
namespace Go.Proofs.YtgkmhdifjgpbeaaDoor
open Go.RowKit

/-- The text that is told: none where there is an error. -/
def wText (t : Ts) : List UInt8 := if wErr t = 0 then t.txt true else []

set_option maxRecDepth 100000 in
set_option maxHeartbeats 2000000 in
theorem triedS_any (t : Ts) (p : Option Addr) (c b0 : Nat) (w : World) (ha : Sl (U w) 0 w.heap.size (.slice p t.len c) t) (hd : t.deep ≤ 100000) (hc : w.cell? ⟨b0, 0, none⟩ = some (.slice p t.len c)) (hb0 : b0 < w.heap.size) :
    Calls Tryd.prog 34 #[.func (.func 35) #[] #[.pointer (some ⟨b0, 0, none⟩)]] w fun e w' => e = .returned (.tuple #[.string ⟨(wText t).toArray⟩, .int .i64 (wErr t)]) ∧ Below w.heap.size w w' := by
  have hmf : ∀ (fn : Fn) (first cap : Array Value) (w : World), (Instr.makeFunc fn first cap).run Tryd.prog w = .ok (.func fn first cap) w := fun _ _ _ _ => rfl
  have hB0 : Below w.heap.size w ((w.alloc (.cells #[.string ⟨#[]⟩] 9)).alloc (.cells #[.int .i64 0] 24)) := ((Below.refl _ _).alloc (Nat.le_refl _) _).alloc (by simp) _
  have HC := Lib.hid (write1_any t p c b0 _ ((ha.below hB0 (Nat.le_refl _)).widen (Nat.le_refl _) hB0.size) hd ((hB0.cell (p := ⟨b0, 0, none⟩) hb0).trans hc) (by simp; omega))
  have HB0 := Lib.hid hB0
  clear ha hc hB0 hd
  go_enter_defers Tryd.func34, Tryd.ntmps34
  go_wp2_with fail
  refine HC.out.mono ?_
  rintro e w1 ⟨hb1, rfl⟩
  have HB1 := Lib.hid (HB0.out.trans (hb1.mono (by simp; omega)))
  have d0 : w1.cell? ⟨w.heap.size, 0, none⟩ = some (.string ⟨#[]⟩) := (hb1.cell (p := ⟨w.heap.size, 0, none⟩) (by simp; omega)).trans (by simp [go_sem])
  have d1 : w1.cell? ⟨w.heap.size + 1, 0, none⟩ = some (.int .i64 0) := (hb1.cell (p := ⟨w.heap.size + 1, 0, none⟩) (by simp)).trans (by simp [go_sem])
  have f0 : w1.frozen? ⟨w.heap.size, 0, none⟩ = false := (hb1.frozen (p := ⟨w.heap.size, 0, none⟩) (by simp; omega)).trans (by simp [go_sem])
  have f1 : w1.frozen? ⟨w.heap.size + 1, 0, none⟩ = false := (hb1.frozen (p := ⟨w.heap.size + 1, 0, none⟩) (by simp)).trans (by simp [go_sem])
  clear hb1
  have hn1 : (⟨w.heap.size + 1, 0, none⟩ : Addr) ≠ ⟨w.heap.size, 0, none⟩ := by intro h; injection h; omega
  by_cases hz : wErr t = 0
  · rw [if_pos hz]
    have Hz := Lib.hid hz
    clear hz
    go_wp2
    refine leaves_cons (f := 56) (args := #[.pointer (some ⟨w.heap.size + 1, 0, none⟩), .pointer (some ⟨w.heap.size, 0, none⟩)]) (by simp) (by simp [go_sem]) ?_
    refine (catchS_idle _ _ _).mono ?_
    rintro e u' w'' ⟨rfl, rfl, rfl⟩
    have c0 : ((w1.setCell ⟨w.heap.size, 0, none⟩ (.string ⟨(t.txt true).toArray⟩)).setCell ⟨w.heap.size + 1, 0, none⟩ (.int .i64 0)).cell? ⟨w.heap.size, 0, none⟩ = some (.string ⟨(t.txt true).toArray⟩) :=
      (World.cell?_setCell_other _ _ _ _ hn1).trans (World.cell?_setCell_same' _ _ _ (by rw [d0]; rfl))
    have c1 : ((w1.setCell ⟨w.heap.size, 0, none⟩ (.string ⟨(t.txt true).toArray⟩)).setCell ⟨w.heap.size + 1, 0, none⟩ (.int .i64 0)).cell? ⟨w.heap.size + 1, 0, none⟩ = some (.int .i64 0) :=
      World.cell?_setCell_same' _ _ _ (by rw [World.cell?_setCell_other _ _ _ _ hn1.symm, d1]; rfl)
    refine ⟨_, by simp [results, Tryd.results34, go_sem, c0, c1]; rfl, ?_, ((HB1.out.setCell (p := ⟨w.heap.size, 0, none⟩) (Nat.le_refl _) _).setCell (p := ⟨w.heap.size + 1, 0, none⟩) (by simp) _)⟩
    unfold wText
    rw [if_pos Hz.out, Hz.out]
  · rw [if_neg hz]
    have Hz := Lib.hid hz
    clear hz
    refine leaves_cons (f := 56) (args := #[.pointer (some ⟨w.heap.size + 1, 0, none⟩), .pointer (some ⟨w.heap.size, 0, none⟩)]) (by simp) (by simp [go_sem]) ?_
    refine (catchS_thrown _ _ (wErr t) 0 ⟨#[]⟩ [] _ d1 d0 f1 f0 hn1).mono ?_
    rintro e u' w'' ⟨rfl, rfl, rfl⟩
    have c0 : ((w1.setCell ⟨w.heap.size + 1, 0, none⟩ (.int .i64 (wErr t))).setCell ⟨w.heap.size, 0, none⟩ (.string ⟨#[]⟩)).cell? ⟨w.heap.size, 0, none⟩ = some (.string ⟨#[]⟩) :=
      World.cell?_setCell_same' _ _ _ (by rw [World.cell?_setCell_other _ _ _ _ hn1, d0]; rfl)
    have c1 : ((w1.setCell ⟨w.heap.size + 1, 0, none⟩ (.int .i64 (wErr t))).setCell ⟨w.heap.size, 0, none⟩ (.string ⟨#[]⟩)).cell? ⟨w.heap.size + 1, 0, none⟩ = some (.int .i64 (wErr t)) :=
      (World.cell?_setCell_other _ _ _ _ hn1.symm).trans (World.cell?_setCell_same' _ _ _ (by rw [d1]; rfl))
    refine ⟨_, by simp [results, Tryd.results34, go_sem, c0, c1]; rfl, ?_, ((HB1.out.setCell (p := ⟨w.heap.size + 1, 0, none⟩) (by simp) _).setCell (p := ⟨w.heap.size, 0, none⟩) (Nat.le_refl _) _)⟩
    unfold wText
    rw [if_neg Hz.out]

theorem write_any (t : Ts) (va : Value) (w : World) (ha : Sl (U w) 0 w.heap.size va t) (hd : t.deep ≤ 100000) :
    Calls Tryd.prog 16 #[va] w fun e w' => e = .returned (.tuple #[.string ⟨(wText t).toArray⟩, .int .i64 (wErr t)]) ∧ Below w.heap.size w w' := by
  obtain ⟨p, c, rfl, _, _, _⟩ := ha.slice
  have hb : Below w.heap.size w (w.alloc (.cells #[.slice p t.len c] 23)) := (Below.refl _ _).alloc (Nat.le_refl _) _
  have H := Lib.hid (triedS_any t p c w.heap.size _ ((ha.below hb (Nat.le_refl _)).widen (Nat.le_refl _) hb.size) hd (by simp [go_sem]) (by simp))
  have HB := Lib.hid hb
  clear ha hd hb
  go_enter Tryd.func16, Tryd.ntmps16
  go_wp2_with fail
  refine H.out.mono ?_
  rintro e w1 ⟨rfl, hb1⟩
  go_wp2
  go_ret2
  exact ⟨rfl, HB.out.trans (hb1.mono (by simp))⟩
end Go.Proofs.YtgkmhdifjgpbeaaDoor
