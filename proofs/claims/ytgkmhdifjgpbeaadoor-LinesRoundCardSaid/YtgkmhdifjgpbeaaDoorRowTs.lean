/-
  A row of trees that came in, opened for a walk, and shut behind it. Conditions: none.
-/
import Derived.Test.YtgkmhdifjgpbeaaDoorRowBase
import Derived.Test.YtgkmhdifjgpbeaaDoorOpenTs
namespace Go.Proofs.YtgkmhdifjgpbeaaDoor
open Go.ChangeShapes Go.WideShapes Go.ChangeAt Go.RowKit

set_option maxRecDepth 100000
theorem laidOut : laidOutB Tryd.prog = true := by kernel_rfl
theorem readable23 : Tryd.prog.readableRec 23 = true := by kernel_rfl
theorem row23 : 23 < Tryd.prog.types.size := of_decide_eq_true (by kernel_rfl)

theorem open_ts {H : Type} {enc : TypeId × Value → H} {W : World} {b0 : Nat} {v : Value} {d : DataW H} {ps : List MemPlace} (hval : Value.okWide Tryd.prog W .any b0 23 v) (h : DataW.Trod enc Tryd.prog W 0 (fun _ => true) true 23 v d ps)
    (hz : ∀ b off, MemPlace.cell b off ∈ ps → W.frozen? ⟨b, off, none⟩ = false) (hw : (d.weights Tryd.prog 23).all (· ≤ reachBytes) = true) : ∃ T, Sl (U W) 0 W.heap.size v T := by
  obtain ⟨a, len, cap, rfl⟩ := okWide_slice Tryd.underlying23 hval
  obtain ⟨fuel, hf⟩ := h
  obtain ⟨v', T, e, hT⟩ := open_trees fuel _ _ hf hz hw
  have hv : (Value.slice a len cap).cells.toList = [.slice a len cap] := rfl
  first
    | (rw [hv] at e; cases e; exact ⟨T, hT⟩)
    | (simp [Value.cells] at e; subst e; exact ⟨T, hT⟩)

theorem stay_ts {H : Type} {enc : TypeId × Value → H} {W W' : World} {v : Value} {d : DataW H} {ps : List MemPlace} {sp : Nat → Bool} (h : DataW.Trod enc Tryd.prog W 0 (fun _ => true) true 23 v d ps) (hb : Below W.heap.size W W') (hlt : ∀ x ∈ ps, x.block < W.heap.size)
    (hsp : ∀ p ∈ ps, sp p.block = true) : DataW.Trod enc Tryd.prog W' 0 sp true 23 v d ps :=
  WideElems.Trod_stays laidOut readable23 row23 h (fun x hx => hb.same (hlt x hx)) hsp
end Go.Proofs.YtgkmhdifjgpbeaaDoor
