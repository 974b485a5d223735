/-
  The two deferred functions that take up what is thrown. Conditions: what is thrown is an error's number.
-/
import Derived.Test.YtgkmhdifjgpbeaaDoorProg
import Derived.WalkKit
import Derived.Recover
import Derived.Defers
namespace Go.Proofs.YtgkmhdifjgpbeaaDoor
open Go.RowKit

set_option maxRecDepth 100000 in
set_option maxHeartbeats 1000000 in
theorem catchS_thrown (pe px : Addr) (n x : Int) (s : ByteArray) (older : List PanicEntry) (w : World) (he : w.cell? pe = some (.int .i64 x)) (hx : w.cell? px = some (.string s)) (fe : w.frozen? pe = false) (fx : w.frozen? px = false) (hne : pe ≠ px) :
    CallsD Tryd.prog 56 #[.pointer (some pe), .pointer (some px)] (.panicking ({ v := .iface 24 (.int .i64 n), recovered := false } :: older)) w fun e u' w' =>
      e = .returned (.tuple #[]) ∧ u' = .panicking ({ v := .iface 24 (.int .i64 n), recovered := true } :: older) ∧ w' = (w.setCell pe (.int .i64 n)).setCell px (.string ⟨#[]⟩) := by
  refine callsD_of_wpS Tryd.func56 rfl fun c₀ cs hu => ?_
  apply wpS_seq
  apply wpS_region
  simp [wpOpsS, go_sem, recoverD, hu, Tryd.ntmps56, Exit.thenS]
  have hx' : (w.setCell pe (.int .i64 n)).cell? px = some (.string s) := (World.cell?_setCell_other _ _ _ _ hne).trans hx
  refine wpS_of_wp (wp_mono (Q := fun e a w' => e = .normal ∧ a.defers = [] ∧ w' = (w.setCell pe (.int .i64 n)).setCell px (.string ⟨#[]⟩)) ?_ ?_)
  · clear hu hne hx
    have hta : ∀ W : World, (Instr.typeAssert (.iface 24 (.int .i64 n)) 20 24 true).run Tryd.prog W = .ok (.tuple #[.int .i64 n, .bool true]) W := fun W => by simp [Instr.typeAssert, run_underlying Tryd.underlying24]
    rw [show #[Value.pointer (some pe), Value.pointer (some px)] ++ ((Array.replicate 15 undef).setIfInBounds 3 (Value.iface 24 (Value.int IntKind.i64 n))).setIfInBounds 0 (Value.iface 24 (Value.int IntKind.i64 n)) = #[Value.pointer (some pe), Value.pointer (some px), (Value.iface 24 (Value.int IntKind.i64 n)), undef, undef, (Value.iface 24 (Value.int IntKind.i64 n)), undef, undef, undef, undef, undef, undef, undef, undef, undef, undef, undef] from rfl]
    go_wp2
  · rintro e a w' ⟨rfl, hd, rfl⟩
    cases c₀
    simp_all [bodyPostS, results, Tryd.results56]

set_option maxRecDepth 100000 in
set_option maxHeartbeats 1000000 in
theorem catchS_idle (pe px : Addr) (w : World) :
    CallsD Tryd.prog 56 #[.pointer (some pe), .pointer (some px)] .returning w fun e u' w' => e = .returned (.tuple #[]) ∧ u' = .returning ∧ w' = w := by
  refine callsD_of_wpS Tryd.func56 rfl fun c₀ cs hu => ?_
  apply wpS_seq
  apply wpS_region
  simp [wpOpsS, go_sem, recoverD, hu, Tryd.ntmps56, Exit.thenS]
  refine wpS_of_wp (wp_mono (Q := fun e a w' => e = .normal ∧ a.defers = [] ∧ w' = w) ?_ ?_)
  · clear hu
    rw [show #[Value.pointer (some pe), Value.pointer (some px)] ++ ((Array.replicate 15 undef).setIfInBounds 3 Value.nilIface).setIfInBounds 0 Value.nilIface = #[Value.pointer (some pe), Value.pointer (some px), Value.nilIface, undef, undef, Value.nilIface, undef, undef, undef, undef, undef, undef, undef, undef, undef, undef, undef] from rfl]
    go_wp2
  · rintro e a w' ⟨rfl, hd, rfl⟩
    cases c₀
    simp_all [bodyPostS, results, Tryd.results56]

set_option maxRecDepth 100000 in
set_option maxHeartbeats 1000000 in
theorem catchR_thrown (pe px : Addr) (n x : Int) (q0 : Option Addr) (n0 c0 : Nat) (older : List PanicEntry) (w : World) (he : w.cell? pe = some (.int .i64 x)) (hx : w.cell? px = some (.slice q0 n0 c0)) (fe : w.frozen? pe = false) (fx : w.frozen? px = false) (hne : pe ≠ px) :
    CallsD Tryd.prog 47 #[.pointer (some pe), .pointer (some px)] (.panicking ({ v := .iface 24 (.int .i64 n), recovered := false } :: older)) w fun e u' w' =>
      e = .returned (.tuple #[]) ∧ u' = .panicking ({ v := .iface 24 (.int .i64 n), recovered := true } :: older) ∧ w' = (w.setCell pe (.int .i64 n)).setCell px (.slice none 0 0) := by
  refine callsD_of_wpS Tryd.func47 rfl fun c₀ cs hu => ?_
  apply wpS_seq
  apply wpS_region
  simp [wpOpsS, go_sem, recoverD, hu, Tryd.ntmps47, Exit.thenS]
  have hx' : (w.setCell pe (.int .i64 n)).cell? px = some (.slice q0 n0 c0) := (World.cell?_setCell_other _ _ _ _ hne).trans hx
  refine wpS_of_wp (wp_mono (Q := fun e a w' => e = .normal ∧ a.defers = [] ∧ w' = (w.setCell pe (.int .i64 n)).setCell px (.slice none 0 0)) ?_ ?_)
  · clear hu hne hx
    have hta : ∀ W : World, (Instr.typeAssert (.iface 24 (.int .i64 n)) 20 24 true).run Tryd.prog W = .ok (.tuple #[.int .i64 n, .bool true]) W := fun W => by simp [Instr.typeAssert, run_underlying Tryd.underlying24]
    rw [show #[Value.pointer (some pe), Value.pointer (some px)] ++ ((Array.replicate 15 undef).setIfInBounds 3 (Value.iface 24 (Value.int IntKind.i64 n))).setIfInBounds 0 (Value.iface 24 (Value.int IntKind.i64 n)) = #[Value.pointer (some pe), Value.pointer (some px), (Value.iface 24 (Value.int IntKind.i64 n)), undef, undef, (Value.iface 24 (Value.int IntKind.i64 n)), undef, undef, undef, undef, undef, undef, undef, undef, undef, undef, undef] from rfl]
    go_wp2
  · rintro e a w' ⟨rfl, hd, rfl⟩
    cases c₀
    simp_all [bodyPostS, results, Tryd.results47]

set_option maxRecDepth 100000 in
set_option maxHeartbeats 1000000 in
theorem catchR_idle (pe px : Addr) (w : World) :
    CallsD Tryd.prog 47 #[.pointer (some pe), .pointer (some px)] .returning w fun e u' w' => e = .returned (.tuple #[]) ∧ u' = .returning ∧ w' = w := by
  refine callsD_of_wpS Tryd.func47 rfl fun c₀ cs hu => ?_
  apply wpS_seq
  apply wpS_region
  simp [wpOpsS, go_sem, recoverD, hu, Tryd.ntmps47, Exit.thenS]
  refine wpS_of_wp (wp_mono (Q := fun e a w' => e = .normal ∧ a.defers = [] ∧ w' = w) ?_ ?_)
  · clear hu
    rw [show #[Value.pointer (some pe), Value.pointer (some px)] ++ ((Array.replicate 15 undef).setIfInBounds 3 Value.nilIface).setIfInBounds 0 Value.nilIface = #[Value.pointer (some pe), Value.pointer (some px), Value.nilIface, undef, undef, Value.nilIface, undef, undef, undef, undef, undef, undef, undef, undef, undef, undef, undef] from rfl]
    go_wp2
  · rintro e a w' ⟨rfl, hd, rfl⟩
    cases c₀
    simp_all [bodyPostS, results, Tryd.results47]
end Go.Proofs.YtgkmhdifjgpbeaaDoor
