/-
  What is tried. Conditions: nothing is thrown. A row laid above a term, by a loop over slices.Backward: what each round leaves. A row laid above a term. slices.Grow of nil, slices.Concat of rows of terms. Conditions: no more than 4000000 terms. Conditions: as each lemma states them.
-/
import Derived.Test.YtkcmapimcgppmaaGreatDoorN15
import Derived.Recover
import Derived.Defers
import Derived.Test.YtkcmapimcgppmaaGreatDoorN13
import Derived.Test.YtkcmapimcgppmaaGreatDoorN14
import Derived.Test.YtkcmapimcgppmaaGreatDoorN05
import Derived.Lib.AppendZeros
set_option linter.all false
set_option linter.unusedVariables false
set_option linter.unusedSimpArgs false
set_option linter.unnecessarySimpa false
section
namespace Go.Proofs.YtkcmapimcgppmaaGreatDoor
open Go.RowKit

/-- Nothing of it is the call's own. -/
def Dc.unl : Dc → Bool
  | .nil => true
  | .lit _ r => r.unl
  | .nilr _ _ r => r.unl
  | .row none _ _ _ r => r.unl
  | .seg none _ r => r.unl
  | _ => false
def AV.unl : AV → Bool
  | .c d => d.unl
  | .agg d => d.unl
  | .bx _ _ => false
  | .cons a r => a.unl && r.unl
  | .tup l => l.unl
  | .fn _ a b => a.unl && b.unl
  | _ => true
theorem Gh.Ow_none {g : Gh} {d : Ds} {xs : List Value} : g.Ow none d xs := fun j e => by cases e
theorem RepC.mv {g g' : Gh} (hF : ∀ b o v, g.F b o = some v → g'.F b o = some v) (hh : g.w.heap.size ≤ g'.w.heap.size) {d : Dc} : ∀ {xs : List Value}, d.unl = true → RepC g d xs → RepC g' d xs := by
  induction d with
  | nil => intro xs _ h; exact h
  | lit v r ih => rintro xs hu ⟨h0, ys, e, h⟩; exact ⟨h0, ys, e, ih hu h⟩
  | nilr sz e r ih => rintro xs hu ⟨ys, e, h⟩; exact ⟨ys, e, ih hu h⟩
  | row k sz e x r ih =>
    cases k with
    | some _ => intro xs hu; cases hu
    | none => rintro xs hu ⟨h0, v, ys, e, h1, -, h⟩; exact ⟨h0, v, ys, e, h1.mono (fun b o v _ hv => hF b o v hv) hh, Gh.Ow_none, ih hu h⟩
  | seg k d r ih =>
    cases k with
    | some _ => intro xs hu; cases hu
    | none => rintro xs hu ⟨h0, ys, zs, e, h1, -, h⟩; exact ⟨h0, ys, zs, e, h1.mono (fun b o v _ hv => hF b o v hv) hh, Gh.Ow_none, ih hu h⟩
  | blk k v sz e x r _ _ => intro xs hu; cases hu
theorem RepV.mv {g g' : Gh} (hF : ∀ b o v, g.F b o = some v → g'.F b o = some v) (hh : g.w.heap.size ≤ g'.w.heap.size) {a : AV} (hs : a.flat = true ∨ ∀ b o v, b < g.w.heap.size → g.Fs b o = some v → g'.Fs b o = some v) : ∀ {xs : List Value}, a.unl = true → RepV g a xs → RepV g' a xs := by
  induction a with
  | junk => intros; trivial
  | v x => intro xs _ h; exact h
  | c d => intro xs hu h; exact RepC.mv hF hh hu h
  | agg d => rintro xs hu ⟨ys, e, h⟩; exact ⟨ys, e, RepC.mv hF hh hu h⟩
  | bx k o => intro xs hu; cases hu
  | el x =>
    rintro xs _ ⟨h0, b, o, ys, e, hb, h1, h2⟩
    rcases hs with hs | hs
    · cases hs
    · exact ⟨h0, b, o, ys, e, Nat.lt_of_lt_of_le hb hh, h1.mono (fun b o v _ hv => hF b o v hv) hh, fun j u hu => hs _ _ _ hb (h2 j u hu)⟩
  | nil => intro xs _ h; exact h
  | cons a r iha ihr =>
    rintro xs hu ⟨y, ys, e, h1, h2⟩
    simp only [AV.unl, Bool.and_eq_true] at hu
    simp only [AV.flat, Bool.and_eq_true] at hs
    exact ⟨y, ys, e, iha (hs.imp And.left id) hu.1 h1, ihr (hs.imp And.right id) hu.2 h2⟩
  | tup l ih => rintro xs hu ⟨ys, e, h⟩; exact ⟨ys, e, ih hs hu h⟩
  | fn f a b iha ihb =>
    rintro xs hu ⟨ys, zs, e, h1, h2⟩
    simp only [AV.unl, Bool.and_eq_true] at hu
    simp only [AV.flat, Bool.and_eq_true] at hs
    exact ⟨ys, zs, e, iha (hs.imp And.left id) hu.1 h1, ihb (hs.imp And.right id) hu.2 h2⟩
theorem RepC.frz {g : Gh} {d : Dc} : ∀ {xs : List Value}, RepC g d xs → RepC g d.frz xs := by
  induction d with
  | nil => intro xs h; exact h
  | lit v r ih => rintro xs ⟨h0, ys, e, h⟩; exact ⟨h0, ys, e, ih h⟩
  | nilr sz e r ih => rintro xs ⟨ys, e, h⟩; exact ⟨ys, e, ih h⟩
  | row k sz e x r ih => rintro xs ⟨h0, v, ys, e, h1, -, h⟩; exact ⟨h0, v, ys, e, h1, Gh.Ow_none, ih h⟩
  | seg k d r _ => intro xs h; exact ⟨h.good, xs, [], by simp, h.vs, Gh.Ow_none, rfl⟩
  | blk k v sz e x r _ ih => rintro xs ⟨h0, -, v, ys, e, h1, -, h⟩; exact ⟨h0, v, ys, e, h1, Gh.Ow_none, ih h⟩
theorem RepV.frz {g : Gh} {a : AV} : ∀ {xs : List Value}, RepV g a xs → RepV g a.frz xs := by
  induction a with
  | v x => intro xs h; exact h
  | c d => intro xs h; exact RepC.frz h
  | agg d => rintro xs ⟨ys, e, h⟩; exact ⟨ys, e, RepC.frz h⟩
  | nil => intro xs h; exact h
  | cons a r iha ihr => rintro xs ⟨y, ys, e, h1, h2⟩; exact ⟨y, ys, e, iha h1, ihr h2⟩
  | tup l ih => rintro xs ⟨ys, e, h⟩; exact ⟨ys, e, ih h⟩
  | fn f a b iha ihb => rintro xs ⟨ys, zs, e, h1, h2⟩; exact ⟨ys, zs, e, iha h1, ihb h2⟩
  | _ => intros; trivial
theorem Dc.frz_unl (d : Dc) : d.frz.unl = true := by
  induction d with
  | seg k d r _ => rfl
  | nil => rfl
  | lit v r ih => exact ih
  | nilr sz e r ih => exact ih
  | row k sz e x r ih => exact ih
  | blk k ver sz e x r _ ih => exact ih
theorem AV.frz_unl (a : AV) : a.frz.unl = true := by
  induction a with
  | c d => exact d.frz_unl
  | agg d => exact d.frz_unl
  | cons a r iha ihr => simp [AV.frz, AV.unl, iha, ihr]
  | tup l ih => exact ih
  | fn f a b iha ihb => simp [AV.frz, AV.unl, iha, ihb]
  | _ => rfl
theorem Holds.frz {P : Program} {G : World → Prop} {f : Nat} {ps r : AV} (h : Holds P G f ps r) : Holds P G f ps r.frz :=
  ⟨h.1, (AV.frz_plain r).1, fun F w vs hF hG hv => (h.2.2 F w vs hF hG hv).mono fun e w' ⟨v, fp, h1, h2, h3, h4, h5⟩ => ⟨v, fp, h1, h2, RepV.frz h3, h4, h5⟩⟩

set_option maxRecDepth 100000 in
set_option maxHeartbeats 1000000 in
theorem catchC_idle (p : Addr) (w : World) :
    CallsD Tryz.prog 160 #[.pointer (some p)] .returning w fun e u' w' => e = .returned (.tuple #[]) ∧ u' = .returning ∧ w' = w := by
  refine callsD_of_wpS Tryz.func160 rfl fun c₀ cs hu => ?_
  apply wpS_seq
  apply wpS_region
  simp [wpOpsS, go_sem, recoverD, hu, Tryz.ntmps160, Exit.thenS]
  refine wpS_of_wp (wp_mono (Q := fun e a w' => e = .normal ∧ a.defers = [] ∧ w' = w) ?_ ?_)
  · clear hu
    rw [show #[Value.pointer (some p)] ++ ((Array.replicate 16 undef).setIfInBounds 4 Value.nilIface).setIfInBounds 0 Value.nilIface = #[Value.pointer (some p), Value.nilIface, undef, undef, undef, Value.nilIface, undef, undef, undef, undef, undef, undef, undef, undef, undef, undef, undef] from rfl]
    go_wp2
  · rintro e a w' ⟨rfl, hd, rfl⟩
    cases c₀
    simp_all [bodyPostS, results, Tryz.results160]
set_option maxRecDepth 100000 in
set_option maxHeartbeats 1000000 in
theorem triedC_any (g : Nat) (x y : Array Value) (w : World) (hg : IsCode Tryz.prog g) (R : Value → World → Prop) (hc : Calls Tryz.prog g (x ++ y) (w.alloc (.cells #[.slice none 0 0] 56)) fun e w' => ∃ p n c, e = .returned (.slice p n c) ∧ Below (w.heap.size + 1) (w.alloc (.cells #[.slice none 0 0] 56)) w' ∧ R (.slice p n c) w') :
    Calls Tryz.prog 79 #[.func (.func g) x y] w fun e w' => ∃ v w1, e = .returned v ∧ Below (w.heap.size + 1) (w.alloc (.cells #[.slice none 0 0] 56)) w1 ∧ R v w1 ∧ w' = w1.setCell ⟨w.heap.size, 0, none⟩ v := by
  have hmf : ∀ (fn : Fn) (first cap : Array Value) (w : World), (Instr.makeFunc fn first cap).run Tryz.prog w = .ok (.func fn first cap) w := fun _ _ _ _ => rfl
  have hcf : ∀ w, (callFunc g (x ++ y)).run Tryz.prog w = .ok (.enter g (x ++ y)) w := fun w => by
    obtain ⟨fn, k1, k2, k3⟩ := hg
    simp [callFunc, k1, k2, k3]
  have HC := Lib.hid hc
  clear hc hg
  go_enter_defers Tryz.func79, Tryz.ntmps79
  go_wp2_with fail
  refine HC.out.mono ?_
  rintro e w1 ⟨p, n, c, rfl, hb1, hr⟩
  have HB := Lib.hid hb1
  have HR := Lib.hid hr
  have d0 : w1.cell? ⟨w.heap.size, 0, none⟩ = some (.slice none 0 0) := (hb1.cell (p := ⟨w.heap.size, 0, none⟩) (by simp)).trans (by simp [go_sem])
  have f0 : w1.frozen? ⟨w.heap.size, 0, none⟩ = false := (hb1.frozen (p := ⟨w.heap.size, 0, none⟩) (by simp)).trans (by simp [go_sem])
  clear hb1 hr
  go_wp2
  refine leaves_cons (f := 160) (args := #[.pointer (some ⟨w.heap.size, 0, none⟩)]) (by simp) (by simp [go_sem]) ?_
  refine (catchC_idle _ _).mono ?_
  rintro e u' w'' ⟨rfl, rfl, rfl⟩
  have c0 : (w1.setCell ⟨w.heap.size, 0, none⟩ (.slice p n c)).cell? ⟨w.heap.size, 0, none⟩ = some (.slice p n c) := World.cell?_setCell_same' _ _ _ (by rw [d0]; rfl)
  simp [Leaves, settle, results, Tryz.results79, go_sem, c0]
  exact ⟨w1, HB.out, HR.out, rfl⟩

set_option maxRecDepth 100000 in
set_option maxHeartbeats 1000000 in
theorem catchT_idle (p : Addr) (w : World) :
    CallsD Tryz.prog 194 #[.pointer (some p)] .returning w fun e u' w' => e = .returned (.tuple #[]) ∧ u' = .returning ∧ w' = w := by
  refine callsD_of_wpS Tryz.func194 rfl fun c₀ cs hu => ?_
  apply wpS_seq
  apply wpS_region
  simp [wpOpsS, go_sem, recoverD, hu, Tryz.ntmps194, Exit.thenS]
  refine wpS_of_wp (wp_mono (Q := fun e a w' => e = .normal ∧ a.defers = [] ∧ w' = w) ?_ ?_)
  · clear hu
    rw [show #[Value.pointer (some p)] ++ ((Array.replicate 16 undef).setIfInBounds 4 Value.nilIface).setIfInBounds 0 Value.nilIface = #[Value.pointer (some p), Value.nilIface, undef, undef, undef, Value.nilIface, undef, undef, undef, undef, undef, undef, undef, undef, undef, undef, undef] from rfl]
    go_wp2
  · rintro e a w' ⟨rfl, hd, rfl⟩
    cases c₀
    simp_all [bodyPostS, results, Tryz.results194]
set_option maxRecDepth 100000 in
set_option maxHeartbeats 1000000 in
theorem triedT_any (g : Nat) (x y : Array Value) (w : World) (hg : IsCode Tryz.prog g) (R : Value → World → Prop) (hc : Calls Tryz.prog g (x ++ y) (w.alloc (.cells #[.slice none 0 0] 22)) fun e w' => ∃ p n c, e = .returned (.slice p n c) ∧ Below (w.heap.size + 1) (w.alloc (.cells #[.slice none 0 0] 22)) w' ∧ R (.slice p n c) w') :
    Calls Tryz.prog 112 #[.func (.func g) x y] w fun e w' => ∃ v w1, e = .returned v ∧ Below (w.heap.size + 1) (w.alloc (.cells #[.slice none 0 0] 22)) w1 ∧ R v w1 ∧ w' = w1.setCell ⟨w.heap.size, 0, none⟩ v := by
  have hmf : ∀ (fn : Fn) (first cap : Array Value) (w : World), (Instr.makeFunc fn first cap).run Tryz.prog w = .ok (.func fn first cap) w := fun _ _ _ _ => rfl
  have hcf : ∀ w, (callFunc g (x ++ y)).run Tryz.prog w = .ok (.enter g (x ++ y)) w := fun w => by
    obtain ⟨fn, k1, k2, k3⟩ := hg
    simp [callFunc, k1, k2, k3]
  have HC := Lib.hid hc
  clear hc hg
  go_enter_defers Tryz.func112, Tryz.ntmps112
  go_wp2_with fail
  refine HC.out.mono ?_
  rintro e w1 ⟨p, n, c, rfl, hb1, hr⟩
  have HB := Lib.hid hb1
  have HR := Lib.hid hr
  have d0 : w1.cell? ⟨w.heap.size, 0, none⟩ = some (.slice none 0 0) := (hb1.cell (p := ⟨w.heap.size, 0, none⟩) (by simp)).trans (by simp [go_sem])
  have f0 : w1.frozen? ⟨w.heap.size, 0, none⟩ = false := (hb1.frozen (p := ⟨w.heap.size, 0, none⟩) (by simp)).trans (by simp [go_sem])
  clear hb1 hr
  go_wp2
  refine leaves_cons (f := 194) (args := #[.pointer (some ⟨w.heap.size, 0, none⟩)]) (by simp) (by simp [go_sem]) ?_
  refine (catchT_idle _ _).mono ?_
  rintro e u' w'' ⟨rfl, rfl, rfl⟩
  have c0 : (w1.setCell ⟨w.heap.size, 0, none⟩ (.slice p n c)).cell? ⟨w.heap.size, 0, none⟩ = some (.slice p n c) := World.cell?_setCell_same' _ _ _ (by rw [d0]; rfl)
  simp [Leaves, settle, results, Tryz.results112, go_sem, c0]
  exact ⟨w1, HB.out, HR.out, rfl⟩

theorem triedC_holds {g : Nat} {x y r : AV} (hx : x.isLL = true) (hux : x.unl = true) (huy : y.unl = true) (h : Holds Tryz.prog KA g (x.app y) r) (hsl : ∀ g v, RepV g r [v] → ∃ p n c, v = .slice p n c) : HH 79 [.fn (.func g) x y] r.frz := by
  refine ⟨code_of Tryz.func79 (by decide) rfl, (AV.frz_plain r).1, fun F w vs hF hG hv => ?_⟩
  obtain ⟨v, rfl, ys, zs, e1, h1, h2⟩ := list1 hv
  cases e1
  have hb : Below w.heap.size w (w.alloc (.cells #[.slice none 0 0] 56)) := below_alloc _ _
  have hFW : ∀ b o v, F b o = some v → U (w.alloc (.cells #[.slice none 0 0] 56)) b o = some v := fun b o v hv => U_below hb _ _ _ (U_lt (hF b o v hv)) (hF b o v hv)
  have hmv : ∀ {a : AV} {xs : List Value}, a.unl = true → RepV (argGh F w) a xs → RepV (argGh F (w.alloc (.cells #[.slice none 0 0] 56))) a xs := fun hu h => RepV.mv (g := argGh F w) (g' := argGh F (w.alloc (.cells #[.slice none 0 0] 56))) (fun _ _ _ h => h) hb.size (.inr fun b o v hlt hv => by
    have hlt : b < w.heap.size := hlt
    have h3 : (if b < w.heap.size then U w b o else F b o) = some v := hv
    rw [if_pos hlt] at h3
    show (if b < (w.alloc (.cells #[.slice none 0 0] 56)).heap.size then U (w.alloc (.cells #[.slice none 0 0] 56)) b o else F b o) = some v
    rw [if_pos (Nat.lt_of_lt_of_le hlt hb.size)]
    exact U_below hb _ _ _ hlt h3) hu h
  have hc := h.2.2 F _ (ys ++ zs) hFW (stKA _ _ hb hG) (RepV.app (hmv huy h2) (hmv hux h1) hx)
  refine (triedC_any g ys.toArray zs.toArray w h.1 (fun v w1 => ∃ fp, RepV (resGh F (w.alloc (.cells #[.slice none 0 0] 56)) w1 fp) r [v]) ?_).mono ?_
  · rw [show ys.toArray ++ zs.toArray = (ys ++ zs).toArray by simp]
    refine hc.mono ?_
    rintro e w' ⟨v, fp, rfl, h3, h4, -⟩
    obtain ⟨p, n, c, rfl⟩ := hsl _ _ h4
    exact ⟨p, n, c, rfl, by simpa using h3, fp, h4⟩
  · rintro e w' ⟨v, w1, rfl, h3, ⟨fp, h4⟩, rfl⟩
    have hsz : w.heap.size + 1 ≤ w1.heap.size := by have := h3.size; simpa using this
    refine ⟨v, fun _ => [], rfl, (hb.trans (h3.mono (by omega))).setCell (p := ⟨w.heap.size, 0, none⟩) (Nat.le_refl _) _, RepV.mv (g := resGh F (w.alloc (.cells #[.slice none 0 0] 56)) w1 fp) (fun b o u hu => ?_) (by show w1.heap.size ≤ (World.setCell _ _ _).heap.size; simp [World.setCell]) (.inl (AV.frz_plain r).2.2) (AV.frz_unl r) (RepV.frz h4), fun k b hb => (by cases hb), fun k k' b hb => (by cases hb)⟩
    have hu : (if b < (w.alloc (.cells #[.slice none 0 0] 56)).heap.size then F b o else U w1 b o) = some u := hu
    show (if b < w.heap.size then F b o else U (w1.setCell ⟨w.heap.size, 0, none⟩ v) b o) = some u
    split at hu
    · rename_i hlt
      rw [if_pos (U_lt (hF b o u hu))]
      exact hu
    · rename_i hlt
      have hlt : ¬ b < w.heap.size + 1 := by simpa using hlt
      rw [if_neg (by omega)]
      rw [U_block (Below.heap_setCell _ _ _ _ (by show b ≠ w.heap.size; omega))]
      exact hu

theorem triedT_holds {g : Nat} {x y r : AV} (hx : x.isLL = true) (hux : x.unl = true) (huy : y.unl = true) (h : Holds Tryz.prog KA g (x.app y) r) (hsl : ∀ g v, RepV g r [v] → ∃ p n c, v = .slice p n c) : HH 112 [.fn (.func g) x y] r.frz := by
  refine ⟨code_of Tryz.func112 (by decide) rfl, (AV.frz_plain r).1, fun F w vs hF hG hv => ?_⟩
  obtain ⟨v, rfl, ys, zs, e1, h1, h2⟩ := list1 hv
  cases e1
  have hb : Below w.heap.size w (w.alloc (.cells #[.slice none 0 0] 22)) := below_alloc _ _
  have hFW : ∀ b o v, F b o = some v → U (w.alloc (.cells #[.slice none 0 0] 22)) b o = some v := fun b o v hv => U_below hb _ _ _ (U_lt (hF b o v hv)) (hF b o v hv)
  have hmv : ∀ {a : AV} {xs : List Value}, a.unl = true → RepV (argGh F w) a xs → RepV (argGh F (w.alloc (.cells #[.slice none 0 0] 22))) a xs := fun hu h => RepV.mv (g := argGh F w) (g' := argGh F (w.alloc (.cells #[.slice none 0 0] 22))) (fun _ _ _ h => h) hb.size (.inr fun b o v hlt hv => by
    have hlt : b < w.heap.size := hlt
    have h3 : (if b < w.heap.size then U w b o else F b o) = some v := hv
    rw [if_pos hlt] at h3
    show (if b < (w.alloc (.cells #[.slice none 0 0] 22)).heap.size then U (w.alloc (.cells #[.slice none 0 0] 22)) b o else F b o) = some v
    rw [if_pos (Nat.lt_of_lt_of_le hlt hb.size)]
    exact U_below hb _ _ _ hlt h3) hu h
  have hc := h.2.2 F _ (ys ++ zs) hFW (stKA _ _ hb hG) (RepV.app (hmv huy h2) (hmv hux h1) hx)
  refine (triedT_any g ys.toArray zs.toArray w h.1 (fun v w1 => ∃ fp, RepV (resGh F (w.alloc (.cells #[.slice none 0 0] 22)) w1 fp) r [v]) ?_).mono ?_
  · rw [show ys.toArray ++ zs.toArray = (ys ++ zs).toArray by simp]
    refine hc.mono ?_
    rintro e w' ⟨v, fp, rfl, h3, h4, -⟩
    obtain ⟨p, n, c, rfl⟩ := hsl _ _ h4
    exact ⟨p, n, c, rfl, by simpa using h3, fp, h4⟩
  · rintro e w' ⟨v, w1, rfl, h3, ⟨fp, h4⟩, rfl⟩
    have hsz : w.heap.size + 1 ≤ w1.heap.size := by have := h3.size; simpa using this
    refine ⟨v, fun _ => [], rfl, (hb.trans (h3.mono (by omega))).setCell (p := ⟨w.heap.size, 0, none⟩) (Nat.le_refl _) _, RepV.mv (g := resGh F (w.alloc (.cells #[.slice none 0 0] 22)) w1 fp) (fun b o u hu => ?_) (by show w1.heap.size ≤ (World.setCell _ _ _).heap.size; simp [World.setCell]) (.inl (AV.frz_plain r).2.2) (AV.frz_unl r) (RepV.frz h4), fun k b hb => (by cases hb), fun k k' b hb => (by cases hb)⟩
    have hu : (if b < (w.alloc (.cells #[.slice none 0 0] 22)).heap.size then F b o else U w1 b o) = some u := hu
    show (if b < w.heap.size then F b o else U (w1.setCell ⟨w.heap.size, 0, none⟩ v) b o) = some u
    split at hu
    · rename_i hlt
      rw [if_pos (U_lt (hF b o u hu))]
      exact hu
    · rename_i hlt
      have hlt : ¬ b < w.heap.size + 1 := by simpa using hlt
      rw [if_neg (by omega)]
      rw [U_block (Below.heap_setCell _ _ _ _ (by show b ≠ w.heap.size; omega))]
      exact hu
end Go.Proofs.YtkcmapimcgppmaaGreatDoor
end
section
namespace Go.Proofs.YtkcmapimcgppmaaGreatDoor
open Go.RowKit Go.Shelf

/-- What the cells hold but of two blocks; of old memory what is given. -/
def Fr (F : Nat → Nat → Option Value) (B g : Nat) (w : World) (b o : Nat) : Option Value := if b = g ∨ b = g + 1 then none else if b < B then F b o else U w b o
section
variable {F : Nat → Nat → Option Value} {B g : Nat} {w w' : World} {b o : Nat} {v : Value}
theorem Fr_no (h : Fr F B g w b o = some v) : ¬ (b = g ∨ b = g + 1) := by
  unfold Fr at h; split at h
  · cases h
  · assumption
theorem Fr_ne (h : Fr F B g w b o = some v) : b ≠ g := fun e => Fr_no h (.inl e)
theorem Fr_ne2 (h : Fr F B g w b o = some v) : b ≠ g + 1 := fun e => Fr_no h (.inr e)
theorem Fr_new (h : U w b o = some v) (hB : B ≤ b) (hb : b ≠ g) (hb2 : b ≠ g + 1) : Fr F B g w b o = some v := by
  unfold Fr; rw [if_neg (fun e => e.elim hb hb2), if_neg (by omega)]; exact h
theorem Fr_old (h : F b o = some v) (hB : b < B) (hb : b ≠ g) (hb2 : b ≠ g + 1) : Fr F B g w b o = some v := by
  unfold Fr; rw [if_neg (fun e => e.elim hb hb2), if_pos hB]; exact h
theorem Fr_on (h : ∀ b, B ≤ b → b < w.heap.size → b ≠ g → (∃ o v, U w b o = some v) → w'.heap[b]? = w.heap[b]?) (b o : Nat) (v : Value) (hv : Fr F B g w b o = some v) : Fr F B g w' b o = some v := by
  have h1 := Fr_ne hv
  have h2 := Fr_ne2 hv
  unfold Fr at hv
  rw [if_neg (fun e => e.elim h1 h2)] at hv
  split at hv
  · rename_i hb; exact Fr_old hv hb h1 h2
  · rename_i hb; exact Fr_new ((U_block (h b (by omega) (U_lt hv) h1 ⟨o, v, hv⟩) o).trans hv) (by omega) h1 h2
end
def FoldJ (F : Nat → Nat → Option Value) (B : Nat) (t : Ts) (kk : Int) (g : Nat) (t0 : Tm) (wS : World) (pre : List Nat) (W : World) : Prop :=
  BelowX g wS W ∧ (g + 1 < wS.heap.size ∧ B ≤ g) ∧ ∃ v, RMx (Fr F B g W) W.heap.size v (acc kk t t0 pre).h (acc kk t t0 pre).x ∧ ∀ cs, v = .agg cs → ∀ o u, cs[o]? = some u → U W g o = some u
theorem FoldJ.on {F : Nat → Nat → Option Value} {B : Nat} {t : Ts} {kk : Int} {g : Nat} {t0 : Tm} {wS W W' : World} {pre : List Nat} {row : Option Nat} (h : FoldJ F B t kk g t0 wS pre W) (hg : W.grownBy W' row) (hr : ∀ r, row = some r → wS.heap.size ≤ r ∧ ∃ o : Obj, W.heap[r]? = some o ∧ o.isCells = false) : FoldJ F B t kk g t0 wS pre W' := by
  obtain ⟨h1, h2, v, h3, h4⟩ := h
  have hne : ∀ b o u, U W b o = some u → some b ≠ row := fun b o u hu e => by
    obtain ⟨-, ob, ho, hc⟩ := hr b e.symm
    obtain ⟨ob', ho', hc'⟩ := cells_of_cell (U_cell hu)
    rw [ho] at ho'
    cases ho'
    rw [hc] at hc'
    cases hc'
  refine ⟨h1.grown hg (fun r e => (hr r e).1), h2, v, h3.mono (fun b o u _ hu => Fr_on (fun b _ hb hbg ⟨o, v, hv⟩ => hg.block b hb (hne b o v hv)) b o u hu) hg.size, fun cs e o u hu => ?_⟩
  have := h4 cs e o u hu
  exact (U_block (hg.block g (U_lt this) (hne g o u this)) o).trans this
theorem FoldJ.own {F : Nat → Nat → Option Value} {B : Nat} {t : Ts} {kk : Int} {g : Nat} {t0 : Tm} {wS : World} {n : Nat} : OwnFrom wS.heap.size (fun (pre : List (Fin n)) W => FoldJ F B t kk g t0 wS (pre.map (·.val)) W) := fun _ _ _ _ h hg hr => h.on hg hr
theorem FoldJ.below {F : Nat → Nat → Option Value} {B : Nat} {t : Ts} {kk : Int} {g : Nat} {t0 : Tm} {wS W W' : World} {pre : List Nat} (h : FoldJ F B t kk g t0 wS pre W) (hb : Below W.heap.size W W') : FoldJ F B t kk g t0 wS pre W' := h.on (row := none) ⟨hb.os, hb.tape, hb.output, hb.size, fun k hk _ => hb.block k hk⟩ (fun r e => by cases e)
/-- The round: a block of two terms is laid, the variable is that node. -/
theorem FoldJ.step {F : Nat → Nat → Option Value} {B : Nat} {t : Ts} {kk : Int} {g k : Nat} {t0 : Tm} {wS W W' : World} {pre : List Nat} (h : FoldJ F B t kk g t0 wS pre W) {e0 e1 e2 e3 e4 a0 a1 a2 a3 a4 : Value} (hE : RMx (Fr F B g W) W.heap.size (.agg #[e0, e1, e2, e3, e4]) (t.hd k) (t.kd k))
    (hA : ∀ o u, (#[a0, a1, a2, a3, a4] : Array Value)[o]? = some u → U W g o = some u)
    (hW : (((((W.alloc (.cells #[e0, e1, e2, e3, e4, a0, a1, a2, a3, a4] 26)).setCell ⟨g, 0, none⟩ (.int .i64 kk)).setCell ⟨g, 1, none⟩ (.int .i64 0)).setCell ⟨g, 2, none⟩ (.int .i64 0)).setCell ⟨g, 3, none⟩ (.slice none 0 0)).setCell ⟨g, 4, none⟩ (.slice (some ⟨W.heap.size, 0, none⟩) 2 2) = W') :
    FoldJ F B t kk g t0 wS (pre ++ [k]) W' ∧ KeepsFrom wS.heap.size W W' := by
  obtain ⟨h1, h2, v, h3, h4⟩ := h
  obtain ⟨Wb, hWb⟩ : ∃ Wb, W.alloc (.cells #[e0, e1, e2, e3, e4, a0, a1, a2, a3, a4] 26) = Wb := ⟨_, rfl⟩
  rw [hWb] at hW
  have hb : Below W.heap.size W Wb := by rw [← hWb]; exact below_alloc _ _
  have hsb : Wb.heap.size = W.heap.size + 1 := by rw [← hWb]; simp
  have hgW : g < W.heap.size := by have := h1.size; omega
  have ub : ∀ o u, (#[a0, a1, a2, a3, a4] : Array Value)[o]? = some u → U Wb g o = some u := fun o u hu => U_below hb _ _ _ hgW (hA o u hu)
  obtain ⟨x0, x1, x2, x3, x4, hk⟩ := five_set (ub 0 _ rfl) (ub 1 _ rfl) (ub 2 _ rfl) (ub 3 _ rfl) (ub 4 _ rfl) hW
  have hs' : W'.heap.size = W.heap.size + 1 := by rw [← hW]; simpa using hsb
  have hbg : Below g W W' := by
    rw [← hW]
    exact (((((hb.mono (Nat.le_of_lt hgW)).setCell (p := ⟨g, 0, none⟩) (Nat.le_refl _) _).setCell (p := ⟨g, 1, none⟩) (Nat.le_refl _) _).setCell (p := ⟨g, 2, none⟩) (Nat.le_refl _) _).setCell (p := ⟨g, 3, none⟩) (Nat.le_refl _) _).setCell (p := ⟨g, 4, none⟩) (Nat.le_refl _) _
  have hn : ∀ j u, (#[e0, e1, e2, e3, e4, a0, a1, a2, a3, a4] : Array Value)[j]? = some u → Fr F B g W' W.heap.size j = some u := fun j u hu => by
    have h5 : U Wb W.heap.size j = some u := by rw [← hWb]; exact laid_cell hu
    exact Fr_new ((U_block (hk _ (by omega)) j).trans h5) (by have := h1.size; omega) (by omega) (by have := h1.size; omega)
  have hF : ∀ b o u, b < W.heap.size → Fr F B g W b o = some u → Fr F B g W' b o = some u := fun b o u _ hu => Fr_on (fun b _ hb' hbg _ => (hk b hbg).trans (hb.block b hb')) b o u hu
  obtain ⟨e3', e4', e1', hEV⟩ := (hE.mono hF (by omega : W.heap.size ≤ W'.heap.size)).cells
  obtain ⟨a3', a4', a1', hAV⟩ := (h3.mono hF (by omega : W.heap.size ≤ W'.heap.size)).cells
  have hva := h4 _ a1'
  have qa : ∀ o u u', (#[a0, a1, a2, a3, a4] : Array Value)[o]? = some u → (#[.int .i64 (acc kk t t0 pre).h.k, .int .i64 (acc kk t t0 pre).h.n, .int .i64 (acc kk t t0 pre).h.a, a3', a4'] : Array Value)[o]? = some u' → u = u' := fun o u u' hu hu' => by
    have z1 := hA o u hu
    rw [hva o u' hu'] at z1
    exact (Option.some.inj z1).symm
  have b0 : a0 = .int .i64 (acc kk t t0 pre).h.k := qa 0 _ _ rfl rfl
  have b1 : a1 = .int .i64 (acc kk t t0 pre).h.n := qa 1 _ _ rfl rfl
  have b2 : a2 = .int .i64 (acc kk t t0 pre).h.a := qa 2 _ _ rfl rfl
  have b3 : a3 = a3' := qa 3 _ _ rfl rfl
  have b4 : a4 = a4' := qa 4 _ _ rfl rfl
  injection e1' with e1'
  have d0 := congrArg (fun a : Array Value => a[0]?) e1'
  have d1 := congrArg (fun a : Array Value => a[1]?) e1'
  have d2 := congrArg (fun a : Array Value => a[2]?) e1'
  have d3 := congrArg (fun a : Array Value => a[3]?) e1'
  have d4 := congrArg (fun a : Array Value => a[4]?) e1'
  simp at d0 d1 d2 d3 d4
  subst d0 d1 d2 d3 d4 b0 b1 b2 b3 b4
  have hAt : At (Fr F B g W') W'.heap.size (tDs ty (.cons (t.hd k) (t.kd k) (acc kk t t0 pre).ts)) W.heap.size 0 := by
    refine (At.app (x := tDs ty (.cons (t.hd k) (t.kd k) .nil)) (y := tDs ty (acc kk t t0 pre).ts)).2 ⟨hEV.at_ (fun j u hu => ?_), hAV.at_ (fun j u hu => ?_)⟩
    · rw [Nat.zero_add]
      refine hn j u ?_
      have hj : j < 5 := by have := (List.getElem?_eq_some_iff.1 hu).1; simpa using this
      have hall : j = 0 ∨ j = 1 ∨ j = 2 ∨ j = 3 ∨ j = 4 := by omega
      rcases hall with rfl | rfl | rfl | rfl | rfl <;> exact hu
    · rw [show (0 : Nat) + (tDs ty (.cons (t.hd k) (t.kd k) .nil)).len + j = 5 + j by rw [tDs_len]; simp [Ts.len]]
      refine hn (5 + j) u ?_
      have hj : j < 5 := by have := (List.getElem?_eq_some_iff.1 hu).1; simpa using this
      have hall : j = 0 ∨ j = 1 ∨ j = 2 ∨ j = 3 ∨ j = 4 := by omega
      rcases hall with rfl | rfl | rfl | rfl | rfl <;> exact hu
  refine ⟨⟨h1.trans ⟨?_, ?_, ?_, by omega, fun b hb' hbg => (hk b hbg).trans (hb.block b hb')⟩, h2, .agg #[.int .i64 kk, .int .i64 0, .int .i64 0, .slice none 0 0, .slice (some ⟨W.heap.size, 0, none⟩) 2 2], ?_, fun cs e o u hu => ?_⟩, ⟨by omega, fun b o hB ho _ => ?_⟩⟩
  · exact hbg.os
  · exact hbg.tape
  · exact hbg.output
  · rw [acc_snoc]
    exact ⟨none, 0, 0, some ⟨W.heap.size, 0, none⟩, 2, 2, rfl, Rd.none_ _ _ _, _, _, _, rfl, by rw [tDs_len]; rfl, Nat.le_refl _, by decide, by rw [tDs_len]; simp [Ts.len, Ds.len, Tm.ts], .inr (.inr ⟨_, _, rfl, by omega, hAt, trivial⟩)⟩
  · injection e with e
    subst e
    have ho : o < 5 := by have := (Array.getElem?_eq_some_iff.1 hu).1; simpa using this
    have hall : o = 0 ∨ o = 1 ∨ o = 2 ∨ o = 3 ∨ o = 4 := by omega
    rcases hall with rfl | rfl | rfl | rfl | rfl
    · cases hu; exact x0
    · cases hu; exact x1
    · cases hu; exact x2
    · cases hu; exact x3
    · cases hu; exact x4
  · exact ((hk b (by omega)).trans (hb.block b (Array.getElem?_eq_some_iff.1 ho).1)).trans ho

end Go.Proofs.YtkcmapimcgppmaaGreatDoor
end
section
namespace Go.Proofs.YtkcmapimcgppmaaGreatDoor
open Go.RowKit Go.Shelf
attribute [local go_sem] Oper.semAt_some

/-- A row above a term. -/
def aboveT (k : Int) : Ts → Tm → Tm
  | .nil, b => b
  | .cons h x r, b => ⟨kH k, .cons h x (aboveT k r b).ts⟩
theorem acc_above (kk : Int) (bt : Tm) (t : Ts) : ∀ j, j ≤ t.len → acc kk t bt (dn t.len j) = aboveT kk (t.drop (t.len - j)) bt := by
  intro j
  induction j with
  | zero => intro _; rw [Nat.sub_zero, Ts.drop_len]; rfl
  | succ j ih =>
    intro hj
    rw [dn_succ, acc_snoc, ih (by omega), Ts.drop_step (by omega : t.len - (j + 1) < t.len), show t.len - (j + 1) + 1 = t.len - j by omega, show t.len - 1 - j = t.len - (j + 1) by omega]
    rfl
theorem elems_F {F : Nat → Nat → Option Value} {hi : Nat} {q : Option Addr} {n c : Nat} {t : Ts} (h : Rd F hi (.slice q n c) 5 (tDs ty t) .nil) (hn : n = t.len) : ∃ vs : Nat → Nat → Value, (∀ k, k < t.len → ∃ b o, q = some ⟨b, o, none⟩ ∧ b < hi ∧ ∀ i, i < 5 → F b (o + k * 5 + i) = some (vs k i)) ∧ ∀ k, k < t.len → RMx F hi (el vs k) (t.hd k) (t.kd k) := by
  by_cases h0 : t.len = 0
  · exact ⟨fun _ _ => undef, fun k hk => by omega, fun k hk => by omega⟩
  · obtain ⟨b, o, rfl, hb, ha, -⟩ := Rd.lies h (by omega)
    refine ⟨fun k i => (F b (o + k * 5 + i)).getD undef, fun k hk => ⟨b, o, rfl, hb, fun i hi => ?_⟩, fun k hk => ?_⟩
    · obtain ⟨h1, h2, h3, ⟨u, h4, -⟩, ⟨u', h5, -⟩⟩ := t_at ha hk
      have hall : i = 0 ∨ i = 1 ∨ i = 2 ∨ i = 3 ∨ i = 4 := by omega
      show F b (o + k * 5 + i) = some ((F b (o + k * 5 + i)).getD undef)
      rcases hall with rfl | rfl | rfl | rfl | rfl
      · rw [Nat.add_zero, h1]; rfl
      · rw [h2]; rfl
      · rw [h3]; rfl
      · rw [h4]; rfl
      · rw [h5]; rfl
    · obtain ⟨h1, h2, h3, ⟨u, h4, h6⟩, ⟨u', h5, h7⟩⟩ := t_at ha hk
      obtain ⟨q1, n1, c1, e1, -⟩ := id h6
      obtain ⟨q2, n2, c2, e2, -⟩ := id h7
      refine ⟨q1, n1, c1, q2, n2, c2, ?_, e1 ▸ h6, e2 ▸ h7⟩
      unfold el
      simp only [Nat.add_zero, h1, h2, h3, h4, h5, Option.getD_some, e1, e2]
theorem BkD.onx {B n c g : Nat} {p : Option Addr} {vs : Nat → Nat → Value} {w W : World} (h : BkD B p n c vs w) (hb : BelowX g w W) (hB : B ≠ g) (hp : 0 < n → ∀ b o, p = some ⟨b, o, none⟩ → b ≠ g) : BkD B p n c vs W := by
  refine ⟨(cell_block (hb.block B (World.block_lt_of_cell? _ _ h.1) hB) 0).trans h.1, fun k hk => ?_⟩
  obtain ⟨b, o, e, hc⟩ := h.2 k hk
  exact ⟨b, o, e, fun i hi => (cell_block (hb.block b (World.block_lt_of_cell? _ _ (hc i hi)) (hp (by omega) b o e)) _).trans (hc i hi)⟩
set_option maxRecDepth 100000 in
set_option maxHeartbeats 4000000 in
theorem above_any (kk : Int) (va : Value) (t : Ts) (b0 b1 b2 b3 b4 : Value) (bt : Tm) (w : World) (F : Nat → Nat → Option Value) (hFU : ∀ b o v, F b o = some v → U w b o = some v) (ha : Rd F w.heap.size va 5 (tDs ty t) .nil) (hbt : RMx F w.heap.size (.agg #[b0, b1, b2, b3, b4]) bt.h bt.x) : Calls Tryz.prog 218 #[.agg #[va], .int .i64 kk, .agg #[b0, b1, b2, b3, b4]] w fun e w' => ∃ v, e = .returned v ∧ Below w.heap.size w w' ∧ RMx (fun b o => if b < w.heap.size then F b o else U w' b o) w'.heap.size v (aboveT kk t bt).h (aboveT kk t bt).x := by
  refine (callsIn_wide (n := 3)).1 ?_
  refine callsIn_of_wp_marks Tryz.func218 rfl trivial ?_ rfl
  simp only [Tryz.ntmps218, List.size_toArray, List.length_cons, List.length_nil, Nat.reduceAdd, Nat.reduceSub, Array.replicate_succ, Array.replicate_zero, List.push_toArray, List.append_toArray, List.nil_append, List.cons_append]
  obtain ⟨q, n, c, rfl, hq1, hc1, hc2, hc3, -⟩ := id ha
  have hn : n = t.len := by rw [tDs_len] at hq1; omega
  subst hn
  clear hc3 hq1
  unfold maxLen at hc2
  obtain ⟨w2, hw2⟩ : ∃ w2, (((w.alloc (.cells #[.slice q t.len c] 250)).alloc (.cells #[.int .i64 kk] 23)).alloc (.cells #[b0, b1, b2, b3, b4] 26)).alloc (.cells zeros 26) = w2 := ⟨_, rfl⟩
  have hb2 : Below w.heap.size w w2 := by rw [← hw2]; exact below_step (below_step (below_step (below_alloc _ _) (below_alloc _ _)) (below_alloc _ _)) (below_alloc _ _)
  have hs2 : w2.heap.size = w.heap.size + 4 := by rw [← hw2]; simp
  have p0 : U w2 w.heap.size 0 = some (.slice q t.len c) := by
    rw [← hw2]; exact U_below (below_step (below_step (below_alloc _ _) (below_alloc _ _)) (below_alloc _ _)) _ _ _ (by simp) (laid_cell rfl)
  have e0 := U_cell p0
  unfold zeros at hw2
  have HA := Lib.hid ha
  have HBT := Lib.hid hbt
  have HFU := Lib.hid hFU
  have HS2 := Lib.hid hs2
  have HB2 := Lib.hid hb2
  clear ha hbt hs2 hb2 p0 hFU
  gi_wp2_with fail
  refine ⟨trivial, (callsIn_wide.2 (back1_any _ _ _ _)).mono ?_⟩
  rintro e w' ⟨rfl, rfl⟩
  obtain ⟨wS, hwS⟩ : ∃ wS, w2.alloc (.cells #[.slice q t.len c] 22) = wS := ⟨_, rfl⟩
  rw [hwS]
  have hs2 := HS2.out
  have hbS : Below w2.heap.size w2 wS := by rw [← hwS]; exact below_alloc _ _
  have hbS0 : Below w.heap.size w wS := below_step HB2.out hbS
  have hsS : wS.heap.size = w.heap.size + 5 := by rw [← hwS]; simp; omega
  obtain ⟨g, hg⟩ : ∃ g, w.heap.size + 1 + 1 = g := ⟨_, rfl⟩
  have hkS : U wS (w.heap.size + 1) 0 = some (.int .i64 kk) := by
    refine U_below hbS _ _ _ (by omega) ?_
    rw [← hw2]
    exact U_below (below_step (below_alloc _ _) (below_alloc _ _)) _ _ _ (by simp) (by have := laid_cell (w := w.alloc (.cells #[.slice q t.len c] 250)) (cs := #[.int .i64 kk]) (ty := 23) (o := 0) rfl; simpa using this)
  have hgS : ∀ o u, (#[b0, b1, b2, b3, b4] : Array Value)[o]? = some u → U wS g o = some u := fun o u hu => by
    refine U_below hbS _ _ _ (by omega) ?_
    rw [← hw2, ← hg]
    refine U_below (below_alloc _ _) _ _ _ (by simp) ?_
    have := laid_cell (w := (w.alloc (.cells #[.slice q t.len c] 250)).alloc (.cells #[.int .i64 kk] 23)) (ty := 26) hu
    simpa using this
  have hzS : ∀ o v, zeros[o]? = some v → U wS (w.heap.size + 1 + 1 + 1) o = some v := fun o v hv => by
    refine U_below hbS _ _ _ (by omega) ?_
    have := laid_cell (w := ((w.alloc (.cells #[.slice q t.len c] 250)).alloc (.cells #[.int .i64 kk] 23)).alloc (.cells #[b0, b1, b2, b3, b4] 26)) (ty := 26) hv
    unfold zeros at this
    rw [hw2] at this
    simpa using this
  have hboxS : wS.cell? ⟨w2.heap.size, 0, none⟩ = some (.slice q t.len c) := by
    have := laid_cell (w := w2) (cs := #[.slice q t.len c]) (ty := 22) (o := 0) rfl
    rw [hwS] at this
    exact U_cell this
  obtain ⟨vs, hvs, hel⟩ := elems_F HA.out rfl
  have hqg : 0 < t.len → ∀ b o, q = some ⟨b, o, none⟩ → b ≠ g := fun h0 b o e => by
    obtain ⟨b', o', e', hb', -⟩ := hvs 0 h0
    rw [e] at e'
    cases e'
    omega
  have hBk : BkD w2.heap.size q t.len c vs wS := ⟨hboxS, fun k hk => by
    obtain ⟨b, o, e, hb, hc⟩ := hvs k hk
    exact ⟨b, o, e, fun i hi => (hbS0.cell (p := ⟨b, o + k * 5 + i, none⟩) hb).trans (U_cell (HFU.out _ _ _ (hc i hi)))⟩⟩
  have hF0 : ∀ (W : World), BelowX g wS W → ∀ b o v, b < w.heap.size → F b o = some v → Fr F w.heap.size g W b o = some v := fun W hW b o v hb hu => Fr_old hu hb (by omega) (by omega)
  have hI0 : FoldJ F w.heap.size t kk g bt wS [] wS := by
    obtain ⟨y1, z1, x1, y2, z2, x2, e, h1, h2⟩ := HBT.out
    exact ⟨BelowX.refl _ _, ⟨by omega, by omega⟩, .agg #[b0, b1, b2, b3, b4], ⟨y1, z1, x1, y2, z2, x2, e, h1.mono (hF0 wS (BelowX.refl _ _)) hbS0.size, h2.mono (hF0 wS (BelowX.refl _ _)) hbS0.size⟩, fun cs e o u hu => by cases e; exact hgS o u hu⟩
  have HI0 := Lib.hid hI0
  have HBK := Lib.hid hBk
  have HF0 := Lib.hid hF0
  have HKS := Lib.hid hkS
  have HZS := Lib.hid hzS
  have HBS := Lib.hid hbS0
  have HSS := Lib.hid hsS
  have HGW := Lib.hid hg
  have HQG := Lib.hid hqg
  have HEL := Lib.hid hel
  clear hbS hbS0 hsS hgS hkS hzS hboxS hBk hF0 hI0 hs2 hqg hel hvs hwS hw2 e0
  rw [hg]
  gi_wp2_with fail
  refine wpIn_rangeFunc_ownH rfl (by decide) (gf := 200) (lb := #[.pointer (some ⟨w2.heap.size, 0, none⟩)]) rfl trivial (enters_of Tryz.func200 (by kernel_rfl) rfl)
    (back_stops w2.heap.size t.len c q vs hc1 (by unfold maxLen; omega) 2 wS (fun W hW => HBK.out.onx (BelowX.of_below (g := g) hW) (by have := HS2.out; have := HGW.out; omega) HQG.out))
    (fun h k x => k (h x)) (fun W l o o' _ hl ho _ h => h.putObj o' hl ho) (Below.refl _ _) (fun _ => rfl)
    (fun pre W => FoldJ F w.heap.size t kk g bt wS (pre.map (·.val)) W) (fun _ _ _ => False) FoldJ.own (fun _ _ _ _ _ hs _ _ => hs) HI0.out
    (fun x a' W => ∃ b9, a' = { tmps := #[.agg #[.slice q t.len c], .int .i64 kk, .agg #[b0, b1, b2, b3, b4], .pointer (some ⟨w.heap.size, 0, none⟩), .pointer (some ⟨w.heap.size + 1, 0, none⟩), .pointer (some ⟨g, 0, none⟩), .pointer (some ⟨g + 1, 0, none⟩), undef, .pointer (some ⟨b9, 0, none⟩), .pointer (some ⟨w.heap.size, 0, none⟩), .slice q t.len c, .func (.func 200) #[] #[.pointer (some ⟨w2.heap.size, 0, none⟩)], .int .i64 (x.val : Int), el vs x.val, undef, undef, undef, undef, undef, undef], defers := [] } ∧ ∀ cs, el vs x.val = .agg cs → ∀ i u, cs[i]? = some u → U W b9 i = some u)
    (fun x a' _ _ _ _ h hg hr => by obtain ⟨b9, e, h⟩ := h; exact ⟨b9, e, fun cs e2 i u hu => U_kept (h cs e2 i u hu) hg (fun r e3 => (hr r e3).2)⟩) ?assign ?body ?done ?stop
  case assign =>
    intro l pre x W K hI hK
    obtain ⟨y1, z1, x1, y2, z2, x2, hE, -, -⟩ := HEL.out x.val x.isLt
    rw [hE]
    have hsz : wS.heap.size ≤ W.heap.size := hI.1.size
    have hb9 := below_alloc W (.cells #[.int .i64 (t.hd x.val).k, .int .i64 (t.hd x.val).n, .int .i64 (t.hd x.val).a, .slice y1 z1 x1, .slice y2 z2 x2] 26)
    have hK2 := hK { tmps := #[.agg #[.slice q t.len c], .int .i64 kk, .agg #[b0, b1, b2, b3, b4], .pointer (some ⟨w.heap.size, 0, none⟩), .pointer (some ⟨w.heap.size + 1, 0, none⟩), .pointer (some ⟨g, 0, none⟩), .pointer (some ⟨g + 1, 0, none⟩), undef, .pointer (some ⟨W.heap.size, 0, none⟩), .pointer (some ⟨w.heap.size, 0, none⟩), .slice q t.len c, .func (.func 200) #[] #[.pointer (some ⟨w2.heap.size, 0, none⟩)], .int .i64 (x.val : Int), .agg #[.int .i64 (t.hd x.val).k, .int .i64 (t.hd x.val).n, .int .i64 (t.hd x.val).a, .slice y1 z1 x1, .slice y2 z2 x2], undef, undef, undef, undef, undef, undef], defers := [] } _
      (KeepsOthers.from (KeepsOthers.alloc _ _) _) (fun h => h.onx (BelowX.of_below (g := g) hb9) (by have := HS2.out; have := HGW.out; omega) HQG.out) (hI.below hb9)
      ⟨W.heap.size, by rw [hE], fun cs e2 i u hu => by rw [hE] at e2; cases e2; exact laid_cell hu⟩
    clear hK hI hE
    gi_wp2_with fail
    exact hK2
  case body =>
    rintro l pre x a' W hl hr hI ⟨b9, rfl, hc9⟩ hlen
    obtain ⟨y1, z1, x1, y2, z2, x2, hE, hE1, hE2⟩ := HEL.out x.val x.isLt
    have hu9 := hc9 _ hE
    have hI' := hI
    obtain ⟨hX, hgl, v, ⟨u1, v1, w1, u2, v2, w2', rfl, hR1, hR2⟩, hcs⟩ := hI'
    have hcg := hcs _ rfl
    have k0 := U_cell (hX.U HKS.out (by have := HGW.out; omega))
    have f0 := U_cell (hu9 0 _ rfl)
    have f1 := U_cell (hu9 1 _ rfl)
    have f2 := U_cell (hu9 2 _ rfl)
    have f3 := U_cell (hu9 3 _ rfl)
    have f4 := U_cell (hu9 4 _ rfl)
    have c0 := U_cell (hcg 0 _ rfl)
    have c1 := U_cell (hcg 1 _ rfl)
    have c2 := U_cell (hcg 2 _ rfl)
    have c3 := U_cell (hcg 3 _ rfl)
    have c4 := U_cell (hcg 4 _ rfl)
    have hgW : g < W.heap.size := U_lt (hcg 0 _ rfl)
    obtain ⟨Wb, hWb⟩ : ∃ Wb, W.alloc (.cells #[.int .i64 (t.hd x.val).k, .int .i64 (t.hd x.val).n, .int .i64 (t.hd x.val).a, .slice y1 z1 x1, .slice y2 z2 x2, .int .i64 (acc kk t bt (pre.map (·.val))).h.k, .int .i64 (acc kk t bt (pre.map (·.val))).h.n, .int .i64 (acc kk t bt (pre.map (·.val))).h.a, .slice u1 v1 w1, .slice u2 v2 w2'] 26) = Wb := ⟨_, rfl⟩
    obtain ⟨W', hW'⟩ : ∃ W', ((((Wb.setCell ⟨g, 0, none⟩ (.int .i64 kk)).setCell ⟨g, 1, none⟩ (.int .i64 0)).setCell ⟨g, 2, none⟩ (.int .i64 0)).setCell ⟨g, 3, none⟩ (.slice none 0 0)).setCell ⟨g, 4, none⟩ (.slice (some ⟨W.heap.size, 0, none⟩) 2 2) = W' := ⟨_, rfl⟩
    have hst := hI.step (W' := W') (k := x.val) (e0 := .int .i64 (t.hd x.val).k) (e1 := .int .i64 (t.hd x.val).n) (e2 := .int .i64 (t.hd x.val).a) (e3 := .slice y1 z1 x1) (e4 := .slice y2 z2 x2) ⟨_, _, _, _, _, _, rfl, Rd.mono hE1 (HF0.out W hX) (by have := HBS.out.size; have := hX.size; omega), Rd.mono hE2 (HF0.out W hX) (by have := HBS.out.size; have := hX.size; omega)⟩ hcg (by rw [hWb]; exact hW')
    have HST := Lib.hid hst
    have ub : ∀ o u, (#[.int .i64 (acc kk t bt (pre.map (·.val))).h.k, .int .i64 (acc kk t bt (pre.map (·.val))).h.n, .int .i64 (acc kk t bt (pre.map (·.val))).h.a, .slice u1 v1 w1, .slice u2 v2 w2'] : Array Value)[o]? = some u → U Wb g o = some u := fun o u hu => by rw [← hWb]; exact U_below (below_alloc _ _) _ _ _ hgW (hcg o u hu)
    have d0 := U_cell (ub 0 _ rfl)
    have d1 := U_cell (ub 1 _ rfl)
    have d2 := U_cell (ub 2 _ rfl)
    have d3 := U_cell (ub 3 _ rfl)
    have d4 := U_cell (ub 4 _ rfl)
    have j0 := U_frozen (ub 0 _ rfl)
    have j1 := U_frozen (ub 1 _ rfl)
    have j2 := U_frozen (ub 2 _ rfl)
    have j3 := U_frozen (ub 3 _ rfl)
    have j4 := U_frozen (ub 4 _ rfl)
    clear ub
    have HKP : Hid (BkD w2.heap.size q t.len c vs W → BkD w2.heap.size q t.len c vs W') := Lib.hid (fun _ => HBK.out.onx (g := g) hst.1.1 (by have := HS2.out; have := HGW.out; omega) HQG.out)
    have HW := Lib.hid hW'
    clear hI hE hE1 hE2 hu9 hcg hcs hX hR1 hR2 hst hW' hc9 hr hlen hl
    gi_wp2_with fail
    rw [HW.out]
    refine ⟨HST.out.2, HKP.out, ?_⟩
    have := HST.out.1
    rw [show pre.map (·.val) ++ [x.val] = (pre ++ [x]).map (·.val) by simp] at this
    exact this
  case done =>
    intro D xs W hD hS hI hK
    rw [hS] at hI
    unfold FoldJ at hI
    rw [acc_above kk bt t t.len (Nat.le_refl _), Nat.sub_self] at hI
    obtain ⟨T, hT⟩ : ∃ T, aboveT kk t bt = T := ⟨_, rfl⟩
    rw [show t.drop 0 = t from rfl, hT] at hI
    obtain ⟨hX, hgl, v, ⟨u1, v1, w1, u2, v2, w2', rfl, hR1, hR2⟩, hcs⟩ := hI
    have hcg := hcs _ rfl
    have c0 := U_cell (hcg 0 _ rfl)
    have c1 := U_cell (hcg 1 _ rfl)
    have c2 := U_cell (hcg 2 _ rfl)
    have c3 := U_cell (hcg 3 _ rfl)
    have c4 := U_cell (hcg 4 _ rfl)
    have hBW : Below w.heap.size w W := HBS.out.trans (hX.below (by have := HGW.out; omega) (by have := HSS.out; have := HGW.out; omega))
    have Z : Hid (∀ o v, zeros[o]? = some v → U W (g + 1) o = some v) := fun o v hv => hX.U (by rw [← HGW.out]; exact HZS.out o v hv) (by omega)
    have m0 := U_cell (Z.out 0 _ rfl)
    have m1 := U_cell (Z.out 1 _ rfl)
    have m2 := U_cell (Z.out 2 _ rfl)
    have m3 := U_cell (Z.out 3 _ rfl)
    have m4 := U_cell (Z.out 4 _ rfl)
    have o0 := U_frozen (Z.out 0 _ rfl)
    have o1 := U_frozen (Z.out 1 _ rfl)
    have o2 := U_frozen (Z.out 2 _ rfl)
    have o3 := U_frozen (Z.out 3 _ rfl)
    have o4 := U_frozen (Z.out 4 _ rfl)
    have HK := Lib.hid hK
    have HBW := Lib.hid hBW
    have HR1 := Lib.hid hR1
    have HR2 := Lib.hid hR2
    have HDW : Hid (w.heap.size + 5 ≤ D ∧ D < W.heap.size) := Lib.hid ⟨by have := HSS.out; omega, (Array.getElem?_eq_some_iff.1 hK).1⟩
    have HT := Lib.hid hT
    have HX := Lib.hid hX
    clear hX hgl hR1 hR2 hcs hcg hBW hK hD hS hT
    gi_wp2_with fail
    obtain ⟨W2, hW2⟩ : ∃ W2, ((((W.setCell ⟨g + 1, 0, none⟩ (.int .i64 T.h.k)).setCell ⟨g + 1, 1, none⟩ (.int .i64 T.h.n)).setCell ⟨g + 1, 2, none⟩ (.int .i64 T.h.a)).setCell ⟨g + 1, 3, none⟩ (.slice u1 v1 w1)).setCell ⟨g + 1, 4, none⟩ (.slice u2 v2 w2') = W2 := ⟨_, rfl⟩
    have hgw := HGW.out
    have hDW := HDW.out
    obtain ⟨⟨x0, x1, x2, x3, x4⟩, hBF, hkW⟩ := res5 (b := g + 1) Z.out HBW.out (by omega) hW2
    rw [hW2]
    refine ⟨by simp, .inl ⟨_, _, rfl, run_takeDeferred ((hkW D (by omega)).trans HK.out), ?_⟩⟩
    have hkP : ∀ (o : Obj) (k : Nat), k ≠ D → (W2.putObj D o).heap[k]? = W2.heap[k]? := fun o k hk => World.putObj_heap_other hk
    have y0 : ∀ o, (W2.putObj D o).cell? ⟨g + 1, 0, none⟩ = some (.int .i64 T.h.k) := fun o => (cell_block (hkP o _ (by omega)) 0).trans x0
    have y1 : ∀ o, (W2.putObj D o).cell? ⟨g + 1, 1, none⟩ = some (.int .i64 T.h.n) := fun o => (cell_block (hkP o _ (by omega)) 1).trans x1
    have y2 : ∀ o, (W2.putObj D o).cell? ⟨g + 1, 2, none⟩ = some (.int .i64 T.h.a) := fun o => (cell_block (hkP o _ (by omega)) 2).trans x2
    have y3 : ∀ o, (W2.putObj D o).cell? ⟨g + 1, 3, none⟩ = some (.slice u1 v1 w1) := fun o => (cell_block (hkP o _ (by omega)) 3).trans x3
    have y4 : ∀ o, (W2.putObj D o).cell? ⟨g + 1, 4, none⟩ = some (.slice u2 v2 w2') := fun o => (cell_block (hkP o _ (by omega)) 4).trans x4
    have hsz : W.heap.size ≤ W2.heap.size := by rw [← hW2]; simp [World.setCell]
    have hR : ∀ o : Obj, ∀ b o' u, b < W.heap.size → Fr F w.heap.size g W b o' = some u → (if b < w.heap.size then F b o' else U (W2.putObj D o) b o') = some u := fun o b o' u _ hu => by
      have h1 := Fr_ne hu
      have h2 := Fr_ne2 hu
      unfold Fr at hu
      rw [if_neg (fun e => e.elim h1 h2)] at hu
      split at hu
      · rename_i hb; rw [if_pos hb]; exact hu
      · rename_i hb
        rw [if_neg hb]
        have hD : b ≠ D := fun e => by
          obtain ⟨ob, ho, hc⟩ := cells_of_cell (U_cell hu)
          rw [e, HK.out] at ho
          cases ho
          cases hc
        exact ((U_block (hkP o b hD) o').trans (U_block (hkW b h2) o')).trans hu
    refine ⟨.agg #[.int .i64 T.h.k, .int .i64 T.h.n, .int .i64 T.h.a, .slice u1 v1 w1, .slice u2 v2 w2'], by simp [results, Tryz.results218, go_sem, y0, y1, y2, y3, y4], _, rfl, hBF.trans ⟨rfl, rfl, rfl, by simp [World.putObj], fun k hk => hkP _ k (by omega)⟩, ?_⟩
    rw [HT.out]
    exact ⟨_, _, _, _, _, _, rfl, HR1.out.mono (hR _) (by simp [World.putObj]; exact hsz), HR2.out.mono (hR _) (by simp [World.putObj]; exact hsz)⟩
  case stop =>
    rintro D c pre W _ _ h _
    exact h.elim
end Go.Proofs.YtkcmapimcgppmaaGreatDoor
end
section
namespace Go.Proofs.YtkcmapimcgppmaaGreatDoor
open Go.RowKit

set_option maxRecDepth 100000 in
set_option maxHeartbeats 4000000 in
theorem grow_any (n : Nat) (hn : n ≤ 4000000) (w : World) : Calls Tryz.prog 219 #[.slice none 0 0, .int .i64 n] w fun e w' => ∃ v, e = .returned v ∧ Below w.heap.size w w' ∧ w'.ownsRow w.heap.size 26 5 v 0 [] := by
  have r0 : decide ((n : Int) < 0) = false := decide_eq_false (by omega)
  have hw0 : IntKind.i64.wrap ((n : Int) - 0) = n := by rw [IntKind.wrap_i64]; omega
  by_cases h0 : n = 0
  · subst h0
    go_enter Tryz.func219, Tryz.ntmps219
    go_wp2_with fail
    go_ret
    exact ⟨_, rfl, Below.refl _ _, World.ownsRow_nil _ _ _ _⟩
  · have r1 : decide ((0 : Int) < n) = true := decide_eq_true (by omega)
    obtain ⟨i, z, bytes, ht, hi, hz, hsize, hby, hzs, hsz, hbb⟩ := elT.is
    have hb : n * i.bytes ≤ 4000000 * 1000 := Nat.mul_le_mul hn (by omega)
    have hrun := Lib.run_append_nil_zeros (P := Tryz.prog) w 22 3 22 26 i z .i64 .i64 ht Tryz.underlying3 hi hz n (by omega) (by omega) (by omega) (by omega)
    have hge := grownCap_ge w n 0 26
    have hcm : grownCap w n 0 26 ≤ maxLen := grownCap_le_maxLen w n 0 26 (by unfold maxLen; omega)
    have hc1 : n ≤ grownCap w n 0 26 := by simpa using hge
    obtain ⟨C, hC⟩ : ∃ C, grownCap w n 0 26 = C := ⟨_, rfl⟩
    rw [hC] at hrun hc1 hcm
    have HB := Lib.hid (Below.alloc (a := w) (w := w.drew) (B := w.heap.size) ⟨rfl, rfl, rfl, Nat.le_refl _, fun _ _ => rfl⟩ (Nat.le_refl _) (.cells (Builtin.zeroCells z.cells n ++ Builtin.zeroCells z.cells (C - n)) 26))
    have HO := Lib.hid (World.ownsRow_made w.drew (base := w.heap.size) (e := 26) (size := 5) (Builtin.zeroCells z.cells n ++ Builtin.zeroCells z.cells (C - n)) C (Nat.le_refl _) hcm (by simp only [Array.size_append, size_zeroCells, hzs, ← Nat.add_mul]; congr 1; omega))
    obtain ⟨W, hW⟩ : ∃ W, w.drew.alloc (.cells (Builtin.zeroCells z.cells n ++ Builtin.zeroCells z.cells (C - n)) 26) = W := ⟨_, rfl⟩
    rw [hW] at hrun HB HO
    clear ht hi hz hsize hby hzs hsz hbb hb hge hC hW
    unfold maxLen at hcm
    go_enter Tryz.func219, Tryz.ntmps219
    go_wp2_with (at_builtin; refine Lib.wpList_append_run _ rfl _ _ 22 3 rfl _ _ rfl rfl _ _ hrun ?_)
    go_ret
    exact ⟨_, rfl, HB.out, HO.out⟩

/-- Rows of terms, as cells; all behind each other. -/
def rowsDs : List Ts → Ds
  | [] => .nil
  | t :: r => .row 5 26 (tDs ty t) .nil (rowsDs r)
def catT : List Ts → Ts
  | [] => .nil
  | t :: r => t.app (catT r)
theorem rowsDs_len (l : List Ts) : (rowsDs l).len = l.length := by
  induction l with
  | nil => rfl
  | cons t r ih => simp [rowsDs, Ds.len, ih]
theorem catT_app (a b : List Ts) : catT (a ++ b) = (catT a).app (catT b) := by
  induction a with
  | nil => rfl
  | cons t r ih => simp [catT, ih, Ts.app_assoc]
/-- What lies in a slice of rows. -/
theorem rows_at {F : Nat → Nat → Option Value} {hi : Nat} : ∀ {l : List Ts} {b o : Nat}, At F hi (rowsDs l) b o → ∀ k t, l[k]? = some t → ∃ v, F b (o + k) = some v ∧ Rd F hi v 5 (tDs ty t) .nil := by
  intro l
  induction l with
  | nil => intro b o _ k t h; simp at h
  | cons t0 r ih =>
    intro b o h1 k t h
    obtain ⟨⟨v, h2, h3⟩, h4⟩ := At_row.1 h1
    cases k with
    | zero =>
      simp at h
      subst h
      exact ⟨v, h2, h3⟩
    | succ k =>
      obtain ⟨u, h5, h6⟩ := ih h4 k t (by simpa using h)
      exact ⟨u, by rw [show o + (k + 1) = o + 1 + k by omega]; exact h5, h6⟩
theorem rd_elems {F : Nat → Nat → Option Value} {hi : Nat} {v : Value} {t : Ts} (h : Rd F hi v 5 (tDs ty t) .nil) : ∃ p c ys, v = .slice p t.len c ∧ t.len ≤ c ∧ c ≤ maxLen ∧ Vs F hi (tDs ty t) ys ∧ ys.length = t.len * 5 ∧ ((v = .slice none 0 0 ∧ t.len = 0) ∨ ∃ a, p = some a ∧ ∀ j u, ys[j]? = some u → ∃ b o, a = ⟨b, o, none⟩ ∧ b < hi ∧ F b (o + j) = some u) := by
  obtain ⟨p, n, c, rfl, h2, h3, h4, -, h5⟩ := h
  have hn : n = t.len := by rw [tDs_len] at h2; omega
  subst hn
  by_cases h0 : t.len = 0
  · have ht : t = .nil := by cases t <;> simp [Ts.len] at h0 ⊢
    subst ht
    refine ⟨p, c, [], rfl, h3, h4, rfl, rfl, ?_⟩
    rcases h5 with ⟨rfl, rfl⟩ | ⟨-, -, hp⟩ | ⟨b, o, rfl, -⟩
    · exact .inl ⟨rfl, rfl⟩
    · obtain ⟨a, rfl⟩ := Option.ne_none_iff_exists'.1 hp
      exact .inr ⟨a, rfl, fun j u hu => by simp at hu⟩
    · exact .inr ⟨_, rfl, fun j u hu => by simp at hu⟩
  · rcases h5 with ⟨rfl, rfl⟩ | ⟨h6, -⟩ | ⟨b, o, rfl, hb, hat, -⟩
    · omega
    · omega
    · obtain ⟨ys, h6, h7⟩ := At.vs hat
      exact ⟨_, c, ys, rfl, h3, h4, h6, by rw [h6.len, tDs_len], .inr ⟨_, rfl, fun j u hu => ⟨b, o, rfl, hb, h7 j u hu⟩⟩⟩
theorem owns_rd {w : World} {base e n : Nat} {v : Value} {xs : List Value} {t : Ts} {F F' : Nat → Nat → Option Value} {hi : Nat} (h : w.ownsRow base e 5 v n xs) (hv : Vs F hi (tDs ty t) xs) (hF : ∀ b o v, b < hi → F b o = some v → F' b o = some v) (hU : ∀ b o v, base ≤ b → U w b o = some v → F' b o = some v) (hh : hi ≤ w.heap.size) : Rd F' w.heap.size v 5 (tDs ty t) .nil := by
  obtain ⟨h1, h2⟩ := h
  have hl := hv.len
  have hv' : Vs F' w.heap.size (tDs ty t) xs := hv.mono hF hh
  rcases h2 with ⟨rfl, rfl⟩ | ⟨g, cap, cur, rfl, h3, h4, h5, h6, h7, h8⟩
  · have : t = .nil := by
      rw [tDs_len] at hl
      cases t
      · rfl
      · simp [Ts.len] at hl; omega
    subst this
    exact Rd.none_ _ _ _
  · refine ⟨_, n, cap, rfl, by omega, h5, h6, by simp [Ds.len]; rw [← hl, h1]; exact Nat.mul_le_mul_right 5 h5, .inr (.inr ⟨g, 0, rfl, (Array.getElem?_eq_some_iff.1 h4).1, hv'.at_ (fun j u hu => hU _ _ _ h3 (row_cell h4 (by rw [h1]; exact h8) j u hu)), trivial⟩)⟩
theorem take_get {α : Type} {l : List α} {j : Nat} {t : α} (h : l[j]? = some t) : l.take (j + 1) = l.take j ++ [t] := by
  rw [List.take_add_one, h]; rfl
set_option maxRecDepth 100000 in
set_option maxHeartbeats 4000000 in
theorem concat_any (l : List Ts) (va : Value) (w : World) (F : Nat → Nat → Option Value) (hFU : ∀ b o v, F b o = some v → U w b o = some v) (ha : Rd F w.heap.size va 1 (rowsDs l) .nil) (hl : l.length ≤ 4000000) (hn : (catT l).len ≤ 4000000) : Calls Tryz.prog 166 #[va] w fun e w' => ∃ v, e = .returned v ∧ Below w.heap.size w w' ∧ Rd (fun b o => if b < w.heap.size then F b o else U w' b o) w'.heap.size v 5 (tDs ty (catT l)) .nil := by
  have HFU := Lib.hid hFU
  clear hFU
  obtain ⟨q, n, c, rfl, h2, h3, h4, -, h5⟩ := ha
  have hnl : n = l.length := by rw [rowsDs_len] at h2; omega
  subst hnl
  unfold maxLen at h4
  have hel : ∀ j t, l[j]? = some t → ∃ b o v, q = some ⟨b, o, none⟩ ∧ b < w.heap.size ∧ F b (o + j) = some v ∧ Rd F w.heap.size v 5 (tDs ty t) .nil := fun j t hj => by
    have hlt : j < l.length := (List.getElem?_eq_some_iff.1 hj).1
    rcases h5 with ⟨rfl, rfl⟩ | ⟨h6, -⟩ | ⟨b, o, rfl, hb, hat, -⟩
    · omega
    · omega
    · obtain ⟨v, h7, h8⟩ := rows_at hat j t hj
      exact ⟨b, o, v, rfl, hb, h7, h8⟩
  have htk : ∀ j, (catT (l.take j)).len ≤ 4000000 := fun j => by
    have := congrArg Ts.len (catT_app (l.take j) (l.drop j))
    rw [List.take_append_drop, Ts.app_len] at this
    omega
  have HEL := Lib.hid hel
  have HTK := Lib.hid htk
  clear h5 hel htk h2
  go_enter Tryz.func166, Tryz.ntmps166
  go_wp2_with fail
  go_loopw [3, 5, 11] (fun s _ i wr => ∃ j : Nat, j ≤ l.length ∧ i = .int .i64 (j : Int) ∧ s = .int .i64 ((catT (l.take j)).len : Int) ∧ wr = w) (fun _ _ i _ => l.length - (intOf i).toNat)
  case atStart => exact ⟨0, Nat.zero_le _, rfl, rfl, rfl⟩
  case round =>
    obtain ⟨j, hj, rfl, rfl, hwr⟩ := hrel
    have hwr' : w = wr := hwr.symm
    clear hwr
    subst hwr'
    by_cases hlt : j < l.length
    · have r1 : decide ((j : Int) < l.length) = true := decide_eq_true (by omega)
      have i1 : (0 : Int) ≤ j := by omega
      have i2 : (j : Int) < l.length := by omega
      obtain ⟨t, ht⟩ : ∃ t, l[j]? = some t := ⟨l[j], List.getElem?_eq_getElem hlt⟩
      obtain ⟨b, o, v, rfl, hb, hc, hr⟩ := HEL.out j t ht
      obtain ⟨p, cc, ys, rfl, -, -, -, -, -⟩ := rd_elems hr
      have e0 := U_cell (HFU.out _ _ _ hc)
      have hcat : (catT (l.take (j + 1))).len = (catT (l.take j)).len + t.len := by rw [take_get ht, catT_app, Ts.app_len]; simp [catT, Ts.len, Ts.app_len]
      have h6 := HTK.out (j + 1)
      rw [hcat] at h6
      have r2 : decide ((((catT (l.take j)).len : Int) + (t.len : Int)) < 0) = false := decide_eq_false (by omega)
      have hw1 : IntKind.i64.wrap (((catT (l.take j)).len : Int) + (t.len : Int)) = ((catT (l.take j)).len : Int) + (t.len : Int) := by rw [IntKind.wrap_i64]; omega
      clear hr hc
      go_wp2_with fail
      go_roundw
      case rel => exact ⟨j + 1, by omega, by go_num, by rw [hcat]; go_num, trivial⟩
      case measure => simp [intOf]; omega
    · obtain rfl : j = l.length := by omega
      have r1 : decide ((l.length : Int) < l.length) = false := decide_eq_false (by omega)
      go_wp2_with fail
      refine (grow_any (catT l).len hn w).mono ?_
      rintro e w1 ⟨v1, rfl, hb1, ho1⟩
      have HB1 := Lib.hid hb1
      obtain ⟨i, z, bytes, ti, hi, hz, hsize, hby, hzs, hsz, hbb⟩ := elT.is
      have HLAW := Lib.hid (fun (W : World) (v : Value) (n : Nat) (xs : List Value) (hown : W.ownsRow w.heap.size 26 5 v n xs) (x : Value) (m : Nat) (news : List Value) (hx : (x = .slice none 0 0 ∧ m = 0) ∨ ∃ a c, x = .slice (some a) m c ∧ ∀ j u, news[j]? = some u → W.cell? (a.add j) = some u) (hl : news.length = m * 5) (h1 : ∀ u ∈ news, u.oneCell' = true) (h63 : n + m ≤ 1000000000) (hbase : w.heap.size ≤ W.heap.size) =>
        append_law (P := Tryz.prog) W w.heap.size 22 22 26 i z 5 ti hi hz hsize hzs hsz v n xs hown x m news hx hl h1 h63 (by omega) hbase)
      obtain ⟨p1, c1, rfl⟩ : ∃ p c, v1 = .slice p 0 c := by
        rcases ho1.2 with ⟨rfl, -⟩ | ⟨g, cap, cur, rfl, -⟩ <;> exact ⟨_, _, rfl⟩
      have HO1 := Lib.hid ho1
      clear hb1 ho1 ti hi hz hsize hby hzs hsz hbb
      go_wp2_with fail
      go_loopw [6, 8, 27] (fun v _ i wx => ∃ (j : Nat) (xs : List Value), j ≤ l.length ∧ i = .int .i64 (j : Int) ∧ Below w.heap.size w wx ∧ wx.ownsRow w.heap.size 26 5 v (catT (l.take j)).len xs ∧ Vs F w.heap.size (tDs ty (catT (l.take j))) xs) (fun _ _ i _ => l.length - (intOf i).toNat)
      case atStart => exact ⟨0, [], Nat.zero_le _, rfl, HB1.out, HO1.out, rfl⟩
      case round =>
        obtain ⟨j, xs, hj, rfl, hbx, hox, hvx⟩ := hrel
        have HBX := Lib.hid hbx
        have HOX := Lib.hid hox
        have HVX := Lib.hid hvx
        clear hbx hox hvx
        by_cases hlt : j < l.length
        · have r1 : decide ((j : Int) < l.length) = true := decide_eq_true (by omega)
          have i1 : (0 : Int) ≤ j := by omega
          have i2 : (j : Int) < l.length := by omega
          obtain ⟨t, ht⟩ : ∃ t, l[j]? = some t := ⟨l[j], List.getElem?_eq_getElem hlt⟩
          obtain ⟨b, o, v, rfl, hb, hc, hr⟩ := HEL.out j t ht
          obtain ⟨p, cc, ys, rfl, -, -, hys, hyl, hyc⟩ := rd_elems hr
          have e0 := U_cell (U_below HBX.out _ _ _ hb (HFU.out _ _ _ hc))
          have hcat : (catT (l.take (j + 1))) = (catT (l.take j)).app t := by rw [take_get ht, catT_app]; simp [catT, Ts.app_nil]
          have h6 := congrArg Ts.len hcat
          rw [Ts.app_len] at h6
          have h7 := HTK.out (j + 1)
          obtain ⟨v', w', hrun, ho', hg'⟩ := HLAW.out _ _ _ _ HOX.out (.slice p t.len cc) t.len ys (hyc.imp id fun ⟨a, e, h⟩ => ⟨a, cc, by rw [e], fun j u hu => by
            obtain ⟨b1, o1, rfl, h8, h9⟩ := h j u hu
            rw [Addr.add_lit]
            exact (HBX.out.cell (p := ⟨b1, o1 + j, none⟩) h8).trans (U_cell (HFU.out _ _ _ h9))⟩) hyl (Vs.one (tDs_ones ty t) hys) (by omega) HBX.out.size
          have hb' : Below w.heap.size w w' := by
            rcases hg' with ⟨-, hg⟩ | ⟨-, hg⟩
            · exact HBX.out.grown hg HBX.out.size (fun k hk => (HOX.out.lt k hk).1)
            · exact HBX.out.trans (hg.mono HBX.out.size)
          have hv' : Vs F w.heap.size (tDs ty (catT (l.take (j + 1)))) (xs ++ ys) := by
            rw [hcat, tDs_app]
            exact Vs.app hys HVX.out
          rw [← h6] at ho'
          have HB' := Lib.hid hb'
          have HO' := Lib.hid ho'
          have HV' := Lib.hid hv'
          clear hr hc hys hyc hg' hb' ho' hv'
          go_wp2_with (at_builtin; refine wpList_append_run rfl _ _ 22 rfl _ _ _ rfl rfl hrun ?_)
          go_roundw
          case rel => exact ⟨j + 1, _, by omega, by go_num, HB'.out, HO'.out, HV'.out⟩
          case measure => simp [intOf]; omega
        · obtain rfl : j = l.length := by omega
          have r1 : decide ((l.length : Int) < l.length) = false := decide_eq_false (by omega)
          go_wp2_with fail
          go_ret
          have h1 := HOX.out
          have h2 := HVX.out
          rw [List.take_length] at h1 h2
          exact ⟨_, rfl, HBX.out, owns_rd h1 h2 (fun b o v hb hu => by rw [if_pos hb]; exact hu) (fun b o v hb hu => by rw [if_neg (by omega)]; exact hu) HBX.out.size⟩
end Go.Proofs.YtkcmapimcgppmaaGreatDoor
end
