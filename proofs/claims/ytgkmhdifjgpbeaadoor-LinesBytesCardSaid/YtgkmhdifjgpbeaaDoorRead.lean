/-
  What the program's reading tells: trees, or an error's number. Conditions: a text no longer than memory holds.
-/
import Derived.Test.YtgkmhdifjgpbeaaDoorRead1
import Derived.Test.YtgkmhdifjgpbeaaDoorCatch
namespace Go.Proofs.YtgkmhdifjgpbeaaDoor
open Go.RowKit

/-- The trees that are told: none where there is an error. -/
def rTs (l : List UInt8) : Ts := match readE l with
  | .ok t => t
  | .error _ => .nil
def rErr (l : List UInt8) : Int := match readE l with
  | .ok _ => 0
  | .error n => n

/-- What a reading hands over. -/
def Told (l : List UInt8) (w : World) (e : Ending) (w' : World) : Prop :=
  Below w.heap.size w w' ∧ ∃ v, e = .returned (.tuple #[v, .int .i64 (rErr l)]) ∧ Sl (U w') w.heap.size w'.heap.size v (rTs l) ∧ (rErr l ≠ 0 → v = .slice none 0 0)

theorem step_err {st : List Ts} {s : ByteArray} {n : Int} (h : step st s = .error n) : n = 3 ∨ n = 4 := by
  unfold step at h
  split at h
  · split at h <;> cases h; exact .inl rfl
  · split at h
    · split at h <;> cases h; exact .inr rfl
    · split at h
      · split at h <;> cases h; exact .inr rfl
      · cases h; exact .inl rfl
theorem run_err : ∀ {st : List Ts} {l : List (List UInt8)} {n : Int}, run st l = .error n → n = 3 ∨ n = 4
  | st, [], n, h => by simp [run] at h
  | st, s :: r, n, h => by
    rw [run] at h
    cases hs : step st ⟨s.toArray⟩ with
    | ok st' => rw [hs] at h; exact run_err h
    | error m => rw [hs] at h; simp at h; subst h; exact step_err hs
theorem readE_err {l : List UInt8} {n : Int} (h : readE l = .error n) : n = 3 ∨ n = 4 := by
  unfold readE at h
  split at h
  · cases h; exact .inl rfl
  · split at h
    · cases h
    · cases h; exact .inr rfl
    · rename_i hr; cases h; exact run_err hr

set_option maxRecDepth 100000 in
set_option maxHeartbeats 2000000 in
theorem triedR_any (text : ByteArray) (b0 : Nat) (w : World) (hc : w.cell? ⟨b0, 0, none⟩ = some (.string text)) (hlt : text.size ≤ 140737488355328) :
    Calls Tryd.prog 26 #[.func (.func 27) #[] #[.pointer (some ⟨b0, 0, none⟩)]] w (Told text.data.toList w) := by
  have hmf : ∀ (fn : Fn) (first cap : Array Value) (w : World), (Instr.makeFunc fn first cap).run Tryd.prog w = .ok (.func fn first cap) w := fun _ _ _ _ => rfl
  have hb0 : b0 < w.heap.size := World.block_lt_of_cell? _ _ hc
  have hB0 : Below w.heap.size w ((w.alloc (.cells #[.slice none 0 0] 23)).alloc (.cells #[.int .i64 0] 24)) := ((Below.refl _ _).alloc (Nat.le_refl _) _).alloc (by simp) _
  have HC := Lib.hid (read1_any text b0 _ ((hB0.cell (p := ⟨b0, 0, none⟩) hb0).trans hc) hlt)
  have HB0 := Lib.hid hB0
  clear hc hB0
  go_enter_defers Tryd.func26, Tryd.ntmps26
  go_wp2_with fail
  refine HC.out.mono ?_
  rintro e w1 ⟨hb1, hr⟩
  have HB1 := Lib.hid (HB0.out.trans (hb1.mono (by simp; omega)))
  have d0 : w1.cell? ⟨w.heap.size, 0, none⟩ = some (.slice none 0 0) := (hb1.cell (p := ⟨w.heap.size, 0, none⟩) (by simp; omega)).trans (by simp [go_sem])
  have d1 : w1.cell? ⟨w.heap.size + 1, 0, none⟩ = some (.int .i64 0) := (hb1.cell (p := ⟨w.heap.size + 1, 0, none⟩) (by simp)).trans (by simp [go_sem])
  have f0 : w1.frozen? ⟨w.heap.size, 0, none⟩ = false := (hb1.frozen (p := ⟨w.heap.size, 0, none⟩) (by simp; omega)).trans (by simp [go_sem])
  have f1 : w1.frozen? ⟨w.heap.size + 1, 0, none⟩ = false := (hb1.frozen (p := ⟨w.heap.size + 1, 0, none⟩) (by simp)).trans (by simp [go_sem])
  have hsz : w.heap.size + 2 ≤ w1.heap.size := by have := hb1.size; simp at this; omega
  clear hb1
  have hn1 : (⟨w.heap.size + 1, 0, none⟩ : Addr) ≠ ⟨w.heap.size, 0, none⟩ := by intro h; injection h; omega
  cases hE : readE text.data.toList with
  | ok t =>
    rw [hE] at hr
    obtain ⟨v, rfl, hsl⟩ := hr
    obtain ⟨p, c, rfl, _, _, _⟩ := hsl.slice
    have HSL := Lib.hid hsl
    have HT : Hid (rTs text.data.toList = t ∧ rErr text.data.toList = 0) := by unfold Hid rTs rErr; rw [hE]; exact ⟨rfl, rfl⟩
    clear hsl hE
    go_wp2
    refine leaves_cons (f := 47) (args := #[.pointer (some ⟨w.heap.size + 1, 0, none⟩), .pointer (some ⟨w.heap.size, 0, none⟩)]) (by simp) (by simp [go_sem]) ?_
    refine (catchR_idle _ _ _).mono ?_
    rintro e u' w'' ⟨rfl, rfl, rfl⟩
    have c0 : ((w1.setCell ⟨w.heap.size, 0, none⟩ (.slice p t.len c)).setCell ⟨w.heap.size + 1, 0, none⟩ (.int .i64 0)).cell? ⟨w.heap.size, 0, none⟩ = some (.slice p t.len c) :=
      (World.cell?_setCell_other _ _ _ _ hn1).trans (World.cell?_setCell_same' _ _ _ (by rw [d0]; rfl))
    have c1 : ((w1.setCell ⟨w.heap.size, 0, none⟩ (.slice p t.len c)).setCell ⟨w.heap.size + 1, 0, none⟩ (.int .i64 0)).cell? ⟨w.heap.size + 1, 0, none⟩ = some (.int .i64 0) :=
      World.cell?_setCell_same' _ _ _ (by rw [World.cell?_setCell_other _ _ _ _ hn1.symm, d1]; rfl)
    refine ⟨_, by simp [results, Tryd.results26, go_sem, c0, c1]; rfl, ((HB1.out.setCell (p := ⟨w.heap.size, 0, none⟩) (Nat.le_refl _) _).setCell (p := ⟨w.heap.size + 1, 0, none⟩) (by simp) _), ?_⟩
    rw [HT.out.1, HT.out.2]
    refine ⟨_, rfl, ?_, fun h => absurd rfl h⟩
    refine HSL.out.mono (fun b o u hb1 hb2 hu => (U_block ((Below.heap_setCell _ ⟨w.heap.size + 1, 0, none⟩ _ b ?_).trans (Below.heap_setCell _ ⟨w.heap.size, 0, none⟩ _ b ?_)) o).trans hu) (by simp; omega) (by simp)
    · simp at hb1; show b ≠ w.heap.size + 1; omega
    · simp at hb1; show b ≠ w.heap.size; omega
  | error n =>
    rw [hE] at hr
    subst hr
    have hn0 : n ≠ 0 := by rcases readE_err hE with rfl | rfl <;> decide
    have HT : Hid (rTs text.data.toList = .nil ∧ rErr text.data.toList = n) := by unfold Hid rTs rErr; rw [hE]; exact ⟨rfl, rfl⟩
    clear hE
    refine leaves_cons (f := 47) (args := #[.pointer (some ⟨w.heap.size + 1, 0, none⟩), .pointer (some ⟨w.heap.size, 0, none⟩)]) (by simp) (by simp [go_sem]) ?_
    refine (catchR_thrown _ _ n 0 none 0 0 [] _ d1 d0 f1 f0 hn1).mono ?_
    rintro e u' w'' ⟨rfl, rfl, rfl⟩
    have c0 : ((w1.setCell ⟨w.heap.size + 1, 0, none⟩ (.int .i64 n)).setCell ⟨w.heap.size, 0, none⟩ (.slice none 0 0)).cell? ⟨w.heap.size, 0, none⟩ = some (.slice none 0 0) :=
      World.cell?_setCell_same' _ _ _ (by rw [World.cell?_setCell_other _ _ _ _ hn1, d0]; rfl)
    have c1 : ((w1.setCell ⟨w.heap.size + 1, 0, none⟩ (.int .i64 n)).setCell ⟨w.heap.size, 0, none⟩ (.slice none 0 0)).cell? ⟨w.heap.size + 1, 0, none⟩ = some (.int .i64 n) :=
      (World.cell?_setCell_other _ _ _ _ hn1.symm).trans (World.cell?_setCell_same' _ _ _ (by rw [d1]; rfl))
    refine ⟨_, by simp [results, Tryd.results26, go_sem, c0, c1]; rfl, ((HB1.out.setCell (p := ⟨w.heap.size + 1, 0, none⟩) (by simp) _).setCell (p := ⟨w.heap.size, 0, none⟩) (Nat.le_refl _) _), ?_⟩
    rw [HT.out.1, HT.out.2]
    exact ⟨_, rfl, Sl.none_ _ _ _, fun _ => rfl⟩

theorem read_any (text : ByteArray) (w : World) (hlt : text.size ≤ 140737488355328) : Calls Tryd.prog 9 #[.string text] w (Told text.data.toList w) := by
  have hb : Below w.heap.size w (w.alloc (.cells #[.string text] 9)) := (Below.refl _ _).alloc (Nat.le_refl _) _
  have H := Lib.hid (triedR_any text w.heap.size (w.alloc (.cells #[.string text] 9)) (by simp [go_sem]) hlt)
  have HB := Lib.hid hb
  clear hb
  go_enter Tryd.func9, Tryd.ntmps9
  go_wp2_with fail
  refine H.out.mono ?_
  rintro e w1 ⟨hb1, v, rfl, hsl, hno⟩
  have HS := Lib.hid hsl
  have HN := Lib.hid hno
  clear hsl hno
  go_wp2
  go_ret2
  exact ⟨HB.out.trans (hb1.mono (by simp)), _, rfl, HS.out.widen (by simp) (Nat.le_refl _), HN.out⟩
end Go.Proofs.YtgkmhdifjgpbeaaDoor
