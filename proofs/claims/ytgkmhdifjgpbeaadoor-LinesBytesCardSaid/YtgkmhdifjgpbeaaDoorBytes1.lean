/-
  Lists, lists within lists, as the laws make them. Conditions: no more than 1000 lists.
-/
import Derived.Test.YtgkmhdifjgpbeaaDoorAwake
import Derived.Test.YtgkmhdifjgpbeaaDoorCopied
import Derived.Test.YtgkmhdifjgpbeaaDoorBlot
import Derived.BigGuardPart
namespace Go.Proofs.YtgkmhdifjgpbeaaDoor
open Go.RowKit

theorem list_any (p : Option Addr) (n c : Nat) (w : World) : Calls Tryd.prog 22 #[.slice p n c] w fun e w' => e = .returned (.agg #[.string ⟨#[]⟩, .slice p n c]) ∧ Below w.heap.size w w' := by
  go_enter Tryd.func22, Tryd.ntmps22
  go_wp2_with fail
  refine bodyPost_ret (v := .agg #[.string ⟨#[]⟩, .slice p n c]) (by simp [results, Tryd.results22, go_sem]) rfl ⟨rfl, (Below.refl _ _).alloc (Nat.le_refl _) _⟩

def NestSays (w : World) (e : Ending) (w' : World) : Prop :=
  Below w.heap.size w w' ∧ ∃ p n c T, e = .returned (.agg #[.string ⟨#[]⟩, .slice p n c]) ∧ Sl (U w') 0 w'.heap.size (.slice p n c) T

theorem Fx_blocks {w w' : World} {S : List Nat} (h : ∀ k, k < w.heap.size → k ∉ S → w'.heap[k]? = w.heap[k]?) : ∀ b o v, Fx w S b o = some v → Fx w' S b o = some v := fun b o _ hv =>
  Fx_mk ((U_block (h b (U_lt (Fx_U hv)) (Fx_not hv)) o).trans (Fx_U hv)) (Fx_not hv)

/-- A list of one tree, laid anew. -/
theorem Sl.wrap {w w2 : World} {S : List Nat} {p : Option Addr} {n c nb : Nat} {T : Ts} (h : Sl (Fx w S) 0 w.heap.size (.slice p n c) T) (hS : nb ∉ S) (hb : w2.heap[nb]? = some (.cells #[.string ⟨#[]⟩, .slice p n c] 41 (0, 0)))
    (hk : ∀ k, k < w.heap.size → k ∉ S → w2.heap[k]? = w.heap[k]?) (hs : w.heap.size ≤ w2.heap.size) : Sl (Fx w2 S) 0 w2.heap.size (.slice (some ⟨nb, 0, none⟩) 1 1) (.cons ⟨#[]⟩ T .nil) := by
  have hlt : nb < w2.heap.size := (Array.getElem?_eq_some_iff.1 hb).1
  have u0 : Fx w2 S nb 0 = some (.string ⟨#[]⟩) := Fx_mk (U_mk (by simp [World.cell?, hb]) (by simp [World.frozen?, hb])) hS
  have u1 : Fx w2 S nb 1 = some (.slice p n c) := Fx_mk (U_mk (by simp [World.cell?, hb]) (by simp [World.frozen?, hb])) hS
  exact ⟨_, _, _, rfl, rfl, Nat.le_refl _, by decide, .inr (.inr ⟨nb, 0, rfl, Nat.zero_le _, hlt, TAt_cons.2 ⟨u0, Nat.zero_le _, ⟨_, u1, h.mono (fun b o u _ _ hu => Fx_blocks hk b o u hu) (Nat.le_refl _) hs⟩, trivial⟩⟩)⟩

structure NestAt (w : World) (b4 b5 : Nat) (wr : World) (q : Option Addr) (n c : Nat) (T : Ts) : Prop where
  bl : Below w.heap.size w wr
  lt : b5 < wr.heap.size
  c50 : wr.cell? ⟨b5, 0, none⟩ = some (.string ⟨#[]⟩)
  c51 : wr.cell? ⟨b5, 1, none⟩ = some (.slice q n c)
  f50 : wr.frozen? ⟨b5, 0, none⟩ = false
  f51 : wr.frozen? ⟨b5, 1, none⟩ = false
  h4 : wr.heap[b4]? = some (.cells #[.string ⟨#[]⟩, .slice none 0 0] 41 (0, 0))
  sl : Sl (Fx wr [b4, b5]) 0 wr.heap.size (.slice q n c) T

/-- One list more around it. -/
theorem NestAt.more {w wr w1 : World} {b4 b5 n c : Nat} {q : Option Addr} {T : Ts} (h : NestAt w b4 b5 wr q n c T) (h45 : b4 ≠ b5) (hl4 : b4 < wr.heap.size) (hw : w.heap.size ≤ b5) (hb : Below (wr.alloc (.cells #[.string ⟨#[]⟩, .slice q n c] 41)).heap.size (wr.alloc (.cells #[.string ⟨#[]⟩, .slice q n c] 41)) w1) :
    NestAt w b4 b5 ((w1.setCell ⟨b5, 0, none⟩ (.string ⟨#[]⟩)).setCell ⟨b5, 1, none⟩ (.slice (some ⟨wr.heap.size, 0, none⟩) 1 1)) (some ⟨wr.heap.size, 0, none⟩) 1 1 (.cons ⟨#[]⟩ T .nil) := by
  have hbw : Below wr.heap.size wr w1 := ((Below.refl _ wr).alloc (Nat.le_refl _) _).trans (hb.mono (by simp))
  have hnb : w1.heap[wr.heap.size]? = some (.cells #[.string ⟨#[]⟩, .slice q n c] 41 (0, 0)) := (hb.block wr.heap.size (by simp)).trans (heap_alloc_new wr _)
  have hsz := hbw.size
  have hwz := h.bl.size
  have e0 : (w1.cell? ⟨b5, 0, none⟩) = some (.string ⟨#[]⟩) := (hbw.cell (p := ⟨b5, 0, none⟩) h.lt).trans h.c50
  have e1 : (w1.cell? ⟨b5, 1, none⟩) = some (.slice q n c) := (hbw.cell (p := ⟨b5, 1, none⟩) h.lt).trans h.c51
  have g0 : w1.frozen? ⟨b5, 0, none⟩ = false := (hbw.frozen (p := ⟨b5, 0, none⟩) h.lt).trans h.f50
  have g1 : w1.frozen? ⟨b5, 1, none⟩ = false := (hbw.frozen (p := ⟨b5, 1, none⟩) h.lt).trans h.f51
  have hne : (⟨b5, 0, none⟩ : Addr) ≠ ⟨b5, 1, none⟩ := by intro e; injection e with _ e2; cases e2
  have hblk : ∀ k, k ≠ b5 → ((w1.setCell ⟨b5, 0, none⟩ (.string ⟨#[]⟩)).setCell ⟨b5, 1, none⟩ (.slice (some ⟨wr.heap.size, 0, none⟩) 1 1)).heap[k]? = w1.heap[k]? := fun k hk =>
    (Below.heap_setCell _ ⟨b5, 1, none⟩ _ k hk).trans (Below.heap_setCell _ ⟨b5, 0, none⟩ _ k hk)
  refine ⟨((h.bl.trans (hbw.mono hwz)).setCell (p := ⟨b5, 0, none⟩) hw _).setCell (p := ⟨b5, 1, none⟩) hw _, by simp; exact Nat.lt_of_lt_of_le h.lt hsz, ?_, ?_, ?_, ?_, (hblk b4 h45).trans ((hbw.block b4 hl4).trans h.h4), ?_⟩
  · exact (World.cell?_setCell_other _ _ _ _ hne.symm).trans (World.cell?_setCell_same' _ _ _ (by rw [e0]; rfl))
  · exact World.cell?_setCell_same' _ _ _ (by rw [World.cell?_setCell_other _ _ _ _ hne, e1]; rfl)
  · rw [World.frozen?_setCell, World.frozen?_setCell]; exact g0
  · rw [World.frozen?_setCell, World.frozen?_setCell]; exact g1
  · refine h.sl.wrap (by simp; have := h.lt; omega) ((hblk _ (by have := h.lt; omega)).trans hnb) (fun k hk hS => ?_) (by simpa using hsz)
    have hk5 : k ≠ b5 := fun e => hS (by simp [e])
    exact (hblk k hk5).trans (hbw.block k hk)

set_option maxRecDepth 100000 in
set_option maxHeartbeats 2000000 in
theorem nested_any (m : Nat) (p : Option Addr) (n c : Nat) (X : Ts) (w : World) (hm : m ≤ 1000) (hx : Sl (U w) 0 w.heap.size (.slice p n c) X) : Calls Tryd.prog 24 #[.int .i64 m, .slice p n c] w (NestSays w) := by
  have HX := Lib.hid hx
  clear hx
  go_enter Tryd.func24, Tryd.ntmps24
  go_wp2_with fail
  refine (list_any p n c _).mono ?_
  rintro e w1 ⟨rfl, hb1⟩
  have hS : NestAt w w.heap.size w1.heap.size (w1.alloc (.cells #[.string ⟨#[]⟩, .slice p n c] 41)) p n c X := by
    have hw1 : w.heap.size + 1 ≤ w1.heap.size := by have := hb1.size; simpa using this
    have hbw : Below w.heap.size w w1 := ((Below.refl _ w).alloc (Nat.le_refl _) _).trans (hb1.mono (by simp))
    have hnew := heap_alloc_new w1 (.cells #[.string ⟨#[]⟩, .slice p n c] 41 (0, 0))
    have hold : ∀ k, k < w1.heap.size → (w1.alloc (.cells #[.string ⟨#[]⟩, .slice p n c] 41)).heap[k]? = w1.heap[k]? := fun k hk => Below.heap_alloc _ _ k hk
    refine ⟨hbw.alloc (by omega) _, by simp, by unfold World.cell?; rw [hnew]; rfl, by unfold World.cell?; rw [hnew]; rfl, by unfold World.frozen?; rw [hnew]; rfl, by unfold World.frozen?; rw [hnew]; rfl,
      (hold _ (by omega)).trans ((hb1.block w.heap.size (by simp)).trans (heap_alloc_new w _)), ?_⟩
    refine HX.out.mono (fun b o u _ hlt hu => Fx_mk ((U_block ((hold b (by omega)).trans (hbw.block b hlt)) o).trans hu) (by simp; omega)) (Nat.le_refl _) (by simp; omega)
  have HS := Lib.hid hS
  obtain ⟨b5, hb5⟩ : ∃ b5, w1.heap.size = b5 := ⟨_, rfl⟩
  have h45 : w.heap.size < b5 := by have := hb1.size; simp at this; omega
  have h1c : c ≤ maxLen := by obtain ⟨_, c', e, -, h, -⟩ := HX.out.slice; cases e; exact h
  clear hb1 hS HX
  go_wp2_with fail
  obtain ⟨W0, hW0⟩ : ∃ W0, w1.alloc (.cells #[.string ⟨#[]⟩, .slice p n c] 41) = W0 := ⟨_, rfl⟩
  rw [hW0]
  rw [hW0, hb5] at HS
  try rw [hb5]
  clear hW0 hb5 h1c
  go_loopw [6] (fun i wr => ∃ (k : Nat) (q : Option Addr) (n' c' : Nat) (T : Ts), 1 ≤ k ∧ k ≤ 1001 ∧ i = .int .i64 k ∧ NestAt w w.heap.size b5 wr q n' c' T) (fun i _ => m - (intOf i).toNat)
  case atStart => exact ⟨1, p, n, c, X, Nat.le_refl _, by omega, rfl, HS.out⟩
  case round =>
    obtain ⟨k, q, n', c', T, hk1, hk2, rfl, hN⟩ := hrel
    have HN := Lib.hid hN
    have c50 := hN.c50
    have c51 := hN.c51
    have f50 := hN.f50
    have f51 := hN.f51
    have hlt5 := hN.lt
    by_cases hlt : k < m
    · have HL := Lib.hid (list_any (some ⟨wr.heap.size, 0, none⟩) 1 1 (wr.alloc (.cells #[.string ⟨#[]⟩, .slice q n' c'] 41)))
      clear hN HS
      go_wp2_with fail
      refine HL.out.mono ?_
      rintro e w2 ⟨rfl, hb2⟩
      have HM := Lib.hid (HN.out.more (by omega) (by omega) (by omega) hb2)
      have d0 : w2.cell? ⟨b5, 0, none⟩ = some (.string ⟨#[]⟩) := (hb2.cell (p := ⟨b5, 0, none⟩) (by simp; omega)).trans ((World.cell?_of_block (a := ⟨b5, 0, none⟩) (Below.heap_alloc _ _ _ hlt5)).trans c50)
      have d1 : w2.cell? ⟨b5, 1, none⟩ = some (.slice q n' c') := (hb2.cell (p := ⟨b5, 1, none⟩) (by simp; omega)).trans ((World.cell?_of_block (a := ⟨b5, 1, none⟩) (Below.heap_alloc _ _ _ hlt5)).trans c51)
      have g0 : w2.frozen? ⟨b5, 0, none⟩ = false := (hb2.frozen (p := ⟨b5, 0, none⟩) (by simp; omega)).trans ((World.frozen?_of_block (a := ⟨b5, 0, none⟩) (Below.heap_alloc _ _ _ hlt5)).trans f50)
      have g1 : w2.frozen? ⟨b5, 1, none⟩ = false := (hb2.frozen (p := ⟨b5, 1, none⟩) (by simp; omega)).trans ((World.frozen?_of_block (a := ⟨b5, 1, none⟩) (Below.heap_alloc _ _ _ hlt5)).trans f51)
      clear hb2 c50 c51 f50 f51 HL
      go_wp2_with fail
      go_roundw
      case rel => exact ⟨k + 1, _, 1, 1, _, by omega, by omega, by go_num, HM.out⟩
      case measure => simp [intOf]; omega
    · have h40 : wr.cell? ⟨w.heap.size, 0, none⟩ = some (.string ⟨#[]⟩) := by unfold World.cell?; rw [hN.h4]; rfl
      have h41 : wr.cell? ⟨w.heap.size, 1, none⟩ = some (.slice none 0 0) := by unfold World.cell?; rw [hN.h4]; rfl
      have k40 : wr.frozen? ⟨w.heap.size, 0, none⟩ = false := by unfold World.frozen?; rw [hN.h4]; rfl
      have k41 : wr.frozen? ⟨w.heap.size, 1, none⟩ = false := by unfold World.frozen?; rw [hN.h4]; rfl
      clear hN HS
      go_wp2_with fail
      have hne : (⟨w.heap.size, 0, none⟩ : Addr) ≠ ⟨w.heap.size, 1, none⟩ := by intro e; injection e with _ e2; cases e2
      have x0 : ((wr.setCell ⟨w.heap.size, 0, none⟩ (.string ⟨#[]⟩)).setCell ⟨w.heap.size, 1, none⟩ (.slice q n' c')).cell? ⟨w.heap.size, 0, none⟩ = some (.string ⟨#[]⟩) :=
        (World.cell?_setCell_other _ _ _ _ hne.symm).trans (World.cell?_setCell_same' _ _ _ (by rw [h40]; rfl))
      have x1 : ((wr.setCell ⟨w.heap.size, 0, none⟩ (.string ⟨#[]⟩)).setCell ⟨w.heap.size, 1, none⟩ (.slice q n' c')).cell? ⟨w.heap.size, 1, none⟩ = some (.slice q n' c') :=
        World.cell?_setCell_same' _ _ _ (by rw [World.cell?_setCell_other _ _ _ _ hne, h41]; rfl)
      have hblk : ∀ k, k ≠ w.heap.size → ((wr.setCell ⟨w.heap.size, 0, none⟩ (.string ⟨#[]⟩)).setCell ⟨w.heap.size, 1, none⟩ (.slice q n' c')).heap[k]? = wr.heap[k]? := fun k hk =>
        (Below.heap_setCell _ ⟨w.heap.size, 1, none⟩ _ k hk).trans (Below.heap_setCell _ ⟨w.heap.size, 0, none⟩ _ k hk)
      refine bodyPost_ret (v := .agg #[.string ⟨#[]⟩, .slice q n' c']) (by simp [results, Tryd.results24, go_sem, x0, x1]) rfl ⟨(HN.out.bl.setCell (p := ⟨w.heap.size, 0, none⟩) (Nat.le_refl _) _).setCell (p := ⟨w.heap.size, 1, none⟩) (Nat.le_refl _) _, q, n', c', T, rfl, ?_⟩
      exact HN.out.sl.mono (fun b o u _ _ hu => (U_block (hblk b (fun e => Fx_not hu (by simp [e]))) o).trans (Fx_U hu)) (Nat.le_refl _) (by simp)
end Go.Proofs.YtgkmhdifjgpbeaaDoor
