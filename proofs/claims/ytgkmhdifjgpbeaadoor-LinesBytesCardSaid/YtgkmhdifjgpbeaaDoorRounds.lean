/-
  One round of the loop over words: the reader takes a word or a sign. Conditions: no more than 401 rows.
-/
import Derived.Test.YtgkmhdifjgpbeaaDoorWords1
import Derived.Test.YtgkmhdifjgpbeaaDoorRoundP
namespace Go.Proofs.YtgkmhdifjgpbeaaDoor
open Go.RowKit Go.Shelf

theorem Mv.putObj {S : List Nat} {a b : World} (h : Mv S a b) {r : Nat} (hr : r ∈ S) (o : Obj) : Mv S a (b.putObj r o) :=
  ⟨h.os, h.tape, h.output, by simpa using h.size, fun k hk hn => (World.putObj_heap_other (fun e => hn (by subst e; exact hr))).trans (h.block k hk hn)⟩
theorem RdAt.move {X : List Nat} {w w' : World} {base rb : Nat} {S : List Nat} {st : List Ts} (h : RdAt X w base rb S st) (hm : Mv X w w') (hx : rb ∉ X) : RdAt X w' base rb S st := by
  obtain ⟨h1, h2, h3, g, c, vs, h4, h5, h6⟩ := h
  exact ⟨Nat.lt_of_lt_of_le h1 hm.size, h2, (hm.frozen h1 hx).trans h3, g, c, vs, h4, (hm.cell h1 hx).trans h5, h6.move (hm.wide2 (fun b hb => List.mem_cons_of_mem _ hb))⟩
theorem RdAt.off {X : List Nat} {w : World} {base rb : Nat} {S : List Nat} {st : List Ts} (h : RdAt X w base rb S st) : ∀ b ∈ X, b ∉ S := by
  obtain ⟨_, _, _, g, c, vs, rfl, _, h6⟩ := h
  exact fun b hb => h6.off b (List.mem_cons_of_mem _ hb)
theorem RdAt.old {X : List Nat} {w : World} {base rb : Nat} {S : List Nat} {st : List Ts} (h : RdAt X w base rb S st) : ∀ b ∈ X, b < w.heap.size := by
  obtain ⟨_, _, _, g, c, vs, rfl, _, h6⟩ := h
  exact fun b hb => h6.old b (List.mem_cons_of_mem _ hb)
theorem RdAt.low {X : List Nat} {w : World} {base rb : Nat} {S : List Nat} {st : List Ts} (h : RdAt X w base rb S st) : ∀ b ∈ S, base ≤ b := by
  obtain ⟨_, _, _, g, c, vs, rfl, _, h6⟩ := h
  exact fun b hb => (h6.bound b hb).1

/-- Between two rounds. -/
structure RdJ (R : LoopState → Loop) (base rb tb rc l D : Nat) (w0 : World) (st : List Ts) (W : World) : Prop where
  rd : ∃ S, RdAt [tb, rc, l, D] W base rb S st
  lp : W.heap[l]? = some (.loop (R .ready))
  df : W.heap[D]? = some (.deferred (some []))
  pt : W.cell? ⟨rc, 0, none⟩ = some (.pointer (some ⟨rb, 0, none⟩))
  bl : Below base w0 W
/-- Behind a panic. -/
def RdZ (base D : Nat) (w0 : World) (W : World) : Prop := W.heap[D]? = some (.deferred (some [])) ∧ Below base w0 W

theorem RdJ.move {R : LoopState → Loop} {base rb tb rc l D : Nat} {w0 W W' : World} {st : List Ts} (hnd : [rb, tb, rc, l, D].Nodup) (h : RdJ R base rb tb rc l D w0 st W) (hm : Mv [tb] W W') (htb : base ≤ tb) : RdJ R base rb tb rc l D w0 st W' := by
  obtain ⟨S, hr⟩ := h.rd
  simp only [List.nodup_cons, List.mem_cons, List.not_mem_nil, or_false, not_or] at hnd
  obtain ⟨⟨n1, n2, n3, n4⟩, ⟨n5, n6, n7⟩, ⟨n8, n9⟩, n10, _⟩ := hnd
  have hl : l < W.heap.size := (Array.getElem?_eq_some_iff.1 h.lp).1
  have hD : D < W.heap.size := (Array.getElem?_eq_some_iff.1 h.df).1
  have hrc := World.block_lt_of_cell? _ _ h.pt
  refine ⟨⟨S, hr.move (hm.wide2 (fun b hb => by simp at hb; subst hb; simp)) (by simp; omega)⟩, (hm.block l hl (by simp; omega)).trans h.lp, (hm.block D hD (by simp; omega)).trans h.df, (hm.cell hrc (by simp; omega)).trans h.pt, ?_⟩
  refine h.bl.trans ⟨hm.os, hm.tape, hm.output, hm.size, fun k hk => hm.block k (Nat.lt_of_lt_of_le hk ?_) (by simp; omega)⟩
  exact Nat.le_trans htb (Nat.le_of_lt (hr.old tb (by simp)))

set_option maxHeartbeats 1000000 in
/-- One round. -/
theorem round_any {fn : FuncId} {tmps : Array Value} {assign : Code} {id id2 : Nat} {o0 o1 o2 : Oper} {R : LoopState → Loop} {base rb tb rc l D : Nat} {w0 : World}
    (hR : ∀ x, R x = { state := x, pending := none, fn, tmps, params := #[13], assign, body := .block id (.region id2 #[o0, o1, o2] false), defers := D }) (hnd : [rb, tb, rc, l, D].Nodup) (hb : ∀ b ∈ [rb, tb, rc, l, D], base ≤ b)
    (hAB : ∀ (s : ByteArray) (W W2 : World) (T : Ending → World → Prop), (Instr.beginRound l).run Tryd.prog W = .ok () W2 → W2.cell? ⟨rc, 0, none⟩ = some (.pointer (some ⟨rb, 0, none⟩)) →
      CallsIn Fence.wide 0 Tryd.prog 30 #[.pointer (some ⟨rb, 0, none⟩), .string s] W2 (roundAfter Tryd.prog l T) →
      assign.wpIn (Fence.wide.inRound l) 0 Tryd.prog (Exit.then (roundAhead Tryd.prog l #[o0, o1, o2] o0 o1 o2 T) (fun _ _ _ => False)) { tmps := tmps.setIfInBounds 13 (.string s), defers := [] } W)
    (st : List Ts) (k : Nat) (s x : ByteArray) (W : World) (hJ : RdJ R base rb tb rc l D w0 st W) (hF : Fit k st) (hk : k ≤ 262144) (hs : s.size ≤ 262144) (hc : W.cell? ⟨tb, 0, none⟩ = some (.string x)) (hf : W.frozen? ⟨tb, 0, none⟩ = false) :
    YieldAt Fence.wide 0 Tryd.prog l #[.string s] W (RoundSays tb x (RdJ R base rb tb rc l D w0) (RdZ base D w0) (step st s)) := by
  have hy := run_yield (P := Tryd.prog) (args := #[.string s]) hJ.lp (by rw [hR]; rfl)
  have hbr := run_beginRound (P := Tryd.prog) hJ.lp (by rw [hR])
  have hbusy : ({ R .ready with state := .busy } : Loop) = R .busy := by rw [hR, hR]
  rw [hbusy] at hbr
  obtain ⟨F1, F2, F3⟩ := hF
  obtain ⟨t, r, rfl⟩ : ∃ t r, st = t :: r := by cases st with
    | nil => exact absurd rfl F1
    | cons t r => exact ⟨t, r, rfl⟩
  obtain ⟨S, hr⟩ := hJ.rd
  have hnd0 := hnd
  simp only [List.nodup_cons, List.mem_cons, List.not_mem_nil, or_false, not_or] at hnd
  obtain ⟨⟨n1, n2, n3, n4⟩, ⟨n5, n6, n7⟩, ⟨n8, n9⟩, n10, _⟩ := hnd
  have hl : l < W.heap.size := (Array.getElem?_eq_some_iff.1 hJ.lp).1
  have hD : D < W.heap.size := (Array.getElem?_eq_some_iff.1 hJ.df).1
  have hrc : rc < W.heap.size := World.block_lt_of_cell? _ _ hJ.pt
  have htb : tb < W.heap.size := World.block_lt_of_cell? _ _ hc
  obtain ⟨W2, hW2⟩ : ∃ W2, W.putObj l (.loop (R .busy)) = W2 := ⟨_, rfl⟩
  have hm2 : Mv [l] W W2 := by rw [← hW2]; exact (Mv.refl _ _).putObj (by simp) _
  have hL2 : W2.heap[l]? = some (.loop (R .busy)) := by rw [← hW2]; exact World.putObj_heap_same hl
  rw [hW2] at hbr
  have hr2 : RdAt [tb, rc, l, D] W2 base rb S (t :: r) := hr.move (hm2.wide2 (fun b hb => by simp at hb; subst hb; simp)) (by simp; omega)
  have hp2 := (hm2.cell hrc (by simp; omega)).trans hJ.pt
  have hc2 := (hm2.cell htb (by simp; omega)).trans hc
  have hf2 := (hm2.frozen (o := 0) htb (by simp; omega)).trans hf
  have hD2 : W2.heap[D]? = some (.deferred (some [])) := (hm2.block D hD (by simp; omega)).trans hJ.df
  have hbase : base ≤ W.heap.size := Nat.le_trans (hb l (by simp)) (Nat.le_of_lt hl)
  have hB2 : Below base w0 W2 := hJ.bl.trans (hm2.below (by simp; exact hb l (by simp)) hbase)
  have hoff := hr2.off
  have hlow := hr2.low
  have htok := tok_any [tb, rc, l, D] W2 base rb S t r s hr2 (by omega) (by simp at F2; omega) (fun u hu => by have := F3 u hu; omega)
  refine ⟨fn, tmps.setIfInBounds 13 (.string s), assign, .block id (.region id2 #[o0, o1, o2] false), ?_, roundIn_of_call (hAB s W W2 _ hbr hp2 ((callsIn_wide.2 htok).mono ?_))⟩
  · rw [hy, hR]; simp
  · rintro e w' ⟨hm, hsays⟩
    have hsz2 : base ≤ W2.heap.size := Nat.le_trans hbase hm2.size
    have hnS : ∀ b ∈ [tb, rc, l, D], b ∉ rb :: S := fun b hb' hin => by
      rcases List.mem_cons.1 hin with rfl | h
      · simp at hb'; omega
      · exact hoff b hb' h
    have hB3 : Below base w0 w' := hB2.trans (hm.below (fun b hb' => by
      rcases List.mem_cons.1 hb' with rfl | h
      · exact hb _ (by simp)
      · exact hlow b h) hsz2)
    have hD3 := (hm.block D (Nat.lt_of_lt_of_le hD hm2.size) (hnS D (by simp))).trans hD2
    cases hst : step (t :: r) s with
    | error n =>
      rw [hst] at hsays
      subst hsays
      exact ⟨rfl, hD3, hB3⟩
    | ok st' =>
      rw [hst] at hsays
      obtain ⟨rfl, S', hr3, hS'⟩ := hsays
      have hL3 := (hm.block l (Nat.lt_of_lt_of_le hl hm2.size) (hnS l (by simp))).trans hL2
      have hp3 := (hm.cell (Nat.lt_of_lt_of_le hrc hm2.size) (hnS rc (by simp))).trans hp2
      have hc3 := (hm.cell (Nat.lt_of_lt_of_le htb hm2.size) (hnS tb (by simp))).trans hc2
      have hf3 := (hm.frozen (o := 0) (Nat.lt_of_lt_of_le htb hm2.size) (hnS tb (by simp))).trans hf2
      have hl3 : l < w'.heap.size := (Array.getElem?_eq_some_iff.1 hL3).1
      have hend := run_endRound (P := Tryd.prog) none hL3
      have hrdy : ({ R .busy with state := if (none : Option Code).isNone = true then .ready else .done, pending := none } : Loop) = R .ready := by rw [hR, hR]; rfl
      rw [hrdy] at hend
      obtain ⟨W4, hW4⟩ : ∃ W4, w'.putObj l (.loop (R .ready)) = W4 := ⟨_, rfl⟩
      have hm4 : Mv [l] w' W4 := by rw [← hW4]; exact (Mv.refl _ _).putObj (by simp) _
      have hL4 : W4.heap[l]? = some (.loop (R .ready)) := by rw [← hW4]; exact World.putObj_heap_same hl3
      rw [hW4] at hend
      have hsz3 := hm.size
      have hsz4 := hm2.size
      refine ⟨_, W4, hend, rfl, ⟨⟨S', hr3.move (hm4.wide2 (fun b hb => by simp at hb; subst hb; simp)) (by simp; omega)⟩, hL4, (hm4.block D (by omega) (by simp; omega)).trans hD3, (hm4.cell (by omega) (by simp; omega)).trans hp3, ?_⟩, (hm4.cell (by omega) (by simp; omega)).trans hc3, (hm4.frozen (o := 0) (by omega) (by simp; omega)).trans hf3⟩
      exact hB3.trans (hm4.below (by simp; exact hb l (by simp)) (by omega))
end Go.Proofs.YtgkmhdifjgpbeaaDoor
