/-
  What the program's reading tells or throws. Conditions: none.
-/
import Derived.Test.YtgkmhdifjgpbeaaDoorRounds
namespace Go.Proofs.YtgkmhdifjgpbeaaDoor
open Go.RowKit Go.Shelf
attribute [local go_sem] Oper.semAt_some

theorem wpIn_rangeWide {P : Program} {g : Operand} {ps : Array Tmp} {assign body : Code} {Q : Exit → Act → World → Prop} {a : Act} {w : World} {G : Nat} {lb : Array Value} (hg : a.eval g = .func (.func G) #[] lb)
    (henter : ∀ W, (invoke (.fn (.func G) lb) #[.func (.yield (w.heap.size + 1)) #[] #[]]).run P W = .ok (.enter G (#[.func (.yield (w.heap.size + 1)) #[] #[]] ++ lb)) W)
    (h : ∀ (fn : FuncId) (R : LoopState → Loop), (∀ x, R x = { state := x, pending := none, fn, tmps := a.tmps, params := ps, assign, body, defers := w.heap.size }) →
      CallsIn Fence.wide 0 P G (#[.func (.yield (w.heap.size + 1)) #[] #[]] ++ lb) ((w.alloc (.deferred (some []))).alloc (.loop (R .ready))) (rangePost Fence.wide 0 P (w.heap.size + 1) Q { a with defers := [{ target := .collected w.heap.size, args := #[] }] ++ a.defers })) :
    (Code.rangeFunc g ps assign body).wpIn Fence.wide 0 P Q a w := by
  refine wpIn_rangeFunc fun fn _ => ?_
  refine ⟨w.heap.size + 1, [{ target := .collected w.heap.size, args := #[] }], _, { target := .fn (.func G) lb, args := #[.func (.yield (w.heap.size + 1)) #[] #[]] }, _, G, _, _, run_enterLoop_outer _ _ _ _ _, ?_, fun _ _ => trivial, henter _, fun h => (by cases h), h fn (fun x => { state := x, pending := none, fn, tmps := a.tmps, params := ps, assign, body, defers := w.heap.size }) (fun _ => rfl)⟩
  have hk : a.eval (.const (.func (.yield (w.heap.size + 1)) #[] #[])) = .func (.yield (w.heap.size + 1)) #[] #[] := rfl
  generalize a.eval = ev at hg hk ⊢
  simp [resolve, go_sem, hg, hk]

set_option maxRecDepth 100000 in
set_option maxHeartbeats 1000000 in
theorem words_any (text : ByteArray) (w : World) : Calls Tryd.prog 29 #[.string text] w fun e w' =>
    e = .returned (.func (.func 48) #[] #[.pointer (some ⟨w.heap.size, 0, none⟩)]) ∧ w' = w.alloc (.cells #[.string text] 9) := by
  go_enter Tryd.func29, Tryd.ntmps29
  go_wp2
  go_ret
  exact ⟨rfl, rfl⟩

/-- What a reading tells: trees of the call's own; or it throws. -/
def ReadSays (r : Except Int Ts) (w : World) (e : Ending) (w' : World) : Prop :=
  Below w.heap.size w w' ∧ match r with
    | .ok t => ∃ v, e = .returned v ∧ Sl (U w') w.heap.size w'.heap.size v t
    | .error n => e = .panicked (thrown n)

theorem end_any {P : Program} {W : World} {l : Nat} {r : Loop} (h : W.heap[l]? = some (.loop r)) (hb : r.state ≠ .busy) (hp : r.pending = none) : ∃ W', (Instr.endLoop l).run P W = .ok none W' ∧ Mv [l] W W' := by
  have h1 := run_endLoop (P := P) h hb
  rw [hp] at h1
  exact ⟨_, h1, (Mv.refl _ _).putObj (by simp) _⟩
theorem readE_one {l : List UInt8} {t : Ts} (h : l.length ≤ 262144) (hr : run [.nil] (toks .out l) = .ok [t]) : readE l = .ok t := by
  unfold readE; rw [if_neg (by omega), hr]
theorem readE_many {l : List UInt8} {st : List Ts} (h : l.length ≤ 262144) (hr : run [.nil] (toks .out l) = .ok st) (hs : st.length ≠ 1) : readE l = .error 4 := by
  unfold readE; rw [if_neg (by omega), hr]
  match st, hs with
  | [], _ => rfl
  | [t], h => exact absurd rfl h
  | _ :: _ :: _, _ => rfl

set_option maxRecDepth 100000 in
set_option maxHeartbeats 4000000 in
theorem read1_any (text : ByteArray) (b0 : Nat) (w : World) (hc : w.cell? ⟨b0, 0, none⟩ = some (.string text)) (hlt : text.size ≤ 140737488355328) :
    Calls Tryd.prog 27 #[.pointer (some ⟨b0, 0, none⟩)] w (ReadSays (readE text.data.toList) w) := by
  refine (callsIn_wide (n := 0)).1 ?_
  have hb0 : b0 < w.heap.size := World.block_lt_of_cell? _ _ hc
  have e2 : text.data.toList.length = text.size := by rw [Array.length_toList]; rfl
  refine callsIn_of_wp_marks Tryd.func27 rfl trivial ?_ rfl
  simp only [Tryd.ntmps27, List.size_toArray, List.length_cons, List.length_nil, Nat.reduceAdd, Nat.reduceSub, Array.replicate_succ, Array.replicate_zero, List.push_toArray, List.append_toArray, List.nil_append, List.cons_append]
  by_cases hbig : text.size ≤ 262144
  · have r1 : decide ((text.size : Int) ≤ 262144) = true := decide_eq_true (by omega)
    gi_wp2_with fail
    refine ⟨trivial, rfl, (callsIn_wide.2 (must_ok _ _)).mono ?_⟩
    rintro e w' ⟨rfl, rfl⟩
    have hc3 : (((w.alloc (.cells #[.slice none 0 0] 23)).alloc (.cells #[.slice (some ⟨w.heap.size, 0, none⟩) 1 1] 60)).alloc (.cells #[.pointer (some ⟨w.heap.size + 1, 0, none⟩)] 56)).cell? ⟨b0, 0, none⟩ = some (.string text) := by
      have hb : Below w.heap.size w (((w.alloc (.cells #[.slice none 0 0] 23)).alloc (.cells #[.slice (some ⟨w.heap.size, 0, none⟩) 1 1] 60)).alloc (.cells #[.pointer (some ⟨w.heap.size + 1, 0, none⟩)] 56)) := (((Below.refl _ _).alloc (Nat.le_refl _) _).alloc (by simp) _).alloc (by simp; omega) _
      exact (hb.cell (p := ⟨b0, 0, none⟩) hb0).trans hc
    gi_wp2_with fail
    refine ⟨trivial, rfl, (callsIn_wide.2 (words_any text _)).mono ?_⟩
    rintro e w' ⟨rfl, rfl⟩
    gi_wp2_with fail
    obtain ⟨W0, hW0⟩ : ∃ W0, ((((w.alloc (.cells #[.slice none 0 0] 23)).alloc (.cells #[.slice (some ⟨w.heap.size, 0, none⟩) 1 1] 60)).alloc (.cells #[.pointer (some ⟨w.heap.size + 1, 0, none⟩)] 56)).alloc (.cells #[.string text] 9)) = W0 := ⟨_, rfl⟩
    have hs0 : W0.heap.size = w.heap.size + 4 := by rw [← hW0]; simp
    have hB0 : Below w.heap.size w W0 := by rw [← hW0]; exact ((((Below.refl _ _).alloc (Nat.le_refl _) _).alloc (by simp) _).alloc (by simp; omega) _).alloc (by simp; omega) _
    have k0 : W0.heap[w.heap.size]? = some (.cells #[.slice none 0 0] 23 (0, 0)) := by rw [← hW0]; show ((((w.heap.push _).push _).push _).push _)[w.heap.size]? = _; simp only [Array.getElem?_push, Array.size_push]; repeat (first | rw [if_pos trivial] | rw [if_pos (by omega)] | rw [if_neg (by omega)])
    have k1 : W0.heap[w.heap.size + 1]? = some (.cells #[.slice (some ⟨w.heap.size, 0, none⟩) 1 1] 60 (0, 0)) := by rw [← hW0]; show ((((w.heap.push _).push _).push _).push _)[w.heap.size + 1]? = _; simp only [Array.getElem?_push, Array.size_push]; repeat (first | rw [if_pos trivial] | rw [if_pos (by omega)] | rw [if_neg (by omega)])
    have k2 : W0.heap[w.heap.size + 2]? = some (.cells #[.pointer (some ⟨w.heap.size + 1, 0, none⟩)] 56 (0, 0)) := by rw [← hW0]; show ((((w.heap.push _).push _).push _).push _)[w.heap.size + 2]? = _; simp only [Array.getElem?_push, Array.size_push]; repeat (first | rw [if_pos trivial] | rw [if_pos (by omega)] | rw [if_neg (by omega)])
    have k3 : W0.heap[w.heap.size + 3]? = some (.cells #[.string text] 9 (0, 0)) := by rw [← hW0]; show ((((w.heap.push _).push _).push _).push _)[w.heap.size + 3]? = _; simp only [Array.getElem?_push, Array.size_push]; repeat (first | rw [if_pos trivial] | rw [if_pos (by omega)] | rw [if_neg (by omega)])
    rw [hW0]
    clear hW0 hc3
    refine wpIn_rangeWide (G := 48) (lb := #[.pointer (some ⟨w.heap.size + 3, 0, none⟩)]) rfl (fun W => by simp [invoke, go_sem]) ?_
    obtain ⟨D, hD⟩ : ∃ D, W0.heap.size = D := ⟨_, rfl⟩
    rw [hD]
    intro fn R hR
    have hB0' := hB0
    obtain ⟨W1, hW1⟩ : ∃ W1, (W0.alloc (.deferred (some []))).alloc (.loop (R .ready)) = W1 := ⟨_, rfl⟩
    have hold : ∀ k, k < D → W1.heap[k]? = W0.heap[k]? := fun k hk => by
      rw [← hW1]; exact (Below.heap_alloc _ _ k (by simp; omega)).trans (Below.heap_alloc _ _ k (by omega))
    have hs1 : W1.heap.size = D + 2 := by rw [← hW1]; simp; omega
    have hL1 : W1.heap[D + 1]? = some (.loop (R .ready)) := by rw [← hW1]; have := World.alloc_heap_new (W0.alloc (.deferred (some []))) (.loop (R .ready)); rwa [World.size_alloc, hD] at this
    have hK1 : W1.heap[D]? = some (.deferred (some [])) := by rw [← hW1]; refine (Below.heap_alloc _ _ _ (by simp; omega)).trans ?_; rw [← hD]; exact World.alloc_heap_new W0 _
    have hB1 : Below w.heap.size w W1 := by rw [← hW1]; exact (hB0.alloc (by omega) _).alloc (by simp; omega) _
    rw [hW1]
    clear hW1 hB0 hB0'
    have j0 := (hold (w.heap.size) (by omega)).trans k0
    have j1 := (hold (w.heap.size + 1) (by omega)).trans k1
    have j2 := (hold (w.heap.size + 2) (by omega)).trans k2
    have j3 := (hold (w.heap.size + 3) (by omega)).trans k3
    have hnd : [w.heap.size + 1, w.heap.size + 3, w.heap.size + 2, D + 1, D].Nodup := by simp; omega
    have hlo : ∀ b ∈ [w.heap.size + 1, w.heap.size + 3, w.heap.size + 2, D + 1, D], w.heap.size ≤ b := by simp; omega
    have hJ0 : RdJ R w.heap.size (w.heap.size + 1) (w.heap.size + 3) (w.heap.size + 2) (D + 1) D w [.nil] W1 := by
      refine ⟨⟨_, by omega, ?_, by simp [World.frozen?, j1], w.heap.size, 1, [.slice none 0 0], rfl, by simp [World.cell?, j1], ?_⟩, hL1, hK1, by simp [World.cell?, j2], hB1⟩
      · simp [blocks, own, Value.ownBlock]
      · refine ⟨⟨rfl, .inr ⟨w.heap.size, 1, #[.slice none 0 0], rfl, Nat.le_refl _, j0, Nat.le_refl _, by decide, rfl, rfl⟩⟩, rfl, by simp [blocks, own, Value.ownBlock], ?_, ?_, ?_⟩
        · intro i v t hv ht
          cases i with
          | zero => cases hv; cases ht; exact RowT.nil _ _ _ _
          | succ i => cases hv
        · intro b hb
          simp [blocks, own, Value.ownBlock] at hb ⊢
          omega
        · intro b hb
          simp at hb
          omega
    refine (words1_in (D + 1) (w.heap.size + 3) text [.nil] (RdJ R w.heap.size (w.heap.size + 1) (w.heap.size + 3) (w.heap.size + 2) (D + 1) D w) (RdZ w.heap.size D w)
      (fun st W W' hm hJ => hJ.move hnd hm (by omega)) (round_any hR hnd hlo ?_) W1 (by simp [World.cell?, j3]) (by simp [World.frozen?, j3]) hJ0 Fit.start hbig).mono ?_
    · intro s W W2 T hbr hp hcall
      have hp' : W2.cell? ⟨w.heap.size + 1 + 1, 0, none⟩ = some (.pointer (some ⟨w.heap.size + 1, 0, none⟩)) := hp
      gi_wp2
      refine ⟨rfl, W2, .pointer (some ⟨w.heap.size + 1, 0, none⟩), .string s, 30, _, hbr, rfl, ?_, rfl, ?_, rfl, ?_, hcall⟩
      · simp [go_sem, hp']
      · simp [go_sem]
      · simp [go_sem]
    · rintro e W2 h2
      cases hrun : run [.nil] (toks .out text.data.toList) with
      | error n =>
        rw [hrun] at h2
        obtain ⟨rfl, hD2, hB2⟩ := h2
        refine ⟨by simp, .inl ⟨_, _, rfl, run_takeDeferred hD2, ?_⟩⟩
        refine ⟨hB2.trans ⟨rfl, rfl, rfl, by simp, fun k hk => World.putObj_heap_other (by omega)⟩, ?_⟩
        unfold readE
        rw [e2, if_neg (by omega), hrun]
      | ok st =>
        rw [hrun] at h2
        obtain ⟨⟨v, rfl⟩, hJ2⟩ := h2
        obtain ⟨S, hr2⟩ := hJ2.rd
        obtain ⟨W3, hend, hm3⟩ := end_any (P := Tryd.prog) hJ2.lp (by rw [hR]; simp) (by rw [hR])
        have hlt2 : D + 1 < W2.heap.size := (Array.getElem?_eq_some_iff.1 hJ2.lp).1
        have hr3 := hr2.move (hm3.wide2 (fun b hb => by simp at hb; subst hb; simp)) (by simp; omega)
        have hp3 : W3.cell? ⟨w.heap.size + 1 + 1, 0, none⟩ = some (.pointer (some ⟨w.heap.size + 1, 0, none⟩)) := (hm3.cell (b := w.heap.size + 2) (by omega) (by simp; omega)).trans hJ2.pt
        have hK3 : W3.heap[D]? = some (.deferred (some [])) := (hm3.block D (by omega) (by simp)).trans hJ2.df
        have hB3 : Below w.heap.size w W3 := hJ2.bl.trans (hm3.below (by simp; omega) (by omega))
        obtain ⟨q1, q2, q3, g, c, vs, rfl, hcell, hst⟩ := hr3
        have hlen := hst.len
        rw [List.length_reverse] at hlen
        have HST := Lib.hid hst
        have HLEN := Lib.hid hlen
        have HEND := Lib.hid hend
        have HB3 := Lib.hid hB3
        have HRUN := Lib.hid hrun
        have HK3 := Lib.hid hK3
        clear hst hlen hend hB3 hrun hK3 hm3 hr2 hJ2 hR hc k0 k1 k2 k3 j0 j1 j2 j3 hold hL1 hK1 hB1 hJ0 q1 q2 q3 hnd hlo
        refine ⟨none, W3, HEND.out, ?_⟩
        by_cases h1 : vs.length = 1
        · have hst := HST.out
          have hlen := HLEN.out
          obtain ⟨v1, rfl⟩ : ∃ v1, vs = [v1] := List.length_eq_one_iff.1 h1
          obtain ⟨t, rfl⟩ : ∃ t, st = [t] := List.length_eq_one_iff.1 (by rw [← hlen]; rfl)
          have hg : W3.cell? ⟨g, 0, none⟩ = some v1 := hst.top.cellAt 0 (by simp)
          have hsl := Lib.hid (StkT.pop (vs := []) (ts := []) hst).2.1
          have hcell2 : W3.cell? ⟨w.heap.size + 1, 0, none⟩ = some (.slice (some ⟨g, 0, none⟩) 1 c) := hcell
          clear hst hlen h1 hcell
          gi_wp2_with fail
          refine ⟨trivial, rfl, (callsIn_wide.2 (must_ok _ _)).mono ?_⟩
          rintro e w' ⟨rfl, rfl⟩
          gi_wp2_with fail
          refine ⟨by simp, .inl ⟨_, _, rfl, run_takeDeferred HK3.out, ?_⟩⟩
          refine ⟨_, results_tmp rfl _ _ _, HB3.out.trans ⟨rfl, rfl, rfl, by simp, fun k hk => World.putObj_heap_other (by omega)⟩, ?_⟩
          rw [readE_one (by omega) HRUN.out]
          refine ⟨_, rfl, ?_⟩
          have h2 := hsl.out
          refine h2.mono (fun b o u _ _ hu => (U_block (World.putObj_heap_other ?_) o).trans (Fx_U hu)) (Nat.le_refl _) (by simp)
          rintro rfl
          exact Fx_not hu (by simp)
        · have r2 : ((vs.length : Int) == 1) = false := by simpa using fun h => h1 (by omega)
          have h9 := Lib.hid (show st.length ≠ 1 by have := HLEN.out; omega)
          clear h1
          gi_wp2_with fail
          refine ⟨trivial, rfl, (callsIn_wide.2 (must_no _ _)).mono ?_⟩
          rintro e w' ⟨rfl, rfl⟩
          refine ⟨by simp, .inl ⟨_, _, rfl, run_takeDeferred HK3.out, ?_⟩⟩
          refine ⟨HB3.out.trans ⟨rfl, rfl, rfl, by simp, fun k hk => World.putObj_heap_other (by omega)⟩, ?_⟩
          rw [readE_many (by omega) HRUN.out h9.out]
  · have r1 : decide ((text.size : Int) ≤ 262144) = false := decide_eq_false (by omega)
    gi_wp2_with fail
    refine ⟨trivial, rfl, (callsIn_wide.2 (must_no _ _)).mono ?_⟩
    rintro e w' ⟨rfl, rfl⟩
    exact ⟨Below.refl _ _, by unfold readE; rw [e2, if_pos (by omega)]⟩
end Go.Proofs.YtgkmhdifjgpbeaaDoor
