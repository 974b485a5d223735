/-
  What a text reads as, as the document tells it. Conditions: none.
-/
import Derived.Test.YtgkmhdifjgpbeaaDoorRefWords
import Derived.Test.YtgkmhdifjgpbeaaDoorRead
import Derived.Deep.RegionLaw
namespace Go.Proofs.YtgkmhdifjgpbeaaDoor
open Go.RowKit

theorem toks_len : ∀ (l : List UInt8) (m : Md), (toks m l).length ≤ l.length + (match m with | .word _ => 1 | _ => 0)
  | [], .out => by simp [toks]
  | [], .word _ => by simp [toks]
  | [], .note => by simp [toks]
  | b :: r, .note => by
    have h1 := toks_len r .out
    have h2 := toks_len r .note
    simp only [toks]
    split <;> simp at h1 h2 ⊢ <;> omega
  | b :: r, .out => by
    have h1 := toks_len r .out
    have h2 := toks_len r .note
    have h3 := toks_len r (.word [b])
    simp only [toks]
    split
    · simp at h1 ⊢; omega
    · split
      · simp at h2 ⊢; omega
      · split
        · simp at h1 ⊢; omega
        · simp at h3 ⊢; omega
  | b :: r, .word a => by
    have h1 := toks_len r .out
    have h2 := toks_len r .note
    have h3 := toks_len r (.word (a ++ [b]))
    simp only [toks]
    split
    · simp at h1 ⊢; omega
    · split
      · simp at h2 ⊢; omega
      · split
        · simp at h1 ⊢; omega
        · simp at h3 ⊢; omega

theorem toks_size : ∀ (l : List UInt8) (m : Md), ∀ x ∈ toks m l, x.length ≤ l.length + (match m with | .word a => a.length | _ => 0)
  | [], .out => by simp [toks]
  | [], .word _ => by simp [toks]
  | [], .note => by simp [toks]
  | b :: r, .note => by
    have h1 := toks_size r .out
    have h2 := toks_size r .note
    intro x hx
    simp only [toks] at hx
    split at hx
    · have := h1 x hx; simp at this ⊢; omega
    · have := h2 x hx; simp at this ⊢; omega
  | b :: r, .out => by
    have h1 := toks_size r .out
    have h2 := toks_size r .note
    have h3 := toks_size r (.word [b])
    intro x hx
    simp only [toks] at hx
    split at hx
    · have := h1 x hx; simp at this ⊢; omega
    · split at hx
      · have := h2 x hx; simp at this ⊢; omega
      · split at hx
        · rcases List.mem_cons.1 hx with rfl | hx
          · simp
          · have := h1 x hx; simp at this ⊢; omega
        · have := h3 x hx; simp at this ⊢; omega
  | b :: r, .word a => by
    have h1 := toks_size r .out
    have h2 := toks_size r .note
    have h3 := toks_size r (.word (a ++ [b]))
    intro x hx
    simp only [toks] at hx
    split at hx
    · rcases List.mem_cons.1 hx with rfl | hx
      · simp
      · have := h1 x hx; simp at this ⊢; omega
    · split at hx
      · rcases List.mem_cons.1 hx with rfl | hx
        · simp
        · have := h2 x hx; simp at this ⊢; omega
      · split at hx
        · rcases List.mem_cons.1 hx with rfl | hx
          · simp
          · rcases List.mem_cons.1 hx with rfl | hx
            · simp; omega
            · have := h1 x hx; simp at this ⊢; omega
        · have := h3 x hx; simp at this ⊢; omega

/-- The document's open rows. -/
def RfAt (w : World) (base : Nat) (v5 : Value) (st : List Ts) : Prop :=
  ∃ g c vs, v5 = .slice (some ⟨g, 0, none⟩) vs.length c ∧ StkT [] w base 44 27 (.slice (some ⟨g, 0, none⟩) vs.length c) vs st.reverse

theorem RfAt.open_ {w : World} {base : Nat} {v5 : Value} {t : Ts} {st : List Ts} (h : RfAt w base v5 (t :: st)) :
    ∃ g c vs v, v5 = .slice (some ⟨g, 0, none⟩) (vs.length + 1) c ∧ vs.length = st.length ∧ StkT [] w base 44 27 (.slice (some ⟨g, 0, none⟩) (vs.length + 1) c) (vs ++ [v]) (st.reverse ++ [t]) := by
  obtain ⟨g, c, vs, rfl, hs⟩ := h
  rw [List.reverse_cons] at hs
  have hl := hs.len
  simp at hl
  have hne : vs ≠ [] := by intro e; subst e; simp at hl
  obtain ⟨vs0, v, rfl⟩ : ∃ vs0 v, vs = vs0 ++ [v] := ⟨vs.dropLast, vs.getLast hne, (List.dropLast_concat_getLast hne).symm⟩
  rw [List.length_append, List.length_singleton] at hs hl
  rw [List.length_append, List.length_singleton]
  exact ⟨g, c, vs0, v, rfl, by omega, hs⟩

theorem info27 : (Tryd.prog.info? 27).map (fun i => (i.zero, i.size, i.bytes)) = some (some (.slice none 0 0), 1, 24) := by kernel_rfl

def RfRel (L : List (List UInt8)) (w1 : World) (v5 i : Value) (wr : World) : Prop :=
  ∃ (k : Nat) (st : List Ts), k ≤ L.length ∧ i = .int .i64 k ∧ Below w1.heap.size w1 wr ∧ RfAt wr w1.heap.size v5 st ∧ Fit k st ∧ run [.nil] L = run st (L.drop k)

/-- What the document's reading hands over. -/
theorem WRow.at_ {w w' : World} {base base2 : Nat} {v : Value} {L : List (List UInt8)} (h : WRow w base v L) (hb : Below base2 w w') (h2 : w.heap.size ≤ base2) : ∃ p c, v = .slice p L.length c ∧ ∀ k (hk : k < L.length), ∃ g, p = some ⟨g, 0, none⟩ ∧ w'.cell? ⟨g, k, none⟩ = some (strOf (L[k]'hk)) := by
  rcases h.2 with ⟨rfl, h0⟩ | ⟨g, cap, cur, rfl, hb1, hg, _⟩
  · exact ⟨none, 0, by rw [h0], fun k hk => by omega⟩
  · refine ⟨_, _, rfl, fun k hk => ⟨g, rfl, ?_⟩⟩
    have hlt : g < w.heap.size := (Array.getElem?_eq_some_iff.1 hg).1
    have h3 := World.ownsRow.cellAt h k (by omega)
    rw [(hb.cell (p := ⟨g, k, none⟩) (Nat.lt_of_lt_of_le hlt h2)).trans h3]
    simp [hk]

theorem StkT.put3 {X : List Nat} {w wA w1 : World} {base : Nat} {e eo : TypeId} {g c gg cap : Nat} {v kv : Value} {t x : Ts} {wd : ByteArray} {vs xs : List Value} {ts : List Ts}
    (h : StkT X w base e eo (.slice (some ⟨g, 0, none⟩) (vs.length + 1) c) (vs ++ [v]) (ts ++ [t]))
    (hc : CellsT (Fx w (X ++ blocks (.slice (some ⟨g, 0, none⟩) (vs.length + 1) c) (vs ++ [v]))) base w.heap.size xs t) (hA : Mv [] w wA)
    (hown : w1.ownsRow base e 2 (.slice (some ⟨gg, 0, none⟩) (t.len + 1) cap) (t.len + 1) (xs ++ [.string wd, kv])) (hgrow : wA.grownBy w1 v.ownBlock) (hat : v.ownBlock = some gg ∨ w.heap.size ≤ gg)
    (hw : wd.size ≤ 140737488355328) (hk : Sl (Fx w (X ++ blocks (.slice (some ⟨g, 0, none⟩) (vs.length + 1) c) (vs ++ [v]))) base w.heap.size kv x) :
    StkT X (w1.setCell ⟨g, vs.length, none⟩ (.slice (some ⟨gg, 0, none⟩) (t.len + 1) cap)) base e eo (.slice (some ⟨g, 0, none⟩) (vs.length + 1) c) (vs ++ [.slice (some ⟨gg, 0, none⟩) (t.len + 1) cap]) (ts ++ [t.snoc wd x]) ∧
      Mv (blocks (.slice (some ⟨g, 0, none⟩) (vs.length + 1) c) (vs ++ [v])) w (w1.setCell ⟨g, vs.length, none⟩ (.slice (some ⟨gg, 0, none⟩) (t.len + 1) cap)) ∧
      ∀ b ∈ blocks (.slice (some ⟨g, 0, none⟩) (vs.length + 1) c) (vs ++ [.slice (some ⟨gg, 0, none⟩) (t.len + 1) cap]), b ∈ blocks (.slice (some ⟨g, 0, none⟩) (vs.length + 1) c) (vs ++ [v]) ∨ w.heap.size ≤ b := by
  have htop := h.top
  rw [List.length_append, List.length_singleton] at htop
  have hglt := (htop.lt g rfl).2
  have hne : gg ≠ g := by
    rintro rfl
    rcases hat with e1 | e1
    · exact h.far _ e1 rfl
    · omega
  have hD : ∀ b, b ∈ own (.slice (some ⟨g, 0, none⟩) (vs.length + 1) c) ++ own v → b ∈ blocks (.slice (some ⟨g, 0, none⟩) (vs.length + 1) c) (vs ++ [v]) := by
    intro b hb
    unfold blocks
    rcases List.mem_append.1 hb with hb | hb
    · exact List.mem_append.2 (.inl hb)
    · exact List.mem_append.2 (.inr (List.mem_flatMap.2 ⟨v, by simp, hb⟩))
  have hA' : Mv (own (.slice (some ⟨g, 0, none⟩) (vs.length + 1) c) ++ own v) w wA := hA.wide (fun b hb => by simp at hb)
  have hM1 : Mv (own (.slice (some ⟨g, 0, none⟩) (vs.length + 1) c) ++ own v) w w1 := hA'.grown hgrow (fun k hk => .inl (List.mem_append.2 (.inr (mem_own.2 hk))))
  have hgi : g ∈ own (.slice (some ⟨g, 0, none⟩) (vs.length + 1) c) ++ own v ∨ w.heap.size ≤ g := .inl (List.mem_append.2 (.inl (mem_own.2 rfl)))
  have hM2 := hM1.store hgi vs.length (.slice (some ⟨gg, 0, none⟩) (t.len + 1) cap)
  have ho1 : w1.ownsRow base eo 1 (.slice (some ⟨g, 0, none⟩) (vs.length + 1) c) (vs.length + 1) (vs ++ [v]) := by
    refine ownsRow_heap htop (fun k hk => ?_)
    cases hk
    have hA1 := hA.block g hglt (by simp)
    refine (hgrow.block g (by have := hA.size; omega) (fun e1 => ?_)).trans hA1
    exact h.far g e1.symm rfl
  have hown2 : (w1.setCell ⟨g, vs.length, none⟩ (.slice (some ⟨gg, 0, none⟩) (t.len + 1) cap)).ownsRow base eo 1 (.slice (some ⟨g, 0, none⟩) (vs.length + 1) c) (vs.length + 1) (vs ++ [.slice (some ⟨gg, 0, none⟩) (t.len + 1) cap]) := by
    have h1 := (ho1.stored vs.length (.slice (some ⟨gg, 0, none⟩) (t.len + 1) cap)).1
    rw [set_last] at h1
    exact h1
  have n1 : (Value.slice (some ⟨gg, 0, none⟩) (t.len + 1) cap).ownBlock ≠ some g := by simp [Value.ownBlock]; omega
  have hv2 := ownsRow_setCell_other hown (a := ⟨g, vs.length, none⟩) n1 (.slice (some ⟨gg, 0, none⟩) (t.len + 1) cap)
  have hfin := h.put hc hM2 hown2 hv2 (by
    rcases hat with e1 | e1
    · exact .inl e1.symm
    · exact .inr ⟨gg, rfl, e1⟩) hw hk
  exact ⟨hfin.1, hM2.wide (fun b hb => .inl (hD b hb)), hfin.2⟩

theorem wrap_small {n : Nat} (h : n ≤ 1000000) : IntKind.i64.wrap (n : Int) = (n : Int) := by
  simp [IntKind.wrap, go_sem]
  omega
theorem coin_below (w : World) (o : Obj) : Below w.heap.size w (w.alloc o).drew :=
  have h := (Below.refl w.heap.size w).alloc (Nat.le_refl _) o
  ⟨h.os, h.tape, h.output, h.size, h.block⟩

theorem run_next {L : List (List UInt8)} {k : Nat} {st st' : List Ts} {r : Except Int (List Ts)} (h : r = run st (L.drop k)) (hk : k < L.length) (hs : step st ⟨(L[k]'hk).toArray⟩ = .ok st') : r = run st' (L.drop (k + 1)) := by
  rw [h, List.drop_eq_getElem_cons hk, run, hs]
theorem run_stop {L : List (List UInt8)} {k : Nat} {st : List Ts} {n : Int} {r : Except Int (List Ts)} (h : r = run st (L.drop k)) (hk : k < L.length) (hs : step st ⟨(L[k]'hk).toArray⟩ = .error n) : r = .error n := by
  rw [h, List.drop_eq_getElem_cons hk, run, hs]

theorem RfRel.next {L : List (List UInt8)} {w1 wr w2 : World} {g c k : Nat} {O : Value} {VS vs2 : List Value} {TS st0 st2 : List Ts} (hB : Below w1.heap.size w1 wr) (h : StkT [] wr w1.heap.size 44 27 O VS TS)
    (hm : Mv (blocks O VS) wr w2) (h2 : StkT [] w2 w1.heap.size 44 27 (.slice (some ⟨g, 0, none⟩) vs2.length c) vs2 st2.reverse) (hk : k < L.length) (hfit : Fit k st0) (hrun : run [.nil] L = run st0 (L.drop k))
    (hs : step st0 ⟨(L[k]'hk).toArray⟩ = .ok st2) : RfRel L w1 (.slice (some ⟨g, 0, none⟩) vs2.length c) (.int .i64 ((k : Int) + 1)) w2 :=
  ⟨k + 1, st2, hk, by simp, hB.trans (hm.below (fun b hb => (h.bound b hb).1) hB.size), ⟨g, c, vs2, rfl, h2⟩, hfit.step hs, run_next hrun hk hs⟩

theorem told_err {l : List UInt8} {w w' : World} {n : Int} (h : readE l = .error n) (hb : Below w.heap.size w w') : Told l w (.returned (.tuple #[.slice none 0 0, .int .i64 n])) w' := by
  refine ⟨hb, .slice none 0 0, ?_, ?_, fun _ => rfl⟩
  · unfold rErr; rw [h]
  · unfold rTs; rw [h]; exact Sl.none_ _ _ _
theorem told_ok {l : List UInt8} {w w' : World} {v : Value} {t : Ts} (h : readE l = .ok t) (hb : Below w.heap.size w w') (hs : Sl (U w') w.heap.size w'.heap.size v t) : Told l w (.returned (.tuple #[v, .int .i64 0])) w' := by
  refine ⟨hb, v, ?_, ?_, fun h' => ?_⟩
  · unfold rErr; rw [h]
  · unfold rTs; rw [h]; exact hs
  · unfold rErr at h'; rw [h] at h'; exact absurd rfl h'
theorem readE_long {l : List UInt8} (h : 262144 < l.length) : readE l = .error 3 := by unfold readE; rw [if_pos h]
theorem readE_stop {l : List UInt8} {n : Int} (h : l.length ≤ 262144) (hr : run [.nil] (toks .out l) = .error n) : readE l = .error n := by unfold readE; rw [if_neg (by omega), hr]

set_option maxRecDepth 100000 in
set_option maxHeartbeats 4000000 in
theorem refRead_any (text : ByteArray) (w : World) (hsz : text.size ≤ 140737488355328) : Calls Tryd.prog 10 #[.string text] w (Told text.data.toList w) := by
  have e2 : text.data.toList.length = text.size := by rw [Array.length_toList]; rfl
  by_cases hbig : text.size ≤ 262144
  · have r0 : decide ((262144 : Int) < (text.size : Int)) = false := decide_eq_false (by omega)
    have HW := Lib.hid (refWords_any text w hbig)
    have HLN := Lib.hid (toks_len text.data.toList .out)
    go_enter Tryd.func10, Tryd.ntmps10
    go_wp2_with fail
    refine HW.out.mono ?_
    rintro e w1 ⟨hb1, v4, rfl, hrow⟩
    obtain ⟨L, hL⟩ : ∃ L, toks .out text.data.toList = L := ⟨_, rfl⟩
    have HL := Lib.hid hL
    have hLn : L.length ≤ 262144 := by have := HLN.out; rw [hL] at this; simp at this; omega
    rw [hL] at hrow
    have HB1 := Lib.hid hb1
    obtain ⟨p4, c4, rfl, _⟩ := hrow.at_ (Below.refl w1.heap.size w1) (Nat.le_refl _)
    have HROW := Lib.hid hrow
    clear hb1 hrow hL
    go_wp2_with fail
    go_loopw [5, 6] (fun v i wr => RfRel L w1 v i wr) (fun _ i _ => L.length - (intOf i).toNat)
    case atStart =>
      refine ⟨0, [.nil], Nat.zero_le _, rfl, (Below.refl _ w1).alloc (Nat.le_refl _) _, ⟨w1.heap.size, 1, [.slice none 0 0], rfl, ⟨⟨rfl, .inr ⟨w1.heap.size, 1, #[.slice none 0 0], rfl, Nat.le_refl _, heap_alloc_new w1 _, Nat.le_refl _, by decide, rfl, rfl⟩⟩, rfl, by simp [blocks, own, Value.ownBlock], ?_, ?_, ?_⟩⟩, Fit.start, rfl⟩
      · intro i v t hv ht
        cases i with
        | zero => cases hv; cases ht; exact RowT.nil _ _ _ _
        | succ i => cases hv
      · intro b hb; simp at hb
      · intro b hb; simp at hb
    case round =>
      obtain ⟨k, st, hk, rfl, hB, hrf, hfit, hrun⟩ := hrel
      have HFIT := Lib.hid hfit
      obtain ⟨F1, F2, F3⟩ := hfit
      obtain ⟨t, st, rfl⟩ : ∃ t r, st = t :: r := by cases st with
        | nil => exact absurd rfl F1
        | cons t r => exact ⟨t, r, rfl⟩
      obtain ⟨g, c, vs, v, rfl, hvl, hst⟩ := hrf.open_
      have HST := Lib.hid hst
      have HVL := Lib.hid hvl
      have HB := Lib.hid hB
      have HRUN := Lib.hid hrun
      have HF3 := Lib.hid F3
      have hvl2 : vs.length ≤ 400 := by simp at F2; omega
      clear hst hvl hrf hB hrun F1 F2 F3
      by_cases hlt : k < L.length
      · obtain ⟨p', c', e4, hcell⟩ := HROW.out.at_ HB.out (Nat.le_refl _)
        obtain ⟨g4, rfl, hck⟩ := hcell k hlt
        have hg4lt : g4 < w1.heap.size := (HROW.out.lt g4 (by rw [e4]; rfl)).2
        unfold strOf at hck
        obtain ⟨s, hs⟩ : ∃ s : ByteArray, (⟨(L[k]'hlt).toArray⟩ : ByteArray) = s := ⟨_, rfl⟩
        rw [hs] at hck
        have HS := Lib.hid hs
        have HSW : Hid (s.size ≤ 140737488355328) := by
          have h3 := toks_size text.data.toList .out (L[k]'hlt) (by rw [HL.out]; exact List.getElem_mem hlt)
          have h4 : s.size = (L[k]'hlt).length := by rw [← hs]; simp [ByteArray.size]
          simp at h3
          unfold Hid
          rw [h4]
          have : text.data.size = text.size := rfl
          omega
        have hkk : (k : Int) < (L.length : Int) := by omega
        simp only [Value.slice.injEq] at e4
        obtain ⟨rfl, _, rfl⟩ := e4
        clear hs hcell
        by_cases h1 : s.data.toList = [40]
        · have q1 := bytes_eq h1
          have H1 := Lib.hid h1
          clear h1
          by_cases h400 : vs.length + 1 ≤ 400
          · have r1 : decide ((400 : Int) < (vs.length : Int) + 1) = false := decide_eq_false (by omega)
            obtain ⟨i0, hi0, hz0, hz1, hz2⟩ := info_parts info27
            have htop := HST.out.top
            rw [List.length_append, List.length_singleton] at htop
            have hgb := htop.lt g rfl
            have hszB := HB.out.size
            have C3 : Hid (vs.length + 1 + 1 ≤ maxLen) := by unfold Hid maxLen; omega
            have C4 : Hid ((vs.length + 1 + 1) * 24 ≤ 140737488355328) := by unfold Hid; omega
            have C5 : Hid (w1.heap.size ≤ (wr.alloc (.cells #[.slice none 0 0] 27)).heap.size) := by unfold Hid; simp; omega
            have HSTEP : Hid (step (t :: st) s = .ok (.nil :: t :: st)) := by unfold Hid step; rw [if_pos H1.out, if_pos (by rw [List.length_cons, ← HVL.out]; omega)]
            go_wp2_with (at_builtin; refine wpList_append_lies _ rfl (.tmp 75) (.tmp 76) 67 rfl w1.heap.size 27 i0 (.slice none 0 0) 1 24 Tryd.underlying67 hi0 hz0 hz1 hz2 rfl (by decide) (.slice (some ⟨g, 0, none⟩) (vs.length + 1) c) (vs.length + 1) (vs ++ [v]) rfl (htop.alloc _) ⟨wr.heap.size, 0, none⟩ 1 1 [.slice none 0 0] rfl rfl (new_cells _ _ _) (by simp [Value.oneCell']) (by decide) C3.out C4.out C5.out (wr.heap.size + 1) (by simp) ?_; intro gg cap w2 hown2 hg2 hat2 hlt2; have HOWN := Lib.hid hown2; have HG := Lib.hid hg2; clear hown2 hg2)
            refine ⟨?_, by simp [intOf]; omega⟩
            have hM0 : Mv (own (.slice (some ⟨g, 0, none⟩) (vs.length + 1) c)) wr w2 := ((Mv.refl _ wr).alloc _).grown HG.out (fun k hk => .inl (mem_own.2 hk))
            obtain ⟨p1, p2⟩ := HST.out.push hM0 (by rw [List.length_append, List.length_singleton]; exact HOWN.out) (by
              rcases hat2 with h1 | h1
              · exact .inl h1.symm
              · exact .inr ⟨gg, rfl, by omega⟩)
            have h9 := RfRel.next (L := L) (w1 := w1) (vs2 := vs ++ [v] ++ [.slice none 0 0]) HB.out HST.out (hM0.wide2 (fun b hb => List.mem_append.2 (.inl hb))) (st2 := .nil :: t :: st) (g := gg) (c := cap) (by simp only [List.length_append, List.length_singleton, List.reverse_cons]; exact p1) hlt HFIT.out HRUN.out (by rw [HS.out]; exact HSTEP.out)
            simp only [List.length_append, List.length_singleton] at h9
            exact h9
          · have r1 : decide ((400 : Int) < (vs.length : Int) + 1) = true := decide_eq_true (by omega)
            have HR := Lib.hid (run_stop (n := 3) HRUN.out hlt (by rw [HS.out]; unfold step; rw [if_pos H1.out, if_neg (by rw [List.length_cons, ← HVL.out]; omega)]))
            go_wp2_with fail
            go_ret2
            exact told_err (readE_stop (by omega) (by rw [HL.out]; exact HR.out)) (HB1.out.trans (HB.out.mono HB1.out.size))
        · have q1 := bytes_ne h1
          have H1 := Lib.hid h1
          clear h1
          by_cases h2 : s.data.toList = [41]
          · have q2 := bytes_eq h2
            have H2 := Lib.hid h2
            clear h2
            cases st with
            | nil =>
              have hv0 : vs.length = 0 := HVL.out
              have r1 : (((vs.length : Int) + 1) == 1) = true := by rw [hv0]; rfl
              clear hv0
              have HR := Lib.hid (run_stop (n := 4) HRUN.out hlt (by rw [HS.out]; unfold step; rw [if_neg H1.out, if_pos H2.out]))
              go_wp2_with fail
              go_ret2
              exact told_err (readE_stop (by omega) (by rw [HL.out]; exact HR.out)) (HB1.out.trans (HB.out.mono HB1.out.size))
            | cons u r =>
              have hne : vs ≠ [] := by intro e; subst e; have := HVL.out; simp at this
              have h1v : vs.length = r.length + 1 := HVL.out
              have r1 : (((vs.length : Int) + 1) == 1) = false := by have : 0 < vs.length := List.length_pos_iff.2 hne; simpa using fun h => by omega
              obtain ⟨vs0, v0, hvs⟩ : ∃ vs0 v0, vs = vs0 ++ [v0] := ⟨vs.dropLast, vs.getLast hne, (List.dropLast_concat_getLast hne).symm⟩
              obtain ⟨m, hm⟩ : ∃ m, vs0.length = m := ⟨_, rfl⟩
              have hvn : vs.length = vs0.length + 1 := by rw [hvs]; simp
              have HVN := Lib.hid hvn
              obtain ⟨p1, p2, p3⟩ := HST.out.pop
              have hvn2 := hvn
              rw [hm] at hvn2
              have hmv : m < vs.length := by omega
              have hm4 : m ≤ 400 := by omega
              have HM := Lib.hid hm
              obtain ⟨pv, nv, cv, rfl⟩ : ∃ pv nv cv, v = .slice pv nv cv := by
                obtain ⟨xs, hr, hc⟩ := HST.out.last
                rcases hr.2 with ⟨rfl, h0⟩ | ⟨gv, cap, cur, rfl, _⟩
                · exact ⟨none, 0, 0, rfl⟩
                · exact ⟨_, _, _, rfl⟩
              have htop0 := HST.out.top
              rw [List.length_append, List.length_singleton] at htop0
              have hgv : wr.cell? ⟨g, vs.length, none⟩ = some (.slice pv nv cv) := by
                have h3 := htop0.cellAt vs.length (by omega)
                rw [h3, List.getElem?_append_right (Nat.le_refl _), Nat.sub_self]
                rfl
              have hgc2 : (vs.length : Int) + 1 ≤ (c : Int) := by
                rcases htop0.2 with ⟨h', _⟩ | ⟨g', cap', cur, h', _, _, hnc, _⟩
                · cases h'
                · simp only [Value.slice.injEq] at h'; omega
              have hgfv := htop0.frozenAt vs.length
              rw [List.reverse_cons] at p1
              have p2' := p2
              rw [hvn, hvs] at p1
              rw [hvn, hvs] at p2
              have HSU := Lib.hid p1
              have HSL := Lib.hid p2
              have HH1 := Lib.hid h1v
              have hr1 : decide ((400 : Int) < (vs.length : Int) + 1) = decide (400 < vs.length + 1) := by congr 1; exact propext ⟨fun h => by omega, fun h => by omega⟩
              clear p1 p2 p3 p2' hvs hm hvn hvn2 htop0 h1v hr1
              obtain ⟨i0, hi0, hz0, hz1, hz2⟩ := info_parts info44
              have hst := HSU.out
              obtain ⟨xs, hr, hc⟩ := hst.last
              have HC := Lib.hid hc
              have hxs := hc.len
              have hvb := hr.lt
              have hvs : ∃ pu cu, v0 = .slice pu u.len cu := by
                rcases hr.2 with ⟨rfl, h0⟩ | ⟨gv, cap, cur, rfl, _⟩
                · exact ⟨none, 0, by rw [h0]⟩
                · exact ⟨_, _, rfl⟩
              obtain ⟨pu, cu, rfl⟩ := hvs
              have htop := hst.top
              rw [List.length_append, List.length_singleton] at htop
              have hglt := (htop.lt g rfl).2
              have hgc := htop.cellAt vs0.length (by omega)
              rw [List.getElem?_append_right (Nat.le_refl _), Nat.sub_self] at hgc
              have hgu : wr.cell? ⟨g, vs0.length, none⟩ = some (.slice pu u.len cu) := hgc
              have hgf := htop.frozenAt vs0.length
              rw [HM.out] at hgu hgf
              have hfar := hst.far
              have hbase := (htop.lt g rfl).1
              have ht := HF3.out u (by simp)
              clear hc hgc htop hst
              have HSTEP : Hid (step (t :: u :: r) s = .ok (u.snoc ⟨#[]⟩ t :: r)) := by unfold Hid step; rw [if_neg H1.out, if_pos H2.out]
              have hi2 : (vs.length : Int) < (vs.length : Int) + 1 := by omega
              have hwr0 : IntKind.i64.wrap ((vs.length : Int) + 1 - 1) = (vs.length : Int) := by rw [Int.add_sub_cancel]; exact wrap_small (by omega)
              have hwr3 : IntKind.i64.wrap (vs.length : Int) = (vs.length : Int) := wrap_small (by omega)
              have hwr1 : IntKind.i64.wrap ((vs.length : Int) + 1 - 2) = (m : Int) := by rw [show (vs.length : Int) + 1 - 2 = (m : Int) by have h1 := HVN.out; have h2 := HM.out; omega]; exact wrap_small (by omega)
              have hwr2 : IntKind.i64.wrap (m : Int) = (m : Int) := wrap_small (by omega)
              go_wp2_with fail
              go_region
              all_goals (go_wp2_with fail)
              · obtain ⟨W, hW⟩ : ∃ W, ((wr.alloc (.cells #[.string ⟨#[]⟩, .slice pv nv cv] 44)).alloc (.cells #[.bool false] 4)).drew = W := ⟨_, rfl⟩
                have hBW : Below wr.heap.size wr W := by rw [← hW]; exact ((Below.refl _ wr).alloc (Nat.le_refl _) _).trans ((coin_below _ _).mono (by simp))
                have hszW : W.heap.size = wr.heap.size + 2 := by rw [← hW]; simp
                have hbx : W.heap[wr.heap.size]? = some (.cells #[.string ⟨#[]⟩, .slice pv nv cv] 44 (0, 0)) := by
                  rw [← hW]
                  exact ((coin_below (wr.alloc (.cells #[.string ⟨#[]⟩, .slice pv nv cv] 44)) _).block wr.heap.size (by simp)).trans (heap_alloc_new wr _)
                rw [hW]
                clear hW
                have bx0 : W.cell? ⟨wr.heap.size, 0, none⟩ = some (.string ⟨#[]⟩) := by simp [World.cell?, hbx]
                have bx1 : W.cell? ⟨wr.heap.size, 1, none⟩ = some (.slice pv nv cv) := by simp [World.cell?, hbx]
                clear hbx
                have hszB := HB.out.size
                have hgW : W.cell? ⟨g, m, none⟩ = some (.slice pu u.len cu) := (hBW.cell (p := ⟨g, m, none⟩) hglt).trans hgu
                have hgfW : W.frozen? ⟨g, m, none⟩ = false := (hBW.frozen (p := ⟨g, m, none⟩) hglt).trans hgf
                have hrW : W.ownsRow w1.heap.size 44 2 (.slice pu u.len cu) u.len xs := ownsRow_below hr hBW
                have hA : Mv [] wr W := Mv.of_below _ hBW
                clear hgu hgf hr hck
                have hi1 : (m : Int) < (vs.length : Int) := by omega
                have hi3 : (0 : Int) ≤ (m : Int) := by omega
                have hj1 : (u.len : Int) < ((u.len + 1 : Nat) : Int) := by omega
                have hj2 : (u.len : Int) < (u.len : Int) + 1 := by omega
                have hj3 : (0 : Int) ≤ (u.len : Int) := by omega
                have hgne : (Value.slice pu u.len cu).ownBlock ≠ some g := fun e1 => hfar g e1 rfl
                have hbne : (Value.slice pu u.len cu).ownBlock ≠ some wr.heap.size := fun e1 => by have := (hvb _ e1).2; omega
                have hgW2 : (W.alloc (.cells #[.string ⟨#[]⟩, .slice pv nv cv] 44)).drew.cell? ⟨g, m, none⟩ = some (.slice pu u.len cu) := (World.cell?_of_block (a := ⟨g, m, none⟩) ((World.grownBy_alloc W _ none).block g (by omega) (by simp))).trans hgW
                have hgfW2 : (W.alloc (.cells #[.string ⟨#[]⟩, .slice pv nv cv] 44)).drew.frozen? ⟨g, m, none⟩ = false := (World.frozen?_of_block (a := ⟨g, m, none⟩) ((World.grownBy_alloc W _ none).block g (by omega) (by simp))).trans hgfW
                have HN1 : Hid (∀ gg, (Value.slice pu u.len cu).ownBlock = some gg ∨ gg = wr.heap.size + 3 → gg ≠ g) := fun gg h e1 => by
                  rcases h with h | h
                  · exact hgne (by rw [h, e1])
                  · omega
                have HN2 : Hid (∀ gg, (Value.slice pu u.len cu).ownBlock = some gg ∨ gg = wr.heap.size + 3 → gg ≠ wr.heap.size) := fun gg h e1 => by
                  rcases h with h | h
                  · exact hbne (by rw [h, e1])
                  · omega
                have HNEW : (W.alloc (.cells #[.string ⟨#[]⟩, .slice pv nv cv] 44)).drew.heap[wr.heap.size + 2]? = some (.cells #[.string ⟨#[]⟩, .slice pv nv cv] 44 (0, 0)) := by rw [← hszW]; exact heap_alloc_new W _
                have by0 : (W.alloc (.cells #[.string ⟨#[]⟩, .slice pv nv cv] 44)).drew.cell? ⟨wr.heap.size, 0, none⟩ = some (.string ⟨#[]⟩) := (World.cell?_of_block (a := ⟨wr.heap.size, 0, none⟩) ((World.grownBy_alloc W _ none).block wr.heap.size (by omega) (by simp))).trans bx0
                have by1 : (W.alloc (.cells #[.string ⟨#[]⟩, .slice pv nv cv] 44)).drew.cell? ⟨wr.heap.size, 1, none⟩ = some (.slice pv nv cv) := (World.cell?_of_block (a := ⟨wr.heap.size, 1, none⟩) ((World.grownBy_alloc W _ none).block wr.heap.size (by omega) (by simp))).trans bx1
                have n3 : g ≠ wr.heap.size := by omega
                have n4 : wr.heap.size ≠ g := by omega
                go_region_law
                  ((refine step_append_lies _ (by rfl) _ _ _ (by rfl) w1.heap.size 44 i0 _ 2 40 Tryd.underlying27 hi0 hz0 hz1 hz2 rfl (by omega) (.slice pu u.len cu) u.len xs (by rfl) ((hrW.alloc _).drew)
                      ⟨wr.heap.size + 2, 0, none⟩ 1 1 [.string ⟨#[]⟩, .slice pv nv cv] (by rfl) (by rfl) (World.news_of_block (cs := #[.string ⟨#[]⟩, .slice pv nv cv]) (t := 44) (fr := (0, 0)) HNEW) (by simp [Value.oneCell'])
                      (by omega) (by unfold maxLen; omega) (by omega) (by simp; omega) (wr.heap.size + 3) (by simp [hszW]) ?_; intro gg cap w1' hown1 hgrow hat hltg
                    have HOWN := Lib.hid hown1
                    have f3 : w1'.frozen? ⟨g, m, none⟩ = false := (hgrow.frozen_far ⟨g, m, none⟩ (by simp; omega) (Ne.symm hgne)).trans (by simpa [go_sem] using hgfW2)
                    have d3 : w1'.cell? ⟨g, m, none⟩ = some (.slice pu u.len cu) := (hgrow.cell_far ⟨g, m, none⟩ (by simp; omega) (Ne.symm hgne)).trans hgW2
                    have n1 : gg ≠ g := HN1.out gg hat
                    have n2 : g ≠ gg := Ne.symm n1
                    have n5 : gg ≠ wr.heap.size := HN2.out gg hat
                    have n6 : wr.heap.size ≠ gg := Ne.symm n5
                    clear hown1))
                all_goals (go_wp2_with fail)
                all_goals refine ⟨?_, by simp [intOf]; omega⟩
                all_goals obtain rfl := HM.out
                all_goals obtain ⟨p1, p2, p3⟩ := HSU.out.put3 HC.out ((hA.alloc _).drewN 1) HOWN.out hgrow (by rcases hat with h | h; exact .inl h; exact .inr (by omega)) (show (⟨#[]⟩ : ByteArray).size ≤ 140737488355328 by decide) HSL.out
                all_goals
                  have h9 := RfRel.next (vs2 := vs0 ++ [_]) HB.out HSU.out p2 (by rw [List.length_append, List.length_singleton, List.reverse_cons]; exact p1) hlt HFIT.out HRUN.out (by rw [HS.out]; exact HSTEP.out)
                  rw [List.length_append, List.length_singleton, ← HVN.out] at h9
                  exact h9
              · obtain ⟨W, hW⟩ : ∃ W, ((wr.alloc (.cells #[.string ⟨#[]⟩, .slice pv nv cv] 44)).alloc (.cells #[.bool true] 4)).drew = W := ⟨_, rfl⟩
                have hBW : Below wr.heap.size wr W := by rw [← hW]; exact ((Below.refl _ wr).alloc (Nat.le_refl _) _).trans ((coin_below _ _).mono (by simp))
                have hszW : W.heap.size = wr.heap.size + 2 := by rw [← hW]; simp
                have hbx : W.heap[wr.heap.size]? = some (.cells #[.string ⟨#[]⟩, .slice pv nv cv] 44 (0, 0)) := by
                  rw [← hW]
                  exact ((coin_below (wr.alloc (.cells #[.string ⟨#[]⟩, .slice pv nv cv] 44)) _).block wr.heap.size (by simp)).trans (heap_alloc_new wr _)
                rw [hW]
                clear hW
                have bx0 : W.cell? ⟨wr.heap.size, 0, none⟩ = some (.string ⟨#[]⟩) := by simp [World.cell?, hbx]
                have bx1 : W.cell? ⟨wr.heap.size, 1, none⟩ = some (.slice pv nv cv) := by simp [World.cell?, hbx]
                clear hbx
                have hszB := HB.out.size
                have hgW : W.cell? ⟨g, m, none⟩ = some (.slice pu u.len cu) := (hBW.cell (p := ⟨g, m, none⟩) hglt).trans hgu
                have hgfW : W.frozen? ⟨g, m, none⟩ = false := (hBW.frozen (p := ⟨g, m, none⟩) hglt).trans hgf
                have hrW : W.ownsRow w1.heap.size 44 2 (.slice pu u.len cu) u.len xs := ownsRow_below hr hBW
                have hA : Mv [] wr W := Mv.of_below _ hBW
                clear hgu hgf hr hck
                have hi1 : (m : Int) < (vs.length : Int) := by omega
                have hi3 : (0 : Int) ≤ (m : Int) := by omega
                have hj1 : (u.len : Int) < ((u.len + 1 : Nat) : Int) := by omega
                have hj2 : (u.len : Int) < (u.len : Int) + 1 := by omega
                have hj3 : (0 : Int) ≤ (u.len : Int) := by omega
                have hgne : (Value.slice pu u.len cu).ownBlock ≠ some g := fun e1 => hfar g e1 rfl
                have hbne : (Value.slice pu u.len cu).ownBlock ≠ some wr.heap.size := fun e1 => by have := (hvb _ e1).2; omega
                have hgW2 : (W.alloc (.cells #[.string ⟨#[]⟩, .slice none 0 0] 44)).drew.cell? ⟨g, m, none⟩ = some (.slice pu u.len cu) := (World.cell?_of_block (a := ⟨g, m, none⟩) ((World.grownBy_alloc W _ none).block g (by omega) (by simp))).trans hgW
                have hgfW2 : (W.alloc (.cells #[.string ⟨#[]⟩, .slice none 0 0] 44)).drew.frozen? ⟨g, m, none⟩ = false := (World.frozen?_of_block (a := ⟨g, m, none⟩) ((World.grownBy_alloc W _ none).block g (by omega) (by simp))).trans hgfW
                have HN1 : Hid (∀ gg, (Value.slice pu u.len cu).ownBlock = some gg ∨ gg = wr.heap.size + 3 → gg ≠ g) := fun gg h e1 => by
                  rcases h with h | h
                  · exact hgne (by rw [h, e1])
                  · omega
                have HN2 : Hid (∀ gg, (Value.slice pu u.len cu).ownBlock = some gg ∨ gg = wr.heap.size + 3 → gg ≠ wr.heap.size) := fun gg h e1 => by
                  rcases h with h | h
                  · exact hbne (by rw [h, e1])
                  · omega
                have HNEW : (W.alloc (.cells #[.string ⟨#[]⟩, .slice none 0 0] 44)).drew.heap[wr.heap.size + 2]? = some (.cells #[.string ⟨#[]⟩, .slice none 0 0] 44 (0, 0)) := by rw [← hszW]; exact heap_alloc_new W _
                have by0 : (W.alloc (.cells #[.string ⟨#[]⟩, .slice none 0 0] 44)).drew.cell? ⟨wr.heap.size, 0, none⟩ = some (.string ⟨#[]⟩) := (World.cell?_of_block (a := ⟨wr.heap.size, 0, none⟩) ((World.grownBy_alloc W _ none).block wr.heap.size (by omega) (by simp))).trans bx0
                have by1 : (W.alloc (.cells #[.string ⟨#[]⟩, .slice none 0 0] 44)).drew.cell? ⟨wr.heap.size, 1, none⟩ = some (.slice pv nv cv) := (World.cell?_of_block (a := ⟨wr.heap.size, 1, none⟩) ((World.grownBy_alloc W _ none).block wr.heap.size (by omega) (by simp))).trans bx1
                have n3 : g ≠ wr.heap.size := by omega
                have n4 : wr.heap.size ≠ g := by omega
                go_region_law
                  ((refine step_append_lies _ (by rfl) _ _ _ (by rfl) w1.heap.size 44 i0 _ 2 40 Tryd.underlying27 hi0 hz0 hz1 hz2 rfl (by omega) (.slice pu u.len cu) u.len xs (by rfl) ((hrW.alloc _).drew)
                      ⟨wr.heap.size + 2, 0, none⟩ 1 1 [.string ⟨#[]⟩, .slice none 0 0] (by rfl) (by rfl) (World.news_of_block (cs := #[.string ⟨#[]⟩, .slice none 0 0]) (t := 44) (fr := (0, 0)) HNEW) (by simp [Value.oneCell'])
                      (by omega) (by unfold maxLen; omega) (by omega) (by simp; omega) (wr.heap.size + 3) (by simp [hszW]) ?_; intro gg cap w1' hown1 hgrow hat hltg
                    have HOWN := Lib.hid hown1
                    have d1 : w1'.cell? ⟨gg, u.len * 2, none⟩ = some (.string ⟨#[]⟩) := (hown1.cellAt (u.len * 2) (by omega)).trans (by rw [← hxs]; simp)
                    have d2 : w1'.cell? ⟨gg, u.len * 2 + 1, none⟩ = some (.slice none 0 0) := (hown1.cellAt (u.len * 2 + 1) (by omega)).trans (by rw [← hxs]; simp)
                    have f1 := hown1.frozenAt (u.len * 2)
                    have f2 := hown1.frozenAt (u.len * 2 + 1)
                    have f3 : w1'.frozen? ⟨g, m, none⟩ = false := (hgrow.frozen_far ⟨g, m, none⟩ (by simp; omega) (Ne.symm hgne)).trans (by simpa [go_sem] using hgfW2)
                    have d3 : w1'.cell? ⟨g, m, none⟩ = some (.slice pu u.len cu) := (hgrow.cell_far ⟨g, m, none⟩ (by simp; omega) (Ne.symm hgne)).trans hgW2
                    have n1 : gg ≠ g := HN1.out gg hat
                    have n2 : g ≠ gg := Ne.symm n1
                    have n5 : gg ≠ wr.heap.size := HN2.out gg hat
                    have n6 : wr.heap.size ≠ gg := Ne.symm n5
                    clear hown1))
                all_goals (go_wp2_with fail)
                all_goals refine ⟨?_, by simp [intOf]; omega⟩
                all_goals obtain rfl := HM.out
                all_goals obtain ⟨p1, p2, p3⟩ := HSU.out.put2 HC.out hxs ((hA.alloc _).drewN 1) HOWN.out hgrow (by rcases hat with h | h; exact .inl h; exact .inr (by omega)) (show (⟨#[]⟩ : ByteArray).size ≤ 140737488355328 by decide) HSL.out (.inr rfl)
                all_goals
                  have h9 := RfRel.next (vs2 := vs0 ++ [_]) HB.out HSU.out p2 (by rw [List.length_append, List.length_singleton, List.reverse_cons]; exact p1) hlt HFIT.out HRUN.out (by rw [HS.out]; exact HSTEP.out)
                  rw [List.length_append, List.length_singleton, ← HVN.out] at h9
                  exact h9
          · have q2 := bytes_ne h2
            have H2 := Lib.hid h2
            clear h2
            by_cases h400 : vs.length + 1 ≤ 400
            · have r1 : decide ((400 : Int) < (vs.length : Int) + 1) = false := decide_eq_false (by omega)
              have HSU := HST
              obtain ⟨i0, hi0, hz0, hz1, hz2⟩ := info_parts info44
              have hst := HSU.out
              obtain ⟨xs, hr, hc⟩ := hst.last
              have HC := Lib.hid hc
              have hxs := hc.len
              have hvb := hr.lt
              have hvs : ∃ pu cu, v = .slice pu t.len cu := by
                rcases hr.2 with ⟨rfl, h0⟩ | ⟨gv, cap, cur, rfl, _⟩
                · exact ⟨none, 0, by rw [h0]⟩
                · exact ⟨_, _, rfl⟩
              obtain ⟨pv, cv, rfl⟩ := hvs
              have htop := hst.top
              rw [List.length_append, List.length_singleton] at htop
              have hglt := (htop.lt g rfl).2
              have hgc := htop.cellAt vs.length (by omega)
              rw [List.getElem?_append_right (Nat.le_refl _), Nat.sub_self] at hgc
              have hgu : wr.cell? ⟨g, vs.length, none⟩ = some (.slice pv t.len cv) := hgc
              have hgf := htop.frozenAt vs.length
              have hfar := hst.far
              have hbase := (htop.lt g rfl).1
              have ht := HF3.out t (by simp)
              clear hc hgc htop hst
              have HSL : Hid (Sl (Fx wr ([] ++ blocks (.slice (some ⟨g, 0, none⟩) (vs.length + 1) c) (vs ++ [.slice pv t.len cv]))) w1.heap.size wr.heap.size (.slice none 0 0) .nil) := Sl.none_ _ _ _
              have HSTEP : Hid (step (t :: st) s = .ok (t.snoc s .nil :: st)) := by unfold Hid step; rw [if_neg H1.out, if_neg H2.out, if_pos (by rw [List.length_cons, ← HVL.out]; omega)]
              have hwr1 : IntKind.i64.wrap ((vs.length : Int) + 1 - 1) = (vs.length : Int) := by rw [Int.add_sub_cancel]; exact wrap_small (by omega)
              have hwr2 : IntKind.i64.wrap (vs.length : Int) = (vs.length : Int) := wrap_small (by omega)
              go_wp2_with fail
              go_region
              all_goals (go_wp2_with fail)
              · obtain ⟨W, hW⟩ : ∃ W, (wr.alloc (.cells #[.bool false] 4)).drew = W := ⟨_, rfl⟩
                have hBW : Below wr.heap.size wr W := by rw [← hW]; exact coin_below wr _
                have hszW : W.heap.size = wr.heap.size + 1 := by rw [← hW]; simp
                rw [hW]
                clear hW
                have hszB := HB.out.size
                have hgW : W.cell? ⟨g, vs.length, none⟩ = some (.slice pv t.len cv) := (hBW.cell (p := ⟨g, vs.length, none⟩) hglt).trans hgu
                have hgfW : W.frozen? ⟨g, vs.length, none⟩ = false := (hBW.frozen (p := ⟨g, vs.length, none⟩) hglt).trans hgf
                have hckW : W.cell? ⟨g4, k, none⟩ = some (.string s) := (hBW.cell (p := ⟨g4, k, none⟩) (Nat.lt_of_lt_of_le hg4lt hszB)).trans hck
                have hrW : W.ownsRow w1.heap.size 44 2 (.slice pv t.len cv) t.len xs := ownsRow_below hr hBW
                have hA : Mv [] wr W := Mv.of_below _ hBW
                clear hgu hgf hr hck
                have hi1 : (vs.length : Int) < ((vs.length + 1 : Nat) : Int) := by omega
                have hi2 : (vs.length : Int) < (vs.length : Int) + 1 := by omega
                have hi3 : (0 : Int) ≤ (vs.length : Int) := by omega
                have hj1 : (t.len : Int) < ((t.len + 1 : Nat) : Int) := by omega
                have hj2 : (t.len : Int) < (t.len : Int) + 1 := by omega
                have hj3 : (0 : Int) ≤ (t.len : Int) := by omega
                have hgne : (Value.slice pv t.len cv).ownBlock ≠ some g := fun e1 => hfar g e1 rfl
                have hg4ne : (Value.slice pv t.len cv).ownBlock ≠ some g4 := fun e1 => by have := (hvb _ e1).1; omega
                have hgW2 : (W.alloc (.cells #[.string s, .slice none 0 0] 44)).drew.cell? ⟨g, vs.length, none⟩ = some (.slice pv t.len cv) := (World.cell?_of_block (a := ⟨g, vs.length, none⟩) ((World.grownBy_alloc W _ none).block g (by omega) (by simp))).trans hgW
                have hgfW2 : (W.alloc (.cells #[.string s, .slice none 0 0] 44)).drew.frozen? ⟨g, vs.length, none⟩ = false := (World.frozen?_of_block (a := ⟨g, vs.length, none⟩) ((World.grownBy_alloc W _ none).block g (by omega) (by simp))).trans hgfW
                have HN1 : Hid (∀ gg, (Value.slice pv t.len cv).ownBlock = some gg ∨ gg = wr.heap.size + 2 → gg ≠ g) := fun gg h e1 => by
                  rcases h with h | h
                  · exact hgne (by rw [h, e1])
                  · omega
                have HNEW : (W.alloc (.cells #[.string s, .slice none 0 0] 44)).drew.heap[wr.heap.size + 1]? = some (.cells #[.string s, .slice none 0 0] 44 (0, 0)) := by rw [← hszW]; exact heap_alloc_new W _
                have hckW2 : (W.alloc (.cells #[.string s, .slice none 0 0] 44)).drew.cell? ⟨g4, k, none⟩ = some (.string s) := (World.cell?_of_block (a := ⟨g4, k, none⟩) ((World.grownBy_alloc W _ none).block g4 (by omega) (by simp))).trans hckW
                have n3 : g ≠ g4 := by omega
                have n4 : g4 ≠ g := by omega
                go_region_law
                  ((refine step_append_lies _ (by rfl) _ _ _ (by rfl) w1.heap.size 44 i0 _ 2 40 Tryd.underlying27 hi0 hz0 hz1 hz2 rfl (by omega) (.slice pv t.len cv) t.len xs (by rfl) ((hrW.alloc _).drew)
                      ⟨wr.heap.size + 1, 0, none⟩ 1 1 [.string s, .slice none 0 0] (by rfl) (by rfl) (World.news_of_block (cs := #[.string s, .slice none 0 0]) (t := 44) (fr := (0, 0)) HNEW) (by simp [Value.oneCell'])
                      (by omega) (by unfold maxLen; omega) (by omega) (by simp; omega) (wr.heap.size + 2) (by simp [hszW]) ?_; intro gg cap w1' hown1 hgrow hat hltg
                    have HOWN := Lib.hid hown1
                    have f3 : w1'.frozen? ⟨g, vs.length, none⟩ = false := (hgrow.frozen_far ⟨g, vs.length, none⟩ (by simp; omega) (Ne.symm hgne)).trans (by simpa [go_sem] using hgfW2)
                    have d3 : w1'.cell? ⟨g, vs.length, none⟩ = some (.slice pv t.len cv) := (hgrow.cell_far ⟨g, vs.length, none⟩ (by simp; omega) (Ne.symm hgne)).trans hgW2
                    have n1 : gg ≠ g := HN1.out gg hat
                    have n2 : g ≠ gg := Ne.symm n1
                    clear hown1))
                all_goals (go_wp2_with fail)
                all_goals refine ⟨?_, by simp [intOf]; omega⟩
                all_goals obtain ⟨p1, p2, p3⟩ := HSU.out.put3 HC.out ((hA.alloc _).drewN 1) HOWN.out hgrow (by rcases hat with h | h; exact .inl h; exact .inr (by omega)) HSW.out HSL.out
                all_goals
                  have h9 := RfRel.next (vs2 := vs ++ [_]) HB.out HSU.out p2 (by rw [List.length_append, List.length_singleton, List.reverse_cons]; exact p1) hlt HFIT.out HRUN.out (by rw [HS.out]; exact HSTEP.out)
                  rw [List.length_append, List.length_singleton] at h9
                  exact h9
              · obtain ⟨W, hW⟩ : ∃ W, (wr.alloc (.cells #[.bool true] 4)).drew = W := ⟨_, rfl⟩
                have hBW : Below wr.heap.size wr W := by rw [← hW]; exact coin_below wr _
                have hszW : W.heap.size = wr.heap.size + 1 := by rw [← hW]; simp
                rw [hW]
                clear hW
                have hszB := HB.out.size
                have hgW : W.cell? ⟨g, vs.length, none⟩ = some (.slice pv t.len cv) := (hBW.cell (p := ⟨g, vs.length, none⟩) hglt).trans hgu
                have hgfW : W.frozen? ⟨g, vs.length, none⟩ = false := (hBW.frozen (p := ⟨g, vs.length, none⟩) hglt).trans hgf
                have hckW : W.cell? ⟨g4, k, none⟩ = some (.string s) := (hBW.cell (p := ⟨g4, k, none⟩) (Nat.lt_of_lt_of_le hg4lt hszB)).trans hck
                have hrW : W.ownsRow w1.heap.size 44 2 (.slice pv t.len cv) t.len xs := ownsRow_below hr hBW
                have hA : Mv [] wr W := Mv.of_below _ hBW
                clear hgu hgf hr hck
                have hi1 : (vs.length : Int) < ((vs.length + 1 : Nat) : Int) := by omega
                have hi2 : (vs.length : Int) < (vs.length : Int) + 1 := by omega
                have hi3 : (0 : Int) ≤ (vs.length : Int) := by omega
                have hj1 : (t.len : Int) < ((t.len + 1 : Nat) : Int) := by omega
                have hj2 : (t.len : Int) < (t.len : Int) + 1 := by omega
                have hj3 : (0 : Int) ≤ (t.len : Int) := by omega
                have hgne : (Value.slice pv t.len cv).ownBlock ≠ some g := fun e1 => hfar g e1 rfl
                have hg4ne : (Value.slice pv t.len cv).ownBlock ≠ some g4 := fun e1 => by have := (hvb _ e1).1; omega
                have hgW2 : (W.alloc (.cells #[.string ⟨#[]⟩, .slice none 0 0] 44)).drew.cell? ⟨g, vs.length, none⟩ = some (.slice pv t.len cv) := (World.cell?_of_block (a := ⟨g, vs.length, none⟩) ((World.grownBy_alloc W _ none).block g (by omega) (by simp))).trans hgW
                have hgfW2 : (W.alloc (.cells #[.string ⟨#[]⟩, .slice none 0 0] 44)).drew.frozen? ⟨g, vs.length, none⟩ = false := (World.frozen?_of_block (a := ⟨g, vs.length, none⟩) ((World.grownBy_alloc W _ none).block g (by omega) (by simp))).trans hgfW
                have HN1 : Hid (∀ gg, (Value.slice pv t.len cv).ownBlock = some gg ∨ gg = wr.heap.size + 2 → gg ≠ g) := fun gg h e1 => by
                  rcases h with h | h
                  · exact hgne (by rw [h, e1])
                  · omega
                have HNEW : (W.alloc (.cells #[.string ⟨#[]⟩, .slice none 0 0] 44)).drew.heap[wr.heap.size + 1]? = some (.cells #[.string ⟨#[]⟩, .slice none 0 0] 44 (0, 0)) := by rw [← hszW]; exact heap_alloc_new W _
                have hckW2 : (W.alloc (.cells #[.string ⟨#[]⟩, .slice none 0 0] 44)).drew.cell? ⟨g4, k, none⟩ = some (.string s) := (World.cell?_of_block (a := ⟨g4, k, none⟩) ((World.grownBy_alloc W _ none).block g4 (by omega) (by simp))).trans hckW
                have n3 : g ≠ g4 := by omega
                have n4 : g4 ≠ g := by omega
                go_region_law
                  ((refine step_append_lies _ (by rfl) _ _ _ (by rfl) w1.heap.size 44 i0 _ 2 40 Tryd.underlying27 hi0 hz0 hz1 hz2 rfl (by omega) (.slice pv t.len cv) t.len xs (by rfl) ((hrW.alloc _).drew)
                      ⟨wr.heap.size + 1, 0, none⟩ 1 1 [.string ⟨#[]⟩, .slice none 0 0] (by rfl) (by rfl) (World.news_of_block (cs := #[.string ⟨#[]⟩, .slice none 0 0]) (t := 44) (fr := (0, 0)) HNEW) (by simp [Value.oneCell'])
                      (by omega) (by unfold maxLen; omega) (by omega) (by simp; omega) (wr.heap.size + 2) (by simp [hszW]) ?_; intro gg cap w1' hown1 hgrow hat hltg
                    have HOWN := Lib.hid hown1
                    have d1 : w1'.cell? ⟨gg, t.len * 2, none⟩ = some (.string ⟨#[]⟩) := (hown1.cellAt (t.len * 2) (by omega)).trans (by rw [← hxs]; simp)
                    have d2 : w1'.cell? ⟨gg, t.len * 2 + 1, none⟩ = some (.slice none 0 0) := (hown1.cellAt (t.len * 2 + 1) (by omega)).trans (by rw [← hxs]; simp)
                    have f1 := hown1.frozenAt (t.len * 2)
                    have f2 := hown1.frozenAt (t.len * 2 + 1)
                    have f3 : w1'.frozen? ⟨g, vs.length, none⟩ = false := (hgrow.frozen_far ⟨g, vs.length, none⟩ (by simp; omega) (Ne.symm hgne)).trans (by simpa [go_sem] using hgfW2)
                    have d3 : w1'.cell? ⟨g, vs.length, none⟩ = some (.slice pv t.len cv) := (hgrow.cell_far ⟨g, vs.length, none⟩ (by simp; omega) (Ne.symm hgne)).trans hgW2
                    have n1 : gg ≠ g := HN1.out gg hat
                    have n2 : g ≠ gg := Ne.symm n1
                    clear hown1))
                all_goals (go_wp2_with fail)
                all_goals refine ⟨?_, by simp [intOf]; omega⟩
                all_goals obtain ⟨p1, p2, p3⟩ := HSU.out.put2 HC.out hxs ((hA.alloc _).drewN 1) HOWN.out hgrow (by rcases hat with h | h; exact .inl h; exact .inr (by omega)) HSW.out HSL.out (.inr rfl)
                all_goals
                  have h9 := RfRel.next (vs2 := vs ++ [_]) HB.out HSU.out p2 (by rw [List.length_append, List.length_singleton, List.reverse_cons]; exact p1) hlt HFIT.out HRUN.out (by rw [HS.out]; exact HSTEP.out)
                  rw [List.length_append, List.length_singleton] at h9
                  exact h9
            · have r1 : decide ((400 : Int) < (vs.length : Int) + 1) = true := decide_eq_true (by omega)
              have HR := Lib.hid (run_stop (n := 3) HRUN.out hlt (by rw [HS.out]; unfold step; rw [if_neg H1.out, if_neg H2.out, if_neg (by rw [List.length_cons, ← HVL.out]; omega)]))
              go_wp2_with fail
              go_ret2
              exact told_err (readE_stop (by omega) (by rw [HL.out]; exact HR.out)) (HB1.out.trans (HB.out.mono HB1.out.size))
      · obtain rfl : k = L.length := by omega
        have HEND : Hid (run [.nil] L = .ok (t :: st)) := by unfold Hid; rw [HRUN.out, List.drop_length]; rfl
        by_cases h1 : vs.length = 0
        · have r1 : decide ((1 : Int) < (vs.length : Int) + 1) = false := decide_eq_false (by omega)
          have hst := HST.out
          have hvl := HVL.out
          obtain rfl : vs = [] := List.eq_nil_of_length_eq_zero h1
          obtain rfl : st = [] := List.eq_nil_of_length_eq_zero (by rw [← hvl]; rfl)
          have hg : wr.cell? ⟨g, 0, none⟩ = some v := hst.top.cellAt 0 (by simp)
          have HSL := Lib.hid (StkT.pop (vs := []) (ts := []) hst).2.1
          clear hst hvl h1
          go_wp2_with fail
          go_ret2
          refine told_ok (readE_one (by omega) (by rw [HL.out]; exact HEND.out)) (HB1.out.trans (HB.out.mono HB1.out.size)) ?_
          exact HSL.out.mono (fun b o u _ _ hu => Fx_U hu) HB1.out.size (Nat.le_refl _)
        · have r1 : decide ((1 : Int) < (vs.length : Int) + 1) = true := decide_eq_true (by omega)
          have HNE := Lib.hid (show (t :: st).length ≠ 1 by rw [List.length_cons, ← HVL.out]; omega)
          clear h1
          go_wp2_with fail
          go_ret2
          exact told_err (readE_many (by omega) (by rw [HL.out]; exact HEND.out) HNE.out) (HB1.out.trans (HB.out.mono HB1.out.size))
  · have r0 : decide ((262144 : Int) < (text.size : Int)) = true := decide_eq_true (by omega)
    go_enter Tryd.func10, Tryd.ntmps10
    go_wp2_with fail
    go_ret2
    exact told_err (readE_long (by omega)) (Below.refl _ _)
end Go.Proofs.YtgkmhdifjgpbeaaDoor
