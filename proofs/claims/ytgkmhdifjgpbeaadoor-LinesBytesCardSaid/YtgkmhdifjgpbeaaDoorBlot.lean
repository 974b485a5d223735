/-
  Trees turned to others, in place: nothing but their own memory turns. Conditions: none beyond what memory holds.
-/
import Derived.Test.YtgkmhdifjgpbeaaDoorOwn
import Derived.Test.YtgkmhdifjgpbeaaDoorProg
import Derived.IntWalk
namespace Go.Proofs.YtgkmhdifjgpbeaaDoor
open Go.RowKit

/-- Only blocks from lo on, below hi, and what is new, have turned. -/
structure Turns (lo hi : Nat) (w w' : World) : Prop where
  os : w'.os = w.os
  tape : w'.tape = w.tape
  output : w'.output = w.output
  size : w.heap.size ≤ w'.heap.size
  block : ∀ k, k < w.heap.size → (k < lo ∨ hi ≤ k) → w'.heap[k]? = w.heap[k]?
theorem Turns.refl (lo hi : Nat) (w : World) : Turns lo hi w w := ⟨rfl, rfl, rfl, Nat.le_refl _, fun _ _ _ => rfl⟩
theorem Turns.trans {lo hi : Nat} {a b c : World} (h : Turns lo hi a b) (k : Turns lo hi b c) : Turns lo hi a c :=
  ⟨k.os.trans h.os, k.tape.trans h.tape, k.output.trans h.output, Nat.le_trans h.size k.size, fun i hi' ho => (k.block i (Nat.lt_of_lt_of_le hi' h.size) ho).trans (h.block i hi' ho)⟩
theorem Turns.of_below {lo hi : Nat} {w w' : World} (h : Below w.heap.size w w') : Turns lo hi w w' := ⟨h.os, h.tape, h.output, h.size, fun k hk _ => h.block k hk⟩
theorem Turns.set {lo hi : Nat} (w : World) {p : Addr} (hl : lo ≤ p.block) (hh : p.block < hi) (u : Value) : Turns lo hi w (w.setCell p u) :=
  ⟨rfl, rfl, rfl, by simp [World.setCell], fun k _ ho => Below.heap_setCell _ _ _ _ (by omega)⟩

/-- The cells from block lo on, below hi, hold what they held in w0, or something else of their kind that leads nowhere. -/
def Appr (lo hi : Nat) (w0 w : World) : Prop :=
  ∀ b o u, lo ≤ b → b < hi → U w0 b o = some u → U w b o = some u ∨ ((∃ s, u = .string s) ∧ ∃ s, U w b o = some (.string s)) ∨ ((∃ p n c, u = .slice p n c) ∧ U w b o = some (.slice none 0 0))
theorem Appr.refl (lo hi : Nat) (w : World) : Appr lo hi w w := fun _ _ _ _ _ h => .inl h
theorem Appr.below {lo hi : Nat} {w0 w w' : World} (h : Appr lo hi w0 w) (hb : Below w.heap.size w w') : Appr lo hi w0 w' := by
  intro b o u hl hh hu
  rcases h b o u hl hh hu with h1 | ⟨h1, s, h2⟩ | ⟨h1, h2⟩
  · exact .inl (U_below hb b o u (U_lt h1) h1)
  · exact .inr (.inl ⟨h1, s, U_below hb b o _ (U_lt h2) h2⟩)
  · exact .inr (.inr ⟨h1, U_below hb b o _ (U_lt h2) h2⟩)
theorem U_set_same {w : World} {b o : Nat} {u v : Value} (h : U w b o = some u) : U (w.setCell ⟨b, o, none⟩ v) b o = some v :=
  U_mk (World.cell?_setCell_same' _ _ _ (by rw [U_cell h]; rfl)) (by rw [World.frozen?_setCell]; exact U_frozen h)
theorem U_set_other {w : World} {b o b' o' : Nat} {v : Value} (h : ¬ (b = b' ∧ o = o')) : U (w.setCell ⟨b, o, none⟩ v) b' o' = U w b' o' := by
  unfold U
  rw [World.frozen?_setCell, World.cell?_setCell_other w ⟨b, o, none⟩ ⟨b', o', none⟩ v (by intro e; injection e with e1 e2; exact h ⟨e1, e2⟩)]
theorem Appr.setWord {lo hi : Nat} {w0 w : World} (h : Appr lo hi w0 w) {b o : Nat} {s : ByteArray} (hs : U w0 b o = some (.string s)) (hl : lo ≤ b) (hh : b < hi) (s' : ByteArray) : Appr lo hi w0 (w.setCell ⟨b, o, none⟩ (.string s')) := by
  have hc : ∃ u, U w b o = some u := by rcases h b o _ hl hh hs with h1 | ⟨_, s1, h2⟩ | ⟨_, h2⟩ <;> exact ⟨_, ‹_›⟩
  obtain ⟨u0, hc⟩ := hc
  intro b' o' u hl' hh' hu
  by_cases e : b = b' ∧ o = o'
  · obtain ⟨rfl, rfl⟩ := e
    rw [hs] at hu; cases hu
    exact .inr (.inl ⟨⟨_, rfl⟩, _, U_set_same hc⟩)
  · rw [U_set_other e]; exact h b' o' u hl' hh' hu
theorem Appr.setRow {lo hi : Nat} {w0 w : World} (h : Appr lo hi w0 w) {b o : Nat} {p : Option Addr} {n c : Nat} (hs : U w0 b o = some (.slice p n c)) (hl : lo ≤ b) (hh : b < hi) : Appr lo hi w0 (w.setCell ⟨b, o, none⟩ (.slice none 0 0)) := by
  have hc : ∃ u, U w b o = some u := by rcases h b o _ hl hh hs with h1 | ⟨_, s1, h2⟩ | ⟨_, h2⟩ <;> exact ⟨_, ‹_›⟩
  obtain ⟨u0, hc⟩ := hc
  intro b' o' u hl' hh' hu
  by_cases e : b = b' ∧ o = o'
  · obtain ⟨rfl, rfl⟩ := e
    rw [hs] at hu; cases hu
    exact .inr (.inr ⟨⟨_, _, _, rfl⟩, U_set_same hc⟩)
  · rw [U_set_other e]; exact h b' o' u hl' hh' hu

theorem word_any (s : ByteArray) (w : World) : Calls Tryd.prog 21 #[.string s] w fun e w' => e = .returned (.agg #[.string s, .slice none 0 0]) ∧ Below w.heap.size w w' := by
  go_enter Tryd.func21, Tryd.ntmps21
  go_wp2_with fail
  refine bodyPost_ret (v := .agg #[.string s, .slice none 0 0]) (by simp [results, Tryd.results21, go_sem]) rfl ⟨rfl, (Below.refl _ _).alloc (Nat.le_refl _) _⟩

set_option maxRecDepth 100000 in
set_option maxHeartbeats 1000000 in
theorem blot_any (lo hi : Nat) (w0 : World) (m : Nat) : ∀ (t : Ts) (va : Value) (w : World), t.count < m → Sl (U w0) lo hi va t → Appr lo hi w0 w →
    Calls Tryd.prog 12 #[va] w fun e w' => e = .returned (.tuple #[]) ∧ Appr lo hi w0 w' ∧ Turns lo hi w w' := by
  induction m with
  | zero => intro t va w hm; omega
  | succ m ih =>
    intro t va w hm ha hA
    obtain ⟨pa, ca, rfl, ha1, ha2, _⟩ := ha.slice
    unfold maxLen at ha2
    go_enter Tryd.func12, Tryd.ntmps12
    go_wp2_with fail
    go_loopw [2] (fun i wr => ∃ (k : Nat), k ≤ t.len ∧ i = .int .i64 k ∧ Appr lo hi w0 wr ∧ Turns lo hi w wr) (fun i _ => t.len - (intOf i).toNat)
    case atStart => exact ⟨0, Nat.zero_le _, rfl, hA, Turns.refl _ _ _⟩
    case round =>
      obtain ⟨k, hk, rfl, hAr, hT⟩ := hrel
      by_cases hlt : k < t.len
      · obtain ⟨b, o, rfl, _, hl, hh, hc1, hw, v, hc2, hs⟩ := ha.at_ (k := k) hlt
        obtain ⟨pk, ck, rfl, _, _, _⟩ := hs.slice
        have hcnt := Ts.count_kd hlt
        have hv : ∃ (p : Option Addr) (n c : Nat) (t' : Ts), U wr b (o + k * 2 + 1) = some (.slice p n c) ∧ Sl (U w0) lo hi (.slice p n c) t' ∧ t'.count < m := by
          rcases hAr b _ _ hl hh hc2 with h1 | ⟨⟨s, h1⟩, _⟩ | ⟨_, h2⟩
          · exact ⟨_, _, _, _, h1, hs, by omega⟩
          · cases h1
          · exact ⟨_, _, _, .nil, h2, Sl.none_ _ _ _, by simp [Ts.count]; omega⟩
        obtain ⟨p, n, c, t', hu, hs', hct⟩ := hv
        have e2 := U_cell hu
        have HI := Lib.hid (ih t' _ wr hct hs' hAr)
        have HA := Lib.hid ha
        clear ih ha hs hs' hct hAr
        go_wp2_with fail
        refine HI.out.mono ?_
        rintro e w1 ⟨rfl, hA1, hT1⟩
        clear e2 hu HI
        go_wp2_with fail
        refine (word_any _ _).mono ?_
        rintro e w2 ⟨rfl, hb2⟩
        have hA2 := hA1.below hb2
        have hx1 : ∃ s, U w2 b (o + k * 2) = some (.string s) := by
          rcases hA2 b _ _ hl hh hc1 with h1 | ⟨_, s1, h2⟩ | ⟨⟨_, _, _, h1⟩, _⟩
          · exact ⟨_, h1⟩
          · exact ⟨_, h2⟩
          · cases h1
        have hx2 : ∃ p n c, U w2 b (o + k * 2 + 1) = some (.slice p n c) := by
          rcases hA2 b _ _ hl hh hc2 with h1 | ⟨⟨s, h1⟩, _⟩ | ⟨_, h2⟩
          · exact ⟨_, _, _, h1⟩
          · cases h1
          · exact ⟨_, _, _, h2⟩
        obtain ⟨s1, hx1⟩ := hx1
        obtain ⟨p1, n1, c1, hx2⟩ := hx2
        have f1 := U_cell hx1
        have f2 := U_cell hx2
        have g1 := U_frozen hx1
        have g2 := U_frozen hx2
        have hc1' := Lib.hid hc1
        have hc2' := Lib.hid hc2
        clear hc1 hc2 hx1 hx2
        go_wp2_with fail
        go_roundw
        case rel => exact ⟨k + 1, by omega, by go_num, (hA2.setWord hc1'.out hl hh _).setRow hc2'.out hl hh, (hT.trans hT1).trans (((Turns.of_below hb2).trans (Turns.set _ (p := ⟨b, _, none⟩) hl hh _)).trans (Turns.set _ (p := ⟨b, _, none⟩) hl hh _))⟩
        case measure => simp [intOf]; omega
      · go_wp2_with fail
        go_end0
        exact ⟨rfl, hAr, hT⟩
end Go.Proofs.YtgkmhdifjgpbeaaDoor
