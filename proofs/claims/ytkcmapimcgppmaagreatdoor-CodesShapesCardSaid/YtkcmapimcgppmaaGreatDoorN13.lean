/-
  A row folded from its last term on, by a loop over slices.Backward: what each round leaves. The document's tuple types. Conditions: no more than 2000000 nodes, levels, parts; numbers that a word holds. The program's fold of a row. Conditions: no more than 1000000 nodes, levels, parts; numbers that a word holds; the table of kinds lies where it was laid. Conditions: as each lemma states them.
-/
import Derived.Test.YtkcmapimcgppmaaGreatDoorN12
import Derived.RangeFuncNested
import Derived.Test.YtkcmapimcgppmaaGreatDoorN11
set_option linter.all false
set_option linter.unusedVariables false
set_option linter.unusedSimpArgs false
set_option linter.unnecessarySimpa false
section
namespace Go.Proofs.YtkcmapimcgppmaaGreatDoor
open Go.RowKit Go.Shelf

/-- What the cells hold but of one block. -/
def Fx (g : Nat) (w : World) (b o : Nat) : Option Value := if b = g then none else U w b o
theorem Fx_U {g : Nat} {w : World} {b o : Nat} {v : Value} (h : Fx g w b o = some v) : U w b o = some v := by
  unfold Fx at h; split at h
  · cases h
  · exact h
theorem Fx_ne {g : Nat} {w : World} {b o : Nat} {v : Value} (h : Fx g w b o = some v) : b ≠ g := by
  unfold Fx at h; split at h
  · cases h
  · assumption
theorem Fx_mk {g : Nat} {w : World} {b o : Nat} {v : Value} (h : U w b o = some v) (hb : b ≠ g) : Fx g w b o = some v := by
  unfold Fx; rw [if_neg hb]; exact h
theorem Fx_on {g : Nat} {w w' : World} (h : ∀ b, b < w.heap.size → b ≠ g → (∃ o v, U w b o = some v) → w'.heap[b]? = w.heap[b]?) (b o : Nat) (v : Value) (hv : Fx g w b o = some v) : Fx g w' b o = some v :=
  Fx_mk ((U_block (h b (U_lt (Fx_U hv)) (Fx_ne hv) ⟨o, v, Fx_U hv⟩) o).trans (Fx_U hv)) (Fx_ne hv)

/-- All that lay lies, but in one block. -/
structure BelowX (g : Nat) (w w' : World) : Prop where
  os : w'.os = w.os
  tape : w'.tape = w.tape
  output : w'.output = w.output
  size : w.heap.size ≤ w'.heap.size
  block : ∀ b, b < w.heap.size → b ≠ g → w'.heap[b]? = w.heap[b]?
theorem BelowX.below {g : Nat} {w w' : World} {B : Nat} (h : BelowX g w w') (hB : B ≤ g) (hw : B ≤ w.heap.size) : Below B w w' := ⟨h.os, h.tape, h.output, h.size, fun b hb => h.block b (by omega) (by omega)⟩
theorem BelowX.refl (g : Nat) (w : World) : BelowX g w w := ⟨rfl, rfl, rfl, Nat.le_refl _, fun _ _ _ => rfl⟩
theorem BelowX.of_below {g : Nat} {w w' : World} (h : Below w.heap.size w w') : BelowX g w w' := ⟨h.os, h.tape, h.output, h.size, fun b hb _ => h.block b hb⟩
theorem BelowX.trans {g : Nat} {a b c : World} (h : BelowX g a b) (k : BelowX g b c) : BelowX g a c := ⟨k.os.trans h.os, k.tape.trans h.tape, k.output.trans h.output, Nat.le_trans h.size k.size, fun i hi hn => (k.block i (Nat.lt_of_lt_of_le hi h.size) hn).trans (h.block i hi hn)⟩
theorem BelowX.U {g : Nat} {w w' : World} (h : BelowX g w w') {b o : Nat} {v : Value} (hv : U w b o = some v) (hb : b ≠ g) : U w' b o = some v := (U_block (h.block b (U_lt hv) hb) o).trans hv
theorem BelowX.grown {g : Nat} {w a b : World} {row : Option Nat} (h : BelowX g w a) (hg : a.grownBy b row) (hr : ∀ r, row = some r → w.heap.size ≤ r) : BelowX g w b :=
  ⟨hg.os.trans h.os, hg.tape.trans h.tape, hg.output.trans h.output, Nat.le_trans h.size hg.size, fun i hi hn => (hg.block i (Nat.lt_of_lt_of_le hi h.size) (fun e => by have := hr i e.symm; omega)).trans (h.block i hi hn)⟩

/-- One term, whose two slices lie in known cells. -/
def RMx (F : Nat → Nat → Option Value) (hi : Nat) (v : Value) (h : Hd) (x : Ts) : Prop :=
  ∃ q n c r m d, v = .agg #[.int .i64 h.k, .int .i64 h.n, .int .i64 h.a, .slice q n c, .slice r m d] ∧ Rd F hi (.slice q n c) 1 (lvDs ty h.l) .nil ∧ Rd F hi (.slice r m d) 5 (tDs ty x) .nil
theorem RMx.of {w : World} {v : Value} {h : Hd} {x : Ts} (hm : RM ty w v h x) : RMx (U w) w.heap.size v h x := hm
theorem RMx.mono {F F' : Nat → Nat → Option Value} {hi hi' : Nat} {v : Value} {h : Hd} {x : Ts} (hm : RMx F hi v h x) (hF : ∀ b o v, b < hi → F b o = some v → F' b o = some v) (hh : hi ≤ hi') : RMx F' hi' v h x := by
  obtain ⟨q, n, c, r, m, d, e, h1, h2⟩ := hm
  exact ⟨q, n, c, r, m, d, e, h1.mono hF hh, h2.mono hF hh⟩
/-- The five cells of a term. -/
theorem RMx.cells {F : Nat → Nat → Option Value} {hi : Nat} {v : Value} {h : Hd} {x : Ts} (hm : RMx F hi v h x) : ∃ v3 v4, v = .agg #[.int .i64 h.k, .int .i64 h.n, .int .i64 h.a, v3, v4] ∧ Vs F hi (tDs ty (.cons h x .nil)) [.int .i64 h.k, .int .i64 h.n, .int .i64 h.a, v3, v4] := by
  obtain ⟨q, n, c, r, m, d, e, h1, h2⟩ := hm
  exact ⟨_, _, e, _, rfl, _, rfl, _, rfl, _, _, rfl, h1, _, _, rfl, h2, rfl⟩

/-- The terms, folded in the order in which they come. -/
def acc (kk : Int) (t : Ts) (t0 : Tm) (pre : List Nat) : Tm := pre.foldl (fun tm k => ⟨kH kk, .cons (t.hd k) (t.kd k) tm.ts⟩) t0
theorem acc_snoc (kk : Int) (t : Ts) (t0 : Tm) (pre : List Nat) (k : Nat) : acc kk t t0 (pre ++ [k]) = ⟨kH kk, .cons (t.hd k) (t.kd k) (acc kk t t0 pre).ts⟩ := by simp [acc]
def FoldI (t : Ts) (kk : Int) (g : Nat) (t0 : Tm) (wS : World) (pre : List Nat) (W : World) : Prop :=
  BelowX g wS W ∧ g < wS.heap.size ∧ ∃ v, RMx (Fx g W) W.heap.size v (acc kk t t0 pre).h (acc kk t t0 pre).x ∧ ∀ cs, v = .agg cs → ∀ o u, cs[o]? = some u → U W g o = some u
theorem FoldI.on {t : Ts} {kk : Int} {g : Nat} {t0 : Tm} {wS W W' : World} {pre : List Nat} {row : Option Nat} (h : FoldI t kk g t0 wS pre W) (hg : W.grownBy W' row) (hr : ∀ r, row = some r → wS.heap.size ≤ r ∧ ∃ o : Obj, W.heap[r]? = some o ∧ o.isCells = false) : FoldI t kk g t0 wS pre W' := by
  obtain ⟨h1, h2, v, h3, h4⟩ := h
  have hne : ∀ b o u, U W b o = some u → some b ≠ row := fun b o u hu e => by
    obtain ⟨-, ob, ho, hc⟩ := hr b e.symm
    obtain ⟨ob', ho', hc'⟩ := cells_of_cell (U_cell hu)
    rw [ho] at ho'
    cases ho'
    rw [hc] at hc'
    cases hc'
  refine ⟨h1.grown hg (fun r e => (hr r e).1), h2, v, h3.mono (fun b o u _ hu => Fx_on (fun b hb hbg ⟨o, v, hv⟩ => hg.block b hb (hne b o v hv)) b o u hu) hg.size, fun cs e o u hu => ?_⟩
  have := h4 cs e o u hu
  exact (U_block (hg.block g (U_lt this) (hne g o u this)) o).trans this
theorem FoldI.own {t : Ts} {kk : Int} {g : Nat} {t0 : Tm} {wS : World} {n : Nat} : OwnFrom wS.heap.size (fun (pre : List (Fin n)) W => FoldI t kk g t0 wS (pre.map (·.val)) W) := fun _ _ _ _ h hg hr => h.on hg hr
theorem FoldI.below {t : Ts} {kk : Int} {g : Nat} {t0 : Tm} {wS W W' : World} {pre : List Nat} (h : FoldI t kk g t0 wS pre W) (hb : Below W.heap.size W W') : FoldI t kk g t0 wS pre W' := h.on (row := none) ⟨hb.os, hb.tape, hb.output, hb.size, fun k hk _ => hb.block k hk⟩ (fun r e => by cases e)
/-- The round: a block of two terms is laid, the variable is that node. -/
theorem FoldI.step {t : Ts} {kk : Int} {g k : Nat} {t0 : Tm} {wS W W' : World} {pre : List Nat} (h : FoldI t kk g t0 wS pre W) {e0 e1 e2 e3 e4 a0 a1 a2 a3 a4 : Value} (hE : RMx (Fx g W) W.heap.size (.agg #[e0, e1, e2, e3, e4]) (t.hd k) (t.kd k))
    (hA : ∀ o u, (#[a0, a1, a2, a3, a4] : Array Value)[o]? = some u → U W g o = some u)
    (hW : (((((W.alloc (.cells #[e0, e1, e2, e3, e4, a0, a1, a2, a3, a4] 26)).setCell ⟨g, 0, none⟩ (.int .i64 kk)).setCell ⟨g, 1, none⟩ (.int .i64 0)).setCell ⟨g, 2, none⟩ (.int .i64 0)).setCell ⟨g, 3, none⟩ (.slice none 0 0)).setCell ⟨g, 4, none⟩ (.slice (some ⟨W.heap.size, 0, none⟩) 2 2) = W') :
    FoldI t kk g t0 wS (pre ++ [k]) W' ∧ KeepsFrom wS.heap.size W W' := by
  obtain ⟨h1, h2, v, h3, h4⟩ := h
  obtain ⟨Wb, hWb⟩ : ∃ Wb, W.alloc (.cells #[e0, e1, e2, e3, e4, a0, a1, a2, a3, a4] 26) = Wb := ⟨_, rfl⟩
  rw [hWb] at hW
  have hb : Below W.heap.size W Wb := by rw [← hWb]; exact below_alloc _ _
  have hsb : Wb.heap.size = W.heap.size + 1 := by rw [← hWb]; simp
  have hgW : g < W.heap.size := Nat.lt_of_lt_of_le h2 h1.size
  have ub : ∀ o u, (#[a0, a1, a2, a3, a4] : Array Value)[o]? = some u → U Wb g o = some u := fun o u hu => U_below hb _ _ _ hgW (hA o u hu)
  obtain ⟨x0, x1, x2, x3, x4, hk⟩ := five_set (ub 0 _ rfl) (ub 1 _ rfl) (ub 2 _ rfl) (ub 3 _ rfl) (ub 4 _ rfl) hW
  have hs' : W'.heap.size = W.heap.size + 1 := by rw [← hW]; simpa using hsb
  have hbg : Below g W W' := by
    rw [← hW]
    exact (((((hb.mono (Nat.le_of_lt hgW)).setCell (p := ⟨g, 0, none⟩) (Nat.le_refl _) _).setCell (p := ⟨g, 1, none⟩) (Nat.le_refl _) _).setCell (p := ⟨g, 2, none⟩) (Nat.le_refl _) _).setCell (p := ⟨g, 3, none⟩) (Nat.le_refl _) _).setCell (p := ⟨g, 4, none⟩) (Nat.le_refl _) _
  have hn : ∀ j u, (#[e0, e1, e2, e3, e4, a0, a1, a2, a3, a4] : Array Value)[j]? = some u → Fx g W' W.heap.size j = some u := fun j u hu => by
    have h5 : U Wb W.heap.size j = some u := by rw [← hWb]; exact laid_cell hu
    exact Fx_mk ((U_block (hk _ (by omega)) j).trans h5) (by omega)
  have hF : ∀ b o u, b < W.heap.size → Fx g W b o = some u → Fx g W' b o = some u := fun b o u _ hu => Fx_on (fun b hb' hbg _ => (hk b hbg).trans (hb.block b hb')) b o u hu
  obtain ⟨e3', e4', e1', hEV⟩ := (hE.mono hF (by omega : W.heap.size ≤ W'.heap.size)).cells
  obtain ⟨a3', a4', a1', hAV⟩ := (h3.mono hF (by omega : W.heap.size ≤ W'.heap.size)).cells
  have hva := h4 _ a1'
  have qa : ∀ o u u', (#[a0, a1, a2, a3, a4] : Array Value)[o]? = some u → (#[.int .i64 (acc kk t t0 pre).h.k, .int .i64 (acc kk t t0 pre).h.n, .int .i64 (acc kk t t0 pre).h.a, a3', a4'] : Array Value)[o]? = some u' → u = u' := fun o u u' hu hu' => by
    have z1 := hA o u hu
    rw [hva o u' hu'] at z1
    exact (Option.some.inj z1).symm
  have b0 : a0 = .int .i64 (acc kk t t0 pre).h.k := qa 0 _ _ rfl rfl
  have b1 : a1 = .int .i64 (acc kk t t0 pre).h.n := qa 1 _ _ rfl rfl
  have b2 : a2 = .int .i64 (acc kk t t0 pre).h.a := qa 2 _ _ rfl rfl
  have b3 : a3 = a3' := qa 3 _ _ rfl rfl
  have b4 : a4 = a4' := qa 4 _ _ rfl rfl
  injection e1' with e1'
  have d0 := congrArg (fun a : Array Value => a[0]?) e1'
  have d1 := congrArg (fun a : Array Value => a[1]?) e1'
  have d2 := congrArg (fun a : Array Value => a[2]?) e1'
  have d3 := congrArg (fun a : Array Value => a[3]?) e1'
  have d4 := congrArg (fun a : Array Value => a[4]?) e1'
  simp at d0 d1 d2 d3 d4
  subst d0 d1 d2 d3 d4 b0 b1 b2 b3 b4
  have hAt : At (Fx g W') W'.heap.size (tDs ty (.cons (t.hd k) (t.kd k) (acc kk t t0 pre).ts)) W.heap.size 0 := by
    refine (At.app (x := tDs ty (.cons (t.hd k) (t.kd k) .nil)) (y := tDs ty (acc kk t t0 pre).ts)).2 ⟨hEV.at_ (fun j u hu => ?_), hAV.at_ (fun j u hu => ?_)⟩
    · rw [Nat.zero_add]
      refine hn j u ?_
      have hj : j < 5 := by have := (List.getElem?_eq_some_iff.1 hu).1; simpa using this
      have hall : j = 0 ∨ j = 1 ∨ j = 2 ∨ j = 3 ∨ j = 4 := by omega
      rcases hall with rfl | rfl | rfl | rfl | rfl <;> exact hu
    · rw [show (0 : Nat) + (tDs ty (.cons (t.hd k) (t.kd k) .nil)).len + j = 5 + j by rw [tDs_len]; simp [Ts.len]]
      refine hn (5 + j) u ?_
      have hj : j < 5 := by have := (List.getElem?_eq_some_iff.1 hu).1; simpa using this
      have hall : j = 0 ∨ j = 1 ∨ j = 2 ∨ j = 3 ∨ j = 4 := by omega
      rcases hall with rfl | rfl | rfl | rfl | rfl <;> exact hu
  refine ⟨⟨h1.trans ⟨?_, ?_, ?_, by omega, fun b hb' hbg => (hk b hbg).trans (hb.block b hb')⟩, h2, .agg #[.int .i64 kk, .int .i64 0, .int .i64 0, .slice none 0 0, .slice (some ⟨W.heap.size, 0, none⟩) 2 2], ?_, fun cs e o u hu => ?_⟩, ⟨by omega, fun b o hB ho _ => ?_⟩⟩
  · exact hbg.os
  · exact hbg.tape
  · exact hbg.output
  · rw [acc_snoc]
    exact ⟨none, 0, 0, some ⟨W.heap.size, 0, none⟩, 2, 2, rfl, Rd.none_ _ _ _, _, _, _, rfl, by rw [tDs_len]; rfl, Nat.le_refl _, by decide, by rw [tDs_len]; simp [Ts.len, Ds.len, Tm.ts], .inr (.inr ⟨_, _, rfl, by omega, hAt, trivial⟩)⟩
  · injection e with e
    subst e
    have ho : o < 5 := by have := (Array.getElem?_eq_some_iff.1 hu).1; simpa using this
    have hall : o = 0 ∨ o = 1 ∨ o = 2 ∨ o = 3 ∨ o = 4 := by omega
    rcases hall with rfl | rfl | rfl | rfl | rfl
    · cases hu; exact x0
    · cases hu; exact x1
    · cases hu; exact x2
    · cases hu; exact x3
    · cases hu; exact x4
  · exact ((hk b (by omega)).trans (hb.block b (Array.getElem?_eq_some_iff.1 ho).1)).trans ho

theorem cell_block {w w' : World} {b : Nat} (h : w'.heap[b]? = w.heap[b]?) (o : Nat) : w'.cell? ⟨b, o, none⟩ = w.cell? ⟨b, o, none⟩ := by
  unfold World.cell?; simp only [h]
/-- What the loop reads stays, as it lies in other blocks. -/
theorem BkD.on {B n c g : Nat} {p : Option Addr} {vs : Nat → Nat → Value} {w W : World} (h : BkD B p n c vs w) (hb : BelowX g w W) (hB : B ≠ g) (hp : ∀ b o, p = some ⟨b, o, none⟩ → b ≠ g) : BkD B p n c vs W := by
  refine ⟨(cell_block (hb.block B (World.block_lt_of_cell? _ _ h.1) hB) 0).trans h.1, fun k hk => ?_⟩
  obtain ⟨b, o, e, hc⟩ := h.2 k hk
  exact ⟨b, o, e, fun i hi => (cell_block (hb.block b (World.block_lt_of_cell? _ _ (hc i hi)) (hp b o e)) _).trans (hc i hi)⟩
/-- The terms of a row, as cells, as values. -/
theorem RT.elems {w : World} {b o n c : Nat} {t : Ts} (h : RT ty w (.slice (some ⟨b, o, none⟩) n c) t) : ∃ vs : Nat → Nat → Value, (∀ k, k < t.len → ∀ i, i < 5 → w.cell? ⟨b, o + k * 5 + i, none⟩ = some (vs k i)) ∧ ∀ k, k < t.len → RM ty w (el vs k) (t.hd k) (t.kd k) := by
  refine ⟨fun k i => (w.cell? ⟨b, o + k * 5 + i, none⟩).getD undef, fun k hk i hi => ?_, fun k hk => ?_⟩
  · obtain ⟨b', o', e, hb, h1, h2, h3, ⟨r, d, h4, -⟩, ⟨r', d', h5, -⟩⟩ := h.at_ hk
    cases e
    have hall : i = 0 ∨ i = 1 ∨ i = 2 ∨ i = 3 ∨ i = 4 := by omega
    show w.cell? _ = some ((w.cell? ⟨b, o + k * 5 + i, none⟩).getD undef)
    rcases hall with rfl | rfl | rfl | rfl | rfl
    · rw [Nat.add_zero, U_cell h1]; rfl
    · rw [U_cell h2]; rfl
    · rw [U_cell h3]; rfl
    · rw [U_cell h4]; rfl
    · rw [U_cell h5]; rfl
  · obtain ⟨b', o', e, hb, h1, h2, h3, ⟨r, d, h4, -, -, hl⟩, ⟨r', d', h5, -, -, hx⟩⟩ := h.at_ hk
    cases e
    refine ⟨r, _, d, r', _, d', ?_, hl, hx⟩
    unfold el
    simp only [Nat.add_zero, U_cell h1, U_cell h2, U_cell h3, U_cell h4, U_cell h5, Option.getD_some]
/-- All folded is the row folded. -/
theorem acc_fold (kk : Int) (z : Hd) (t : Ts) (m : Nat) (hm : t.len = m + 1) : ∀ j, j ≤ m → acc kk t ⟨t.hd m, t.kd m⟩ (dn m j) = fold kk z (t.drop (m - j)) := by
  intro j
  induction j with
  | zero =>
    intro _
    rw [Nat.sub_zero, Ts.drop_step (by omega : m < t.len), ← hm, Ts.drop_len]
    rfl
  | succ j ih =>
    intro hj
    rw [dn_succ, acc_snoc, ih (by omega), Ts.drop_step (by omega : m - (j + 1) < t.len), show m - (j + 1) + 1 = m - j by omega, show m - 1 - j = m - (j + 1) by omega, fold_step]
    rw [Ts.drop_step (by omega : m - j < t.len)]
    simp [Ts.len]
end Go.Proofs.YtkcmapimcgppmaaGreatDoor
end
section
namespace Go.Proofs.YtkcmapimcgppmaaGreatDoor
open Go.RowKit

theorem RT.tail {w : World} {q : Option Addr} {n c : Nat} {h : Hd} {x r : Ts} (ha : RT ty w (.slice q n c) (.cons h x r)) : ∃ b o, q = some ⟨b, o, none⟩ ∧ b < w.heap.size ∧ RT ty w (.slice (some ⟨b, o + 5, none⟩) (n - 1) (c - 1)) r := by
  obtain ⟨q', c', e1, g1, g2, -⟩ := ha.slice
  cases e1
  obtain ⟨b, o, rfl, hl, hA, -⟩ := Rd.lies ha (by simp [Ts.len])
  refine ⟨b, o, rfl, hl, _, _, _, rfl, by rw [tDs_len]; simp [Ts.len], by simp [Ts.len] at g1 ⊢; omega, by omega, by simp only [Ds.len, tDs_len]; simp [Ts.len] at g1; omega, .inr (.inr ⟨b, o + 5, rfl, hl, ?_, trivial⟩)⟩
  have : At (U w) w.heap.size ((tDs ty (.cons h x .nil)).app (tDs ty r)) b o := hA
  exact (At.app.1 this).2
theorem own_plain (w : World) (B : Nat) (k n a : Int) : Own w B (tDs ty (.cons ⟨k, n, a, []⟩ .nil .nil)) [.int .i64 k, .int .i64 n, .int .i64 a, .slice none 0 0, .slice none 0 0] [] :=
  ⟨_, rfl, _, rfl, _, rfl, _, _, [], [], [], [], [], [], rfl, .inl ⟨none, rfl, rfl, rfl, rfl⟩, ⟨rfl, rfl⟩, ⟨rfl, rfl⟩, ⟨_, _, [], [], [], [], [], [], rfl, .inl ⟨none, rfl, rfl, rfl, rfl⟩, ⟨rfl, rfl⟩, ⟨rfl, rfl⟩, ⟨rfl, rfl⟩, rfl⟩, rfl⟩
/-- A node of a kind alone, with a row of kids that is owned. -/
theorem own_node {w : World} {B : Nat} {k n a : Int} {x : Ts} {v : Value} {S : List Nat} (h : Own w B (.row 5 26 (tDs ty x) .nil .nil) [v] S) : Own w B (tDs ty (.cons ⟨k, n, a, []⟩ x .nil)) [.int .i64 k, .int .i64 n, .int .i64 a, .slice none 0 0, v] S :=
  ⟨_, rfl, _, rfl, _, rfl, _, _, [], [], [], [], [], S, rfl, .inl ⟨none, rfl, rfl, rfl, rfl⟩, ⟨rfl, rfl⟩, ⟨rfl, rfl⟩, h, rfl⟩

set_option maxRecDepth 100000 in
set_option maxHeartbeats 4000000 in
theorem refTup_any : ∀ (t : Ts) (va : Value) (w : World), RT ty w va t → t.fits → t.size ≤ 2000000 → Calls Tryz.prog 17 #[va] w (MakesT (tup t).h (tup t).x w) := by
  intro t
  induction t with
  | nil =>
    intro va w ha _ _
    obtain ⟨q, c, rfl, -, hc, -⟩ := ha.slice
    unfold maxLen at hc
    clear ha
    go_enter Tryz.func17, Tryz.ntmps17
    go_wp2_with fail
    refine (refFin_any 1 _).mono ?_
    rintro e w1 ⟨rfl, hb1⟩
    have HB := Lib.hid (below_step (below_alloc w (.cells zeros 26)) hb1)
    have Z : Hid (∀ o v, zeros[o]? = some v → U w1 w.heap.size o = some v) := fun o v hv => U_below hb1 _ _ _ (by simp) (laid_cell hv)
    clear hb1
    have m0 := U_cell (Z.out 0 _ rfl)
    have m1 := U_cell (Z.out 1 _ rfl)
    have m2 := U_cell (Z.out 2 _ rfl)
    have m3 := U_cell (Z.out 3 _ rfl)
    have m4 := U_cell (Z.out 4 _ rfl)
    have o0 := U_frozen (Z.out 0 _ rfl)
    have o1 := U_frozen (Z.out 1 _ rfl)
    have o2 := U_frozen (Z.out 2 _ rfl)
    have o3 := U_frozen (Z.out 3 _ rfl)
    have o4 := U_frozen (Z.out 4 _ rfl)
    go_wp2_with fail
    obtain ⟨W, hW⟩ : ∃ W, ((((w1.setCell ⟨w.heap.size, 0, none⟩ (.int .i64 22)).setCell ⟨w.heap.size, 1, none⟩ (.int .i64 1)).setCell ⟨w.heap.size, 2, none⟩ (.int .i64 0)).setCell ⟨w.heap.size, 3, none⟩ (.slice none 0 0)).setCell ⟨w.heap.size, 4, none⟩ (.slice none 0 0) = W := ⟨_, rfl⟩
    obtain ⟨⟨x0, x1, x2, x3, x4⟩, hBF, hkW⟩ := res5 Z.out HB.out (by omega) hW
    rw [hW]
    refine bodyPost_ret (v := .agg #[.int .i64 22, .int .i64 1, .int .i64 0, .slice none 0 0, .slice none 0 0]) (by simp [results, Tryz.results17, go_sem, x0, x1, x2, x3, x4]) rfl ⟨_, _, _, _, _, _, [], rfl, hBF, ?_, by simp⟩
    exact own_plain _ _ _ _ _
  | cons h x r _ ih =>
    intro va w ha hf hs
    have hlen : ∀ m : Nat, ((m : Int) + 1 == 0) = false := fun m => by simp; omega
    obtain ⟨b, o, e1, hb, hRT⟩ : ∃ b o, (∃ n c, va = .slice (some ⟨b, o, none⟩) n c ∧ n = r.len + 1 ∧ n ≤ c ∧ c ≤ maxLen) ∧ b < w.heap.size ∧ ∀ c, va = .slice (some ⟨b, o, none⟩) (r.len + 1) c → RT ty w (.slice (some ⟨b, o + 5, none⟩) r.len (c - 1)) r := by
      obtain ⟨q, c, rfl, h1, h2, -⟩ := ha.slice
      obtain ⟨b, o, rfl, hb, hr⟩ := ha.tail
      exact ⟨b, o, ⟨_, _, rfl, rfl, h1, h2⟩, hb, fun c' e => by cases e; exact hr⟩
    obtain ⟨n, c, rfl, rfl, hc1, hc2⟩ := e1
    have hRT' := hRT c rfl
    obtain ⟨b', o', e2, -, hu1, hu2, hu3, ⟨r2, d2, hu4, -, -, hRL⟩, ⟨r3, d3, hu5, -, -, hRX⟩⟩ := ha.at_ (k := 0) (by simp [Ts.len])
    cases e2
    have hRM : Hid (∀ W, Below w.heap.size w W → RM ty W (.agg #[.int .i64 h.k, .int .i64 h.n, .int .i64 h.a, .slice r2 h.l.length d2, .slice r3 x.len d3]) h x) := fun W hW => ⟨r2, _, d2, r3, _, d3, rfl, hRL.on hW, hRX.on hW⟩
    unfold maxLen at hc2
    obtain ⟨z1, hz1⟩ : ∃ z, h.l.length = z := ⟨_, rfl⟩
    obtain ⟨z2, hz2⟩ : ∃ z, x.len = z := ⟨_, rfl⟩
    have v1 : U w b o = some (.int .i64 h.k) := by simpa [Ts.hd] using hu1
    have v2 : U w b (o + 1) = some (.int .i64 h.n) := by simpa [Ts.hd] using hu2
    have v3 : U w b (o + 2) = some (.int .i64 h.a) := by simpa [Ts.hd] using hu3
    have v4 : U w b (o + 3) = some (.slice r2 z1 d2) := by rw [← hz1]; simpa [Ts.hd] using hu4
    have v5 : U w b (o + 4) = some (.slice r3 z2 d3) := by rw [← hz2]; simpa [Ts.kd] using hu5
    rw [hz1, hz2] at hRM
    have H63 : Hid (∀ W, Below w.heap.size w W → Calls Tryz.prog 63 #[.agg #[.int .i64 h.k, .int .i64 h.n, .int .i64 h.a, .slice r2 z1 d2, .slice r3 z2 d3], .int .i64 0, .int .i64 0] W (MakesT h x W)) := fun W hW => by
      have := refLiftT_any h x _ 0 0 W (hRM.out W hW) hf.1 hf.2.1 (by simp only [Ts.size] at hs; omega)
      rw [Hd.lift_zero hf.1, Ts.lift_zero hf.2.1] at this
      exact this
    have HIH : Hid (∀ W, Below w.heap.size w W → Calls Tryz.prog 17 #[.slice (some ⟨b, o + 5, none⟩) r.len (c - 1)] W (MakesT (tup r).h (tup r).x W)) := fun W hW => ih _ W (hRT'.on hW) hf.2.2 (by simp only [Ts.size] at hs; omega)
    have hZ0 : ∀ o v, zeros[o]? = some v → U (w.alloc (.cells zeros 26)) w.heap.size o = some v := fun o v hv => laid_cell hv
    have up : ∀ {o : Nat} {v : Value}, U w b o = some v → U (w.alloc (.cells zeros 26)) b o = some v := fun h => U_below (below_alloc _ _) _ _ _ hb h
    cases r with
    | nil =>
      have e1 := U_cell (up v1)
      have e2 := U_cell (up v2)
      have e3 := U_cell (up v3)
      have e4 := U_cell (up v4)
      have e5 := U_cell (up v5)
      unfold zeros at e1 e2 e3 e4 e5
      clear hu1 hu2 hu3 hu4 hu5 hRL hRX ha hRT hRT' hz1 hz2 ih v1 v2 v3 v4 v5 up HIH hRM
      go_enter Tryz.func17, Tryz.ntmps17
      go_wp2_with fail
      refine (H63.out _ (below_alloc _ _)).mono ?_
      rintro e w1 ⟨s1, n1, d1, s2, n2, f2, S, rfl, hb1, ho, hn⟩
      have HB := Lib.hid (below_step (below_alloc w (.cells zeros 26)) hb1)
      have Z : Hid (∀ o v, zeros[o]? = some v → U w1 w.heap.size o = some v) := fun o v hv => U_below hb1 _ _ _ (by simp) (hZ0 o v hv)
      have HO := Lib.hid ho
      have HN := Lib.hid hn
      clear hb1 hZ0 ho hn e1 e2 e3 e4 e5
      have m0 := U_cell (Z.out 0 _ rfl)
      have m1 := U_cell (Z.out 1 _ rfl)
      have m2 := U_cell (Z.out 2 _ rfl)
      have m3 := U_cell (Z.out 3 _ rfl)
      have m4 := U_cell (Z.out 4 _ rfl)
      have o0 := U_frozen (Z.out 0 _ rfl)
      have o1 := U_frozen (Z.out 1 _ rfl)
      have o2 := U_frozen (Z.out 2 _ rfl)
      have o3 := U_frozen (Z.out 3 _ rfl)
      have o4 := U_frozen (Z.out 4 _ rfl)
      go_wp2_with fail
      obtain ⟨W, hW⟩ : ∃ W, ((((w1.setCell ⟨w.heap.size, 0, none⟩ (.int .i64 h.k)).setCell ⟨w.heap.size, 1, none⟩ (.int .i64 h.n)).setCell ⟨w.heap.size, 2, none⟩ (.int .i64 h.a)).setCell ⟨w.heap.size, 3, none⟩ (.slice s1 n1 d1)).setCell ⟨w.heap.size, 4, none⟩ (.slice s2 n2 f2) = W := ⟨_, rfl⟩
      obtain ⟨⟨x0, x1, x2, x3, x4⟩, hBF, hkW⟩ := res5 Z.out HB.out (by omega) hW
      rw [hW]
      refine bodyPost_ret (v := .agg #[.int .i64 h.k, .int .i64 h.n, .int .i64 h.a, .slice s1 n1 d1, .slice s2 n2 f2]) (by simp [results, Tryz.results17, go_sem, x0, x1, x2, x3, x4]) rfl ⟨_, _, _, _, _, _, S, rfl, hBF, ?_, HN.out⟩
      exact (HO.out.lower (by simp)).kept fun b hb => hkW b (by have := (HO.out.mem b hb).1; simp at this; omega)
    | cons h' x' r' =>
      obtain ⟨rr, hrr⟩ : ∃ rr, Ts.cons h' x' r' = rr := ⟨_, rfl⟩
      have hr0 : 0 < rr.len := by rw [← hrr]; simp [Ts.len]
      have hsp : tup (.cons h x rr) = ⟨kH 12, .cons h x (tup rr).ts⟩ := fold_step _ _ _ _ _ hr0
      rw [hrr] at hs hf HIH hc1 ⊢
      rw [hsp]
      obtain ⟨X, hX⟩ : ∃ X, rr.len = X := ⟨_, rfl⟩
      obtain ⟨TT, hTT⟩ : ∃ TT, tup rr = TT := ⟨_, rfl⟩
      rw [hX] at hr0 HIH hc1 ⊢
      rw [hTT] at HIH ⊢
      clear hu1 hu2 hu3 hu4 hu5 hRL hRX ha hRT hRT' hz1 hz2 ih hRM hrr hsp hs hf
      obtain ⟨w0, hw0⟩ : ∃ w0, w.alloc (.cells zeros 26) = w0 := ⟨_, rfl⟩
      have hb0 : Below w.heap.size w w0 := by rw [← hw0]; exact below_alloc _ _
      have hs0 : w0.heap.size = w.heap.size + 1 := by rw [← hw0]; simp
      rw [hw0] at hZ0
      have gr : ∀ {o : Nat} {v : Value}, U w b o = some v → ∀ n : GrownB w.heap.size w0, n.it.cell? ⟨b, o, none⟩ = some v := fun h => GrownB.cell (U_below hb0 _ _ _ hb h) hb
      have e1 := gr v1
      have e2 := gr v2
      have e3 := gr v3
      have e4 := gr v4
      have e5 := gr v5
      have i0 : (X : Int) + 1 ≠ 1 := by omega
      have i1 : ((X : Int) + 1 == 1) = false := by simpa using i0
      have i2 : (0 : Int) < (X : Int) + 1 := by omega
      have i3 : ((X : Int) + 1 == 0) = false := hlen X
      have HB0 := Lib.hid hb0
      have HS0 := Lib.hid hs0
      have HZ0 := Lib.hid hZ0
      have HX := Lib.hid hX
      have HTT := Lib.hid hTT
      unfold zeros at hw0
      clear v1 v2 v3 v4 v5 up hb0 hs0 gr hZ0 hX hTT hlen i0
      go_enter Tryz.func17, Tryz.ntmps17
      go_wp2_with fail
      refine wp_region_take_I w.heap.size [0, 1, 2, 4, 5] (by decide) (by kernel_rfl) (by kernel_rfl) (by kernel_rfl) (by kernel_rfl) (fun _ _ d _ _ h => by cases d <;> exact h) ?_
      simp only [List.map_cons, List.map_nil, List.getD_cons_zero, List.getD_cons_succ, bar, readKind, List.size_toArray, List.length_cons, List.length_nil, Nat.zero_add, Nat.reduceAdd, if_true, if_false, Bool.false_eq_true]
      repeat (go_big_quiet_step (fail))
      refine wpQuiet_nil ?_
      clear e1 e2 e3 e4 e5
      have hB0 : Below w.heap.size w w0.drew := below_step HB0.out (below_drew w0)
      refine tail_step (i := 3) (fuel := 3) (by kernel_rfl) rfl (by rfl) (fun K' hK => ?_)
      go_simp
      refine (H63.out _ hB0).mono ?_
      rintro e w1 ⟨s1, n1, d1, s2, n2, f2, S1, rfl, hb1, ho1, hn1⟩
      have hB1 : Below w.heap.size w w1 := below_step hB0 hb1
      have hC1 : Below w0.heap.size w0 w1 := below_step (below_drew w0) hb1
      refine hK.out _ _ ⟨⟨w1, hC1.mono (by have := HS0.out; omega)⟩, rfl⟩ (fun _ => ?_)
      clear hK K'
      refine tail_step (i := 6) (fuel := 2) (by kernel_rfl) rfl (by rfl) (fun K' hK => ?_)
      go_simp
      refine (HIH.out _ hB1).mono ?_
      rintro e w2 ⟨t1, m1, c1, t2, m2, c2, S2, rfl, hb2, ho2, hn2⟩
      have hB2 : Below w.heap.size w w2 := below_step hB1 hb2
      have hC2 : Below w0.heap.size w0 w2 := below_step hC1 hb2
      refine hK.out _ _ ⟨⟨w2, hC2.mono (by have := HS0.out; omega)⟩, rfl⟩ (fun _ => ?_)
      clear hK K'
      refine tail_step (i := 7) (fuel := 1) (by kernel_rfl) rfl (by rfl) (fun K' hK => ?_)
      go_simp
      refine (refTwo_any 12 _ _ _ _ _ _ _ _ _ _ _ _ _ _ _ _ _ _ w2).mono ?_
      rintro e w3 ⟨g, rfl, hb3, hg, hG⟩
      have hB3 : Below w.heap.size w w3 := below_step hB2 hb3
      have hC3 : Below w0.heap.size w0 w3 := below_step hC2 hb3
      refine hK.out _ _ ⟨⟨w3, hC3.mono (by have := HS0.out; omega)⟩, rfl⟩ (fun _ => ?_)
      clear hK K'
      have Z : Hid (∀ o v, zeros[o]? = some v → U w3 w.heap.size o = some v) := fun o v hv => U_below hC3 _ _ _ (by have := HS0.out; omega) (HZ0.out o v hv)
      have HB := Lib.hid hB3
      have HC := Lib.hid hC3
      have hs1 : w1.heap.size ≤ w2.heap.size := hb2.size
      have hs2 : w0.heap.size ≤ w1.heap.size := hC1.size
      have hown : Own w3 w.heap.size (tDs ty (.cons h x TT.ts)) ([.int .i64 h.k, .int .i64 h.n, .int .i64 h.a, .slice s1 n1 d1, .slice s2 n2 f2] ++ [.int .i64 TT.h.k, .int .i64 TT.h.n, .int .i64 TT.h.a, .slice t1 m1 c1, .slice t2 m2 c2]) (S1 ++ S2) :=
        Own.app ((ho2.below hb3).lower (by have := hB1.size; omega)) (((ho1.below hb2).below hb3).lower (by have := hB0.size; simpa using this))
      have hlt1 : ∀ b ∈ S1, b < w1.heap.size := fun b hb => (ho1.mem b hb).2
      have hge2 : ∀ b ∈ S2, w1.heap.size ≤ b := fun b hb => (ho2.mem b hb).1
      have hnd : (S1 ++ S2).Nodup := nodup_two w1.heap.size hn1 hn2 hlt1 hge2
      have hgS : g ∉ S1 ++ S2 := fun hm => by
        rcases List.mem_append.1 hm with hm | hm
        · have := hlt1 g hm; omega
        · have := (ho2.mem g hm).2; omega
      obtain ⟨ho3, hn3⟩ := Own.block (sz := 5) (e := 26) (n := 2) hown hnd hG (by have := hB2.size; omega) hgS rfl (by decide)
      have HO := Lib.hid (own_node (k := 12) (n := 0) (a := 0) ho3)
      have HN := Lib.hid hn3
      have HGE : Hid (∀ b ∈ [g] ++ (S1 ++ S2), w.heap.size + 1 ≤ b) := fun b hb => by
        have h0 := HS0.out
        rcases List.mem_append.1 hb with hb | hb
        · simp at hb; omega
        · rcases List.mem_append.1 hb with hb | hb
          · have := (ho1.mem b hb).1; simp at this; omega
          · have := hge2 b hb; omega
      have m0 := U_cell (Z.out 0 _ rfl)
      have m1' := U_cell (Z.out 1 _ rfl)
      have m2' := U_cell (Z.out 2 _ rfl)
      have m3 := U_cell (Z.out 3 _ rfl)
      have m4 := U_cell (Z.out 4 _ rfl)
      have o0 := U_frozen (Z.out 0 _ rfl)
      have o1 := U_frozen (Z.out 1 _ rfl)
      have o2 := U_frozen (Z.out 2 _ rfl)
      have o3 := U_frozen (Z.out 3 _ rfl)
      have o4 := U_frozen (Z.out 4 _ rfl)
      clear hb1 hb2 hb3 ho1 ho2 ho3 hn1 hn2 hn3 hB0 hB1 hB2 hB3 hC1 hC2 hC3 hs1 hs2 hown hlt1 hge2 hnd hgS hG hg
      obtain ⟨W, hW⟩ : ∃ W, ((((w3.setCell ⟨w.heap.size, 0, none⟩ (.int .i64 12)).setCell ⟨w.heap.size, 1, none⟩ (.int .i64 0)).setCell ⟨w.heap.size, 2, none⟩ (.int .i64 0)).setCell ⟨w.heap.size, 3, none⟩ (.slice none 0 0)).setCell ⟨w.heap.size, 4, none⟩ (.slice (some ⟨g, 0, none⟩) 2 2) = W := ⟨_, rfl⟩
      obtain ⟨⟨x0, x1, x2, x3, x4⟩, hBF, hkW⟩ := res5 Z.out HB.out (Nat.le_refl _) hW
      have hC0 : Below w.heap.size w0 w3 := HC.out.mono (by have := HS0.out; omega)
      have hCF : Below w.heap.size w0 W := by
        rw [← hW]
        exact ((((hC0.setCell (p := ⟨w.heap.size, 0, none⟩) (Nat.le_refl _) _).setCell (p := ⟨w.heap.size, 1, none⟩) (Nat.le_refl _) _).setCell (p := ⟨w.heap.size, 2, none⟩) (Nat.le_refl _) _).setCell (p := ⟨w.heap.size, 3, none⟩) (Nat.le_refl _) _).setCell (p := ⟨w.heap.size, 4, none⟩) (Nat.le_refl _) _
      refine tail_step (i := 8) (fuel := 0) (by kernel_rfl) rfl (by rfl) (fun K' hK => ?_)
      go_simp
      try rw [hW]
      refine hK.out _ _ ⟨⟨W, hCF⟩, rfl⟩ (fun _ => ?_)
      clear hK K'
      refine wpAnyH_done (by kernel_rfl) ?_ _
      clear m0 m1' m2' m3 m4 o0 o1 o2 o3 o4
      have HW := Lib.hid hW
      clear hW
      go_wp2_with fail
      refine bodyPost_ret (v := .agg #[.int .i64 12, .int .i64 0, .int .i64 0, .slice none 0 0, .slice (some ⟨g, 0, none⟩) 2 2]) (by simp [results, Tryz.results17, go_sem, x0, x1, x2, x3, x4]) rfl ⟨_, _, _, _, _, _, _, rfl, hBF, HO.out.kept (fun b hb => hkW b (by have := HGE.out b hb; omega)), HN.out⟩
end Go.Proofs.YtkcmapimcgppmaaGreatDoor
end
section
namespace Go.Proofs.YtkcmapimcgppmaaGreatDoor
open Go.RowKit Go.Shelf
attribute [local go_sem] Oper.semAt_some

theorem BkD.putObj {B n c : Nat} {p : Option Addr} {vs : Nat → Nat → Value} {W : World} (h : BkD B p n c vs W) {l : Nat} {o : Obj} (o' : Obj) (hl : W.heap[l]? = some o) (ho : o.isCells = false) : BkD B p n c vs (W.putObj l o') :=
  ⟨cell_kept h.1 (grownBy_putObj' W l o') (fun r e => by cases e; exact ⟨o, hl, ho⟩), fun k hk => by
    obtain ⟨b, q, e, hc⟩ := h.2 k hk
    exact ⟨b, q, e, fun i hi => cell_kept (hc i hi) (grownBy_putObj' W l o') (fun r e => by cases e; exact ⟨o, hl, ho⟩)⟩⟩
theorem U_kept {W W' : World} {row : Option Nat} {b o : Nat} {v : Value} (h : U W b o = some v) (hg : W.grownBy W' row) (hr : ∀ r, row = some r → ∃ o : Obj, W.heap[r]? = some o ∧ o.isCells = false) : U W' b o = some v := by
  refine (U_block (hg.block b (U_lt h) fun e => ?_) o).trans h
  obtain ⟨ob, ho, hc⟩ := hr b e.symm
  obtain ⟨ob', ho', hc'⟩ := cells_of_cell (U_cell h)
  rw [ho] at ho'
  cases ho'
  rw [hc] at hc'
  cases hc'
theorem fold_fits {kk : Int} {z : Hd} (hk : 0 ≤ kk ∧ kk ≤ 100) (hz : z.fits) : ∀ {t : Ts}, t.fits → (fold kk z t).h.fits ∧ (fold kk z t).x.fits
  | .nil, _ => ⟨hz, trivial⟩
  | .cons h x .nil, hf => ⟨hf.1, hf.2.1⟩
  | .cons h x (.cons h' x' r), hf => by
    obtain ⟨h1, h2⟩ := fold_fits hk hz hf.2.2
    rw [fold_step kk z h x _ (by simp [Ts.len])]
    exact ⟨⟨⟨by show -9223372036854775808 ≤ kk; omega, by show kk ≤ 9223372036854775807; omega⟩, ⟨by show (-9223372036854775808 : Int) ≤ 0; decide, by show (0 : Int) ≤ 9223372036854775807; decide⟩, ⟨by show (-9223372036854775808 : Int) ≤ 0; decide, by show (0 : Int) ≤ 9223372036854775807; decide⟩, fun p hp => by cases hp⟩, hf.1, hf.2.1, h1, h2, trivial⟩
theorem fold_size (kk : Int) {z : Hd} (hz : z.l = []) : ∀ t : Ts, lvSize (fold kk z t).h.l + (fold kk z t).x.size ≤ t.size + t.len
  | .nil => by show lvSize z.l + 0 ≤ _; rw [hz]; simp [lvSize]
  | .cons h x .nil => by show lvSize h.l + x.size ≤ _; simp only [Ts.size, Ts.len]; omega
  | .cons h x (.cons h' x' r) => by
    have h1 := fold_size kk hz (.cons h' x' r)
    rw [fold_step kk z h x _ (by simp [Ts.len])]
    show lvSize [] + (1 + lvSize h.l + x.size + (1 + lvSize (fold kk z (.cons h' x' r)).h.l + (fold kk z (.cons h' x' r)).x.size + 0)) ≤ _
    simp only [Ts.size, Ts.len, lvSize] at h1 ⊢
    omega

set_option maxRecDepth 100000 in
set_option maxHeartbeats 4000000 in
theorem folded_any (kk zk zn za : Int) (va : Value) (t : Ts) (w : World) (ha : RT ty w va t) (hf : t.fits) (hzf : Hd.fits ⟨zk, zn, za, []⟩) (hs : t.size ≤ 1000000) (hKA : KA w) (hkk : 0 ≤ kk ∧ kk ≤ 100) : Calls Tryz.prog 56 #[.int .i64 kk, .agg #[.int .i64 zk, .int .i64 zn, .int .i64 za, .slice none 0 0, .slice none 0 0], va] w (MakesT (fold kk ⟨zk, zn, za, []⟩ t).h (fold kk ⟨zk, zn, za, []⟩ t).x w) := by
  refine (callsIn_wide (n := 3)).1 ?_
  refine callsIn_of_wp_marks Tryz.func56 rfl trivial ?_ rfl
  simp only [Tryz.ntmps56, List.size_toArray, List.length_cons, List.length_nil, Nat.reduceAdd, Nat.reduceSub, Array.replicate_succ, Array.replicate_zero, List.push_toArray, List.append_toArray, List.nil_append, List.cons_append]
  obtain ⟨q, c, rfl, hc1, hc2, hc3⟩ := ha.slice
  unfold maxLen at hc2
  by_cases h0 : t.len = 0
  · have ht : t = .nil := by cases t <;> simp [Ts.len] at h0 ⊢
    subst ht
    have r1 : (((Ts.nil.len : Nat) : Int) == 0) = true := rfl
    obtain ⟨w2, hw2⟩ : ∃ w2, ((w.alloc (.cells #[.int .i64 kk] 23)).alloc (.cells #[.int .i64 zk, .int .i64 zn, .int .i64 za, .slice none 0 0, .slice none 0 0] 26)).alloc (.cells zeros 26) = w2 := ⟨_, rfl⟩
    have hb2 : Below w.heap.size w w2 := by rw [← hw2]; exact below_step (below_step (below_alloc _ _) (below_alloc _ _)) (below_alloc _ _)
    have p1 : ∀ o v, (#[.int .i64 zk, .int .i64 zn, .int .i64 za, .slice none 0 0, .slice none 0 0] : Array Value)[o]? = some v → U w2 (w.heap.size + 1) o = some v := fun o v hv => by
      have := laid_cell (w := w.alloc (.cells #[.int .i64 kk] 23)) (ty := 26) hv
      rw [World.size_alloc] at this
      rw [← hw2]; exact U_below (below_alloc _ _) _ _ _ (by simp) this
    have Z : Hid (∀ o v, zeros[o]? = some v → U w2 (w.heap.size + 1 + 1) o = some v) := fun o v hv => by
      have := laid_cell (w := (w.alloc (.cells #[.int .i64 kk] 23)).alloc (.cells #[.int .i64 zk, .int .i64 zn, .int .i64 za, .slice none 0 0, .slice none 0 0] 26)) (ty := 26) hv
      rw [World.size_alloc, World.size_alloc, hw2] at this
      exact this
    have HB := Lib.hid hb2
    have e0 := U_cell (p1 0 _ rfl)
    have e1 := U_cell (p1 1 _ rfl)
    have e2 := U_cell (p1 2 _ rfl)
    have e3 := U_cell (p1 3 _ rfl)
    have e4 := U_cell (p1 4 _ rfl)
    have m0 := U_cell (Z.out 0 _ rfl)
    have m1 := U_cell (Z.out 1 _ rfl)
    have m2 := U_cell (Z.out 2 _ rfl)
    have m3 := U_cell (Z.out 3 _ rfl)
    have m4 := U_cell (Z.out 4 _ rfl)
    have o0 := U_frozen (Z.out 0 _ rfl)
    have o1 := U_frozen (Z.out 1 _ rfl)
    have o2 := U_frozen (Z.out 2 _ rfl)
    have o3 := U_frozen (Z.out 3 _ rfl)
    have o4 := U_frozen (Z.out 4 _ rfl)
    unfold zeros at hw2
    clear ha hf hs hKA hb2 p1
    gi_wp2_with fail
    obtain ⟨W, hW⟩ : ∃ W, ((((w2.setCell ⟨w.heap.size + 1 + 1, 0, none⟩ (.int .i64 zk)).setCell ⟨w.heap.size + 1 + 1, 1, none⟩ (.int .i64 zn)).setCell ⟨w.heap.size + 1 + 1, 2, none⟩ (.int .i64 za)).setCell ⟨w.heap.size + 1 + 1, 3, none⟩ (.slice none 0 0)).setCell ⟨w.heap.size + 1 + 1, 4, none⟩ (.slice none 0 0) = W := ⟨_, rfl⟩
    obtain ⟨⟨x0, x1, x2, x3, x4⟩, hBF, hkW⟩ := res5 Z.out HB.out (by omega) hW
    rw [hW]
    refine ⟨.agg #[.int .i64 zk, .int .i64 zn, .int .i64 za, .slice none 0 0, .slice none 0 0], by simp [results, Tryz.results56, go_sem, x0, x1, x2, x3, x4], _, _, _, _, _, _, [], rfl, hBF, own_plain _ _ _ _ _, by simp⟩
  · obtain ⟨m, hm⟩ : ∃ m, t.len = m + 1 := ⟨t.len - 1, by omega⟩
    obtain ⟨b, o, rfl, hb, -, -⟩ := Rd.lies ha (by omega)
    obtain ⟨vs, hvs, hel⟩ := ha.elems
    rw [hm] at hc1 hvs hel ⊢
    have r1 : ((m : Int) + 1 == 0) = false := by simp; omega
    have i1 : (0 : Int) ≤ (m : Int) := by omega
    obtain ⟨w2, hw2⟩ : ∃ w2, ((w.alloc (.cells #[.int .i64 kk] 23)).alloc (.cells #[.int .i64 zk, .int .i64 zn, .int .i64 za, .slice none 0 0, .slice none 0 0] 26)).alloc (.cells zeros 26) = w2 := ⟨_, rfl⟩
    have hb2 : Below w.heap.size w w2 := by rw [← hw2]; exact below_step (below_step (below_alloc _ _) (below_alloc _ _)) (below_alloc _ _)
    have ce : ∀ i, i < 5 → w2.cell? ⟨b, o + m * 5 + i, none⟩ = some (vs m i) := fun i hi => (hb2.cell (p := ⟨b, o + m * 5 + i, none⟩) hb).trans (hvs m (by omega) i hi)
    have e0 := ce 0 (by decide)
    have e1 := ce 1 (by decide)
    have e2 := ce 2 (by decide)
    have e3 := ce 3 (by decide)
    have e4 := ce 4 (by decide)
    rw [Nat.add_zero] at e0
    obtain ⟨q1, n1, c1, q2, n2, c2, hm0, hml, hmx⟩ := hel m (by omega)
    unfold el at hm0
    injection hm0 with hm0
    have d0 := congrArg (fun a : Array Value => a[0]?) hm0
    have d1 := congrArg (fun a : Array Value => a[1]?) hm0
    have d2 := congrArg (fun a : Array Value => a[2]?) hm0
    have d3 := congrArg (fun a : Array Value => a[3]?) hm0
    have d4 := congrArg (fun a : Array Value => a[4]?) hm0
    simp at d0 d1 d2 d3 d4
    rw [d0] at e0
    rw [d1] at e1
    rw [d2] at e2
    rw [d3] at e3
    rw [d4] at e4
    unfold zeros at hw2
    have HA := Lib.hid ha
    have HEL := Lib.hid hel
    have HVS := Lib.hid hvs
    have HF := Lib.hid hf
    have HS := Lib.hid hs
    have HKA := Lib.hid hKA
    have HZF := Lib.hid hzf
    have HML := Lib.hid hml
    have HMX := Lib.hid hmx
    have HM := Lib.hid hm
    clear hzf ha hf hs hKA hel hvs hml hmx d0 d1 d2 d3 d4 hm0 ce h0 hc3 hm
    obtain ⟨w3, hw3⟩ : ∃ w3, w2.alloc (.cells #[.int .i64 (t.hd m).k, .int .i64 (t.hd m).n, .int .i64 (t.hd m).a, .slice q1 n1 c1, .slice q2 n2 c2] 26) = w3 := ⟨_, rfl⟩
    have hs2 : w2.heap.size = w.heap.size + 3 := by rw [← hw2]; simp
    have hb3 : Below w.heap.size w w3 := by rw [← hw3]; exact below_step hb2 (below_alloc _ _)
    have hs3 : w3.heap.size = w2.heap.size + 1 := by rw [← hw3]; simp
    have hg3 : ∀ o u, (#[.int .i64 (t.hd m).k, .int .i64 (t.hd m).n, .int .i64 (t.hd m).a, .slice q1 n1 c1, .slice q2 n2 c2] : Array Value)[o]? = some u → U w3 w2.heap.size o = some u := fun o u hu => by rw [← hw3]; exact laid_cell hu
    have hk3 : U w3 w.heap.size 0 = some (.int .i64 kk) := by
      rw [← hw3]; refine U_below (below_alloc _ _) _ _ _ (by omega) ?_
      rw [← hw2]; exact U_below (below_alloc _ _) _ _ _ (by first | (simp; done) | (simp; omega)) (U_below (below_alloc _ _) _ _ _ (by simp) (laid_cell rfl))
    have hz3 : ∀ o v, zeros[o]? = some v → U w3 (w.heap.size + 1 + 1) o = some v := fun o v hv => by
      rw [← hw3]; refine U_below (below_alloc _ _) _ _ _ (by omega) ?_
      have := laid_cell (w := (w.alloc (.cells #[.int .i64 kk] 23)).alloc (.cells #[.int .i64 zk, .int .i64 zn, .int .i64 za, .slice none 0 0, .slice none 0 0] 26)) (ty := 26) hv
      unfold zeros at this
      rw [World.size_alloc, World.size_alloc, hw2] at this
      exact this
    have HS2 := Lib.hid hs2
    have HS3 := Lib.hid hs3
    clear hs2 hs3
    obtain ⟨wS, hwS⟩ : ∃ wS, w3.alloc (.cells #[.slice (some ⟨b, o, none⟩) m c] 22) = wS := ⟨_, rfl⟩
    gi_wp2_with fail
    refine ⟨trivial, (callsIn_wide.2 (back1_any _ _ _ _)).mono ?_⟩
    rintro e w' ⟨rfl, rfl⟩
    rw [hwS]
    have hs2 := HS2.out
    have hs3 := HS3.out
    obtain ⟨g, hg⟩ : ∃ g, w2.heap.size = g := ⟨_, rfl⟩
    have hbS : Below w3.heap.size w3 wS := by rw [← hwS]; exact below_alloc _ _
    have hbS0 : Below w.heap.size w wS := below_step hb3 hbS
    have hsS : wS.heap.size = g + 2 := by rw [← hwS]; simp; omega
    have hgw : g = w.heap.size + 3 := by omega
    rw [hg] at hg3 hs3 hs2 ⊢
    rw [hs3]
    have hgS : ∀ o u, (#[.int .i64 (t.hd m).k, .int .i64 (t.hd m).n, .int .i64 (t.hd m).a, .slice q1 n1 c1, .slice q2 n2 c2] : Array Value)[o]? = some u → U wS g o = some u := fun o u hu => U_below hbS _ _ _ (by omega) (hg3 o u hu)
    have hkS : U wS w.heap.size 0 = some (.int .i64 kk) := U_below hbS _ _ _ (by omega) hk3
    have hzS : ∀ o v, zeros[o]? = some v → U wS (w.heap.size + 1 + 1) o = some v := fun o v hv => U_below hbS _ _ _ (by omega) (hz3 o v hv)
    have hboxS : wS.cell? ⟨g + 1, 0, none⟩ = some (.slice (some ⟨b, o, none⟩) m c) := by
      have := laid_cell (w := w3) (cs := #[.slice (some ⟨b, o, none⟩) m c]) (ty := 22) (o := 0) rfl
      rw [hwS, hs3] at this
      exact U_cell this
    have hBk : BkD (g + 1) (some ⟨b, o, none⟩) m c vs wS := ⟨hboxS, fun k hk => ⟨b, o, rfl, fun i hi => (hbS0.cell (p := ⟨b, o + k * 5 + i, none⟩) hb).trans (HVS.out k (by omega) i hi)⟩⟩
    have hF0 : ∀ (W : World), BelowX g wS W → ∀ b o v, b < w.heap.size → U w b o = some v → Fx g W b o = some v := fun W hW b o v hb hu => Fx_mk (hW.U (U_below hbS0 _ _ _ hb hu) (by omega)) (by omega)
    have hI0 : FoldI t kk g ⟨t.hd m, t.kd m⟩ wS [] wS :=
      ⟨BelowX.refl _ _, by omega, .agg #[.int .i64 (t.hd m).k, .int .i64 (t.hd m).n, .int .i64 (t.hd m).a, .slice q1 n1 c1, .slice q2 n2 c2], ⟨_, _, _, _, _, _, rfl, HML.out.mono (hF0 wS (BelowX.refl _ _)) hbS0.size, HMX.out.mono (hF0 wS (BelowX.refl _ _)) hbS0.size⟩, fun cs e o u hu => by cases e; exact hgS o u hu⟩
    have HI0 := Lib.hid hI0
    have HBK := Lib.hid hBk
    have HF0 := Lib.hid hF0
    have HKS := Lib.hid hkS
    have HZS := Lib.hid hzS
    have HBS := Lib.hid hbS0
    have HSS := Lib.hid hsS
    have HGW := Lib.hid hgw
    have HBW := Lib.hid hb
    clear hgw HS2 HS3 hbS hbS0 hsS hgS hkS hzS hboxS hBk hF0 hI0 hg hs2 hb3 hs3 hg3 hk3 hz3 hwS hw3 hw2 hb2 e0 e1 e2 e3 e4
    gi_wp2_with fail
    refine wpIn_rangeFunc_ownH rfl (by decide) (gf := 200) (lb := #[.pointer (some ⟨g + 1, 0, none⟩)]) rfl trivial (enters_of Tryz.func200 (by kernel_rfl) rfl)
      (back_stops (g + 1) m c (some ⟨b, o, none⟩) vs (by omega) (by unfold maxLen; omega) 2 wS (fun W hW => HBK.out.on (BelowX.of_below (g := g) hW) (by omega) (fun b' o' e => by cases e; have := HBW.out; have := HGW.out; omega)))
      (fun h k x => k (h x)) (fun W l o o' _ hl ho _ h => h.putObj o' hl ho) (Below.refl _ _) (fun _ => rfl)
      (fun pre W => FoldI t kk g ⟨t.hd m, t.kd m⟩ wS (pre.map (·.val)) W) (fun _ _ _ => False) FoldI.own (fun _ _ _ _ _ hs _ _ => hs) HI0.out
      (fun x a' W => ∃ b9, a' = { tmps := #[.int .i64 kk, .agg #[.int .i64 zk, .int .i64 zn, .int .i64 za, .slice none 0 0, .slice none 0 0], .slice (some ⟨b, o, none⟩) (m + 1) c, .pointer (some ⟨w.heap.size, 0, none⟩), .pointer (some ⟨w.heap.size + 1, 0, none⟩), undef, .pointer (some ⟨w.heap.size + 1 + 1, 0, none⟩), .pointer (some ⟨g, 0, none⟩), undef, .pointer (some ⟨b9, 0, none⟩), .slice (some ⟨b, o, none⟩) (m + 1) c, .int .i64 ((m : Int) + 1), .bool false, undef, .slice (some ⟨b, o, none⟩) (m + 1) c, .slice (some ⟨b, o, none⟩) (m + 1) c, .int .i64 ((m : Int) + 1), .int .i64 m, .pointer (some ⟨b, o + m * 5, none⟩), .agg #[.int .i64 (t.hd m).k, .int .i64 (t.hd m).n, .int .i64 (t.hd m).a, .slice q1 n1 c1, .slice q2 n2 c2], .slice (some ⟨b, o, none⟩) (m + 1) c, .slice (some ⟨b, o, none⟩) (m + 1) c, .int .i64 ((m : Int) + 1), .int .i64 m, .slice (some ⟨b, o, none⟩) m c, .func (.func 200) #[] #[.pointer (some ⟨g + 1, 0, none⟩)], .int .i64 (x.val : Int), el vs x.val, undef, undef, undef, undef, undef, undef, undef], defers := [] } ∧ ∀ cs, el vs x.val = .agg cs → ∀ i u, cs[i]? = some u → U W b9 i = some u)
      (fun x a' _ _ _ _ h hg hr => by obtain ⟨b9, e, h⟩ := h; exact ⟨b9, e, fun cs e2 i u hu => U_kept (h cs e2 i u hu) hg (fun r e3 => (hr r e3).2)⟩) ?assign ?body ?done ?stop
    case assign =>
      intro l pre x W K hI hK
      obtain ⟨y1, z1, x1, y2, z2, x2, hE, -, -⟩ := HEL.out x.val (by omega)
      rw [hE]
      have hsz : wS.heap.size ≤ W.heap.size := hI.1.size
      have hb9 := below_alloc W (.cells #[.int .i64 (t.hd x.val).k, .int .i64 (t.hd x.val).n, .int .i64 (t.hd x.val).a, .slice y1 z1 x1, .slice y2 z2 x2] 26)
      have hK2 := hK { tmps := #[.int .i64 kk, .agg #[.int .i64 zk, .int .i64 zn, .int .i64 za, .slice none 0 0, .slice none 0 0], .slice (some ⟨b, o, none⟩) (m + 1) c, .pointer (some ⟨w.heap.size, 0, none⟩), .pointer (some ⟨w.heap.size + 1, 0, none⟩), undef, .pointer (some ⟨w.heap.size + 1 + 1, 0, none⟩), .pointer (some ⟨g, 0, none⟩), undef, .pointer (some ⟨W.heap.size, 0, none⟩), .slice (some ⟨b, o, none⟩) (m + 1) c, .int .i64 ((m : Int) + 1), .bool false, undef, .slice (some ⟨b, o, none⟩) (m + 1) c, .slice (some ⟨b, o, none⟩) (m + 1) c, .int .i64 ((m : Int) + 1), .int .i64 m, .pointer (some ⟨b, o + m * 5, none⟩), .agg #[.int .i64 (t.hd m).k, .int .i64 (t.hd m).n, .int .i64 (t.hd m).a, .slice q1 n1 c1, .slice q2 n2 c2], .slice (some ⟨b, o, none⟩) (m + 1) c, .slice (some ⟨b, o, none⟩) (m + 1) c, .int .i64 ((m : Int) + 1), .int .i64 m, .slice (some ⟨b, o, none⟩) m c, .func (.func 200) #[] #[.pointer (some ⟨g + 1, 0, none⟩)], .int .i64 (x.val : Int), .agg #[.int .i64 (t.hd x.val).k, .int .i64 (t.hd x.val).n, .int .i64 (t.hd x.val).a, .slice y1 z1 x1, .slice y2 z2 x2], undef, undef, undef, undef, undef, undef, undef], defers := [] } _
        (KeepsOthers.from (KeepsOthers.alloc _ _) _) (fun h => h.on (BelowX.of_below (g := g) hb9) (by omega) (fun b' o' e => by cases e; have := HBW.out; have := HGW.out; omega)) (hI.below hb9)
        ⟨W.heap.size, by rw [hE], fun cs e2 i u hu => by rw [hE] at e2; cases e2; exact laid_cell hu⟩
      clear hK hI hE
      gi_wp2_with fail
      exact hK2
    case body =>
      rintro l pre x a' W hl hr hI ⟨b9, rfl, hc9⟩ hlen
      obtain ⟨y1, z1, x1, y2, z2, x2, hE, hE1, hE2⟩ := HEL.out x.val (by omega)
      have hu9 := hc9 _ hE
      have hI' := hI
      obtain ⟨hX, hgl, v, ⟨u1, v1, w1, u2, v2, w2', rfl, hR1, hR2⟩, hcs⟩ := hI'
      have hcg := hcs _ rfl
      have k0 := U_cell (hX.U HKS.out (by have := HGW.out; omega))
      have f0 := U_cell (hu9 0 _ rfl)
      have f1 := U_cell (hu9 1 _ rfl)
      have f2 := U_cell (hu9 2 _ rfl)
      have f3 := U_cell (hu9 3 _ rfl)
      have f4 := U_cell (hu9 4 _ rfl)
      have c0 := U_cell (hcg 0 _ rfl)
      have c1 := U_cell (hcg 1 _ rfl)
      have c2 := U_cell (hcg 2 _ rfl)
      have c3 := U_cell (hcg 3 _ rfl)
      have c4 := U_cell (hcg 4 _ rfl)
      have o0 := U_frozen (hcg 0 _ rfl)
      have o1 := U_frozen (hcg 1 _ rfl)
      have o2 := U_frozen (hcg 2 _ rfl)
      have o3 := U_frozen (hcg 3 _ rfl)
      have o4 := U_frozen (hcg 4 _ rfl)
      have hgW : g < W.heap.size := U_lt (hcg 0 _ rfl)
      obtain ⟨Wb, hWb⟩ : ∃ Wb, W.alloc (.cells #[.int .i64 (t.hd x.val).k, .int .i64 (t.hd x.val).n, .int .i64 (t.hd x.val).a, .slice y1 z1 x1, .slice y2 z2 x2, .int .i64 (acc kk t ⟨t.hd m, t.kd m⟩ (pre.map (·.val))).h.k, .int .i64 (acc kk t ⟨t.hd m, t.kd m⟩ (pre.map (·.val))).h.n, .int .i64 (acc kk t ⟨t.hd m, t.kd m⟩ (pre.map (·.val))).h.a, .slice u1 v1 w1, .slice u2 v2 w2'] 26) = Wb := ⟨_, rfl⟩
      obtain ⟨W', hW'⟩ : ∃ W', ((((Wb.setCell ⟨g, 0, none⟩ (.int .i64 kk)).setCell ⟨g, 1, none⟩ (.int .i64 0)).setCell ⟨g, 2, none⟩ (.int .i64 0)).setCell ⟨g, 3, none⟩ (.slice none 0 0)).setCell ⟨g, 4, none⟩ (.slice (some ⟨W.heap.size, 0, none⟩) 2 2) = W' := ⟨_, rfl⟩
      have hst := hI.step (W' := W') (k := x.val) (e0 := .int .i64 (t.hd x.val).k) (e1 := .int .i64 (t.hd x.val).n) (e2 := .int .i64 (t.hd x.val).a) (e3 := .slice y1 z1 x1) (e4 := .slice y2 z2 x2) ⟨_, _, _, _, _, _, rfl, Rd.mono hE1 (HF0.out W hX) (by have := HBS.out.size; have := hX.size; omega), Rd.mono hE2 (HF0.out W hX) (by have := HBS.out.size; have := hX.size; omega)⟩ hcg (by rw [hWb]; exact hW')
      have HST := Lib.hid hst
      have ub : ∀ o u, (#[.int .i64 (acc kk t ⟨t.hd m, t.kd m⟩ (pre.map (·.val))).h.k, .int .i64 (acc kk t ⟨t.hd m, t.kd m⟩ (pre.map (·.val))).h.n, .int .i64 (acc kk t ⟨t.hd m, t.kd m⟩ (pre.map (·.val))).h.a, .slice u1 v1 w1, .slice u2 v2 w2'] : Array Value)[o]? = some u → U Wb g o = some u := fun o u hu => by rw [← hWb]; exact U_below (below_alloc _ _) _ _ _ hgW (hcg o u hu)
      have b0 := U_cell (ub 0 _ rfl)
      have b1 := U_cell (ub 1 _ rfl)
      have b2 := U_cell (ub 2 _ rfl)
      have b3 := U_cell (ub 3 _ rfl)
      have b4 := U_cell (ub 4 _ rfl)
      have j0 := U_frozen (ub 0 _ rfl)
      have j1 := U_frozen (ub 1 _ rfl)
      have j2 := U_frozen (ub 2 _ rfl)
      have j3 := U_frozen (ub 3 _ rfl)
      have j4 := U_frozen (ub 4 _ rfl)
      clear ub o0 o1 o2 o3 o4
      have HKP : Hid (BkD (g + 1) (some ⟨b, o, none⟩) m c vs W') := Lib.hid (HBK.out.on (g := g) hst.1.1 (by omega) (fun b' o' e => by cases e; have := HBW.out; have := HGW.out; omega))
      have HW := Lib.hid hW'
      clear hI hE hE1 hE2 hu9 hcg hcs hX hR1 hR2 hst hW' hc9 hr hlen hl
      gi_wp2_with fail
      rw [HW.out]
      refine ⟨HST.out.2, fun _ => HKP.out, ?_⟩
      have := HST.out.1
      rw [show pre.map (·.val) ++ [x.val] = (pre ++ [x]).map (·.val) by simp] at this
      exact this
    case done =>
      intro D xs W hD hS hI hK
      rw [hS] at hI
      unfold FoldI at hI
      rw [acc_fold kk ⟨zk, zn, za, []⟩ t m HM.out m (Nat.le_refl _), Nat.sub_self] at hI
      have hft := fold_fits (kk := kk) (z := ⟨zk, zn, za, []⟩) hkk HZF.out HF.out
      have hsz := fold_size kk (z := ⟨zk, zn, za, []⟩) rfl t
      have hlz := Ts.len_le_size t
      obtain ⟨T, hT⟩ : ∃ T, fold kk ⟨zk, zn, za, []⟩ t = T := ⟨_, rfl⟩
      rw [show t.drop 0 = t from rfl, hT] at hI
      rw [hT] at hft hsz ⊢
      obtain ⟨hX, hgl, v, ⟨u1, v1, w1, u2, v2, w2', rfl, hR1, hR2⟩, hcs⟩ := hI
      have hcg := hcs _ rfl
      have c0 := U_cell (hcg 0 _ rfl)
      have c1 := U_cell (hcg 1 _ rfl)
      have c2 := U_cell (hcg 2 _ rfl)
      have c3 := U_cell (hcg 3 _ rfl)
      have c4 := U_cell (hcg 4 _ rfl)
      have hBW : Below w.heap.size w W := HBS.out.trans (hX.below (by have := HGW.out; omega) (by have := HSS.out; have := HGW.out; omega))
      have HL := Lib.hid (liftT_any T.h T.x (.agg #[.int .i64 T.h.k, .int .i64 T.h.n, .int .i64 T.h.a, .slice u1 v1 w1, .slice u2 v2 w2']) 0 0 W ⟨_, _, _, _, _, _, rfl, hR1.mono (fun b o u _ hu => Fx_U hu) (Nat.le_refl _), hR2.mono (fun b o u _ hu => Fx_U hu) (Nat.le_refl _)⟩ hft.1 hft.2 (by have := HS.out; omega) (HKA.out.on hBW HKA.out.1))
      rw [Hd.lift_zero hft.1, Ts.lift_zero hft.2] at HL
      have HBW2 := Lib.hid hBW
      have Z : Hid (∀ o v, zeros[o]? = some v → U W (w.heap.size + 1 + 1) o = some v) := fun o v hv => hX.U (HZS.out o v hv) (by have := HGW.out; omega)
      have HK := Lib.hid hK
      have HDW : Hid (wS.heap.size ≤ D ∧ D < W.heap.size) := Lib.hid ⟨hD, (Array.getElem?_eq_some_iff.1 hK).1⟩
      have HSW : Hid (w.heap.size + 5 ≤ W.heap.size) := Lib.hid (by have h1 := hX.size; have h2 := HSS.out; have h3 := HGW.out; rw [h2, h3] at h1; omega)
      have HD5 : Hid (w.heap.size + 5 ≤ D) := Lib.hid (by have := HSS.out; have := HGW.out; omega)
      have HT := Lib.hid hT
      clear hX hgl hR1 hR2 hcs hcg hBW hK hft hsz hlz hD hS hT
      gi_wp2_with fail
      refine ⟨trivial, (callsIn_wide.2 HL.out).mono ?_⟩
      rintro e wy ⟨s1, n1, d1, s2, n2, d2, S, rfl, hby, ho, hn⟩
      have z2 : ∀ o v, zeros[o]? = some v → U wy (w.heap.size + 1 + 1) o = some v := fun o v hv => U_below hby _ _ _ (by have := HSW.out; omega) (Z.out o v hv)
      have Z2 := Lib.hid z2
      have m0 := U_cell (z2 0 _ rfl)
      have m1 := U_cell (z2 1 _ rfl)
      have m2 := U_cell (z2 2 _ rfl)
      have m3 := U_cell (z2 3 _ rfl)
      have m4 := U_cell (z2 4 _ rfl)
      have o0 := U_frozen (z2 0 _ rfl)
      have o1 := U_frozen (z2 1 _ rfl)
      have o2 := U_frozen (z2 2 _ rfl)
      have o3 := U_frozen (z2 3 _ rfl)
      have o4 := U_frozen (z2 4 _ rfl)
      have HKY : Hid (wy.heap[D]? = some (.deferred (some []))) := Lib.hid ((hby.block D HDW.out.2).trans HK.out)
      have HBY := Lib.hid (below_step HBW2.out hby)
      have HO := Lib.hid ho
      have HN := Lib.hid hn
      clear hby ho hn z2 c0 c1 c2 c3 c4 HK
      gi_wp2_with fail
      obtain ⟨W2, hW2⟩ : ∃ W2, ((((wy.setCell ⟨w.heap.size + 1 + 1, 0, none⟩ (.int .i64 T.h.k)).setCell ⟨w.heap.size + 1 + 1, 1, none⟩ (.int .i64 T.h.n)).setCell ⟨w.heap.size + 1 + 1, 2, none⟩ (.int .i64 T.h.a)).setCell ⟨w.heap.size + 1 + 1, 3, none⟩ (.slice s1 n1 d1)).setCell ⟨w.heap.size + 1 + 1, 4, none⟩ (.slice s2 n2 d2) = W2 := ⟨_, rfl⟩
      obtain ⟨⟨x0, x1, x2, x3, x4⟩, hBF, hkW⟩ := res5 Z2.out HBY.out (by omega) hW2
      rw [hW2]
      refine ⟨by simp, .inl ⟨_, _, rfl, run_takeDeferred ((hkW D (by have := HD5.out; omega)).trans HKY.out), ?_⟩⟩
      have hD5 := HD5.out
      have hkP : ∀ (o : Obj) (k : Nat), k ≠ D → (W2.putObj D o).heap[k]? = W2.heap[k]? := fun o k hk => World.putObj_heap_other hk
      have y0 : ∀ o, (W2.putObj D o).cell? ⟨w.heap.size + 1 + 1, 0, none⟩ = some (.int .i64 T.h.k) := fun o => (cell_block (hkP o _ (by omega)) 0).trans x0
      have y1 : ∀ o, (W2.putObj D o).cell? ⟨w.heap.size + 1 + 1, 1, none⟩ = some (.int .i64 T.h.n) := fun o => (cell_block (hkP o _ (by omega)) 1).trans x1
      have y2 : ∀ o, (W2.putObj D o).cell? ⟨w.heap.size + 1 + 1, 2, none⟩ = some (.int .i64 T.h.a) := fun o => (cell_block (hkP o _ (by omega)) 2).trans x2
      have y3 : ∀ o, (W2.putObj D o).cell? ⟨w.heap.size + 1 + 1, 3, none⟩ = some (.slice s1 n1 d1) := fun o => (cell_block (hkP o _ (by omega)) 3).trans x3
      have y4 : ∀ o, (W2.putObj D o).cell? ⟨w.heap.size + 1 + 1, 4, none⟩ = some (.slice s2 n2 d2) := fun o => (cell_block (hkP o _ (by omega)) 4).trans x4
      refine ⟨.agg #[.int .i64 T.h.k, .int .i64 T.h.n, .int .i64 T.h.a, .slice s1 n1 d1, .slice s2 n2 d2], by simp [results, Tryz.results56, go_sem, y0, y1, y2, y3, y4], s1, n1, d1, s2, n2, d2, S, by rw [HT.out], hBF.trans ⟨rfl, rfl, rfl, by simp [World.putObj], fun k hk => hkP _ k (by omega)⟩, ?_, HN.out⟩
      rw [HT.out]
      have hW5 := HSW.out
      exact ((HO.out.lower (by omega)).kept fun b hb => hkW b (by have := (HO.out.mem b hb).1; omega)).kept fun b hb => hkP _ b (by have := (HO.out.mem b hb).1; have := HDW.out; omega)
    case stop =>
      rintro D c pre W _ _ h _
      exact h.elim
end Go.Proofs.YtkcmapimcgppmaaGreatDoor
end
