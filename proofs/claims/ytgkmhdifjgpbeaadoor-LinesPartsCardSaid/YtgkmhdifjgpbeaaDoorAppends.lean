/-
  append of whole rows of trees to a row of the call's own. Conditions: rows no longer than 1000000.
-/
import Derived.Test.YtgkmhdifjgpbeaaDoorCopied
import Derived.Maps.AppendAt
import Derived.Laws.OwnMore
import Derived.BigFrame
import Derived.Test.YtgkmhdifjgpbeaaDoorLaws
namespace Go.Proofs.YtgkmhdifjgpbeaaDoor
open Go.RowKit

theorem wpList_append_run {P : Program} {ops : Array Oper} {Q : Exit → Act → World → Prop} {a : Act} {w w' : World} {rest : List Oper} {o : Oper} (hw : Region.wanted o (yielded ops a.tmps) = true) (s x : Operand) (t : TypeId)
    (ho : o.op = .call { callee := .builtin .append, args := #[s, x], argTypes := #[t, t] }) (v xv v' : Value) (hs : a.eval s = v) (hx : a.eval x = xv) (hr : (Builtin.append_ #[t, t] o.type #[v, xv]).run P w = .ok v' w')
    (h : wpList P ops Q rest (a.put o.dst v') w') : wpList P ops Q (o :: rest) a w := by
  refine wpList_step fun K hK => ?_
  rw [if_pos hw]
  unfold Oper.wp execOp
  simp only [ho, resolve, invoke, builtin, Sem.run_bind, Sem.run_pure, Result.andThen_ok, List.map_toArray, List.map_cons, List.map_nil, hs, hx, hr]
  exact hK _ _ h

theorem CellsT.app {F : Nat → Nat → Option Value} {lo hi : Nat} {xs ys : List Value} {t x : Ts} (h : CellsT F lo hi xs t) (k : CellsT F lo hi ys x) : CellsT F lo hi (xs ++ ys) (t.app x) := by
  induction t generalizing xs with
  | nil => simp only [CellsT] at h; subst h; exact k
  | cons w y r _ ih =>
    obtain ⟨v, rest, rfl, h2, h3, h4⟩ := h
    exact ⟨v, rest ++ ys, rfl, h2, h3, ih h4⟩
theorem CellsT.one {F : Nat → Nat → Option Value} {lo hi : Nat} {xs : List Value} {t : Ts} (h : CellsT F lo hi xs t) : ∀ u ∈ xs, u.oneCell' = true := by
  induction t generalizing xs with
  | nil => simp only [CellsT] at h; subst h; simp
  | cons w y r _ ih =>
    obtain ⟨v, rest, rfl, h2, h3, h4⟩ := h
    obtain ⟨p, c, rfl, -, -, -⟩ := h3.slice
    intro u hu
    rcases List.mem_cons.1 hu with rfl | hu
    · rfl
    · rcases List.mem_cons.1 hu with rfl | hu
      · rfl
      · exact ih h4 u hu
theorem TAt.cells {F : Nat → Nat → Option Value} {lo hi : Nat} {t : Ts} {b o : Nat} (h : TAt F lo hi t b o) : ∃ xs, CellsT F lo hi xs t ∧ ∀ j u, xs[j]? = some u → F b (o + j) = some u := by
  induction t generalizing o with
  | nil => exact ⟨[], rfl, fun j u hu => by simp at hu⟩
  | cons w x r _ ih =>
    obtain ⟨h1, h2, ⟨v, h3, h4⟩, h5⟩ := TAt_cons.1 h
    obtain ⟨xs, h6, h7⟩ := ih h5
    refine ⟨.string w :: v :: xs, ⟨v, xs, rfl, h2, h4, h6⟩, fun j u hu => ?_⟩
    match j, hu with
    | 0, hu => simp at hu; subst hu; exact h1
    | 1, hu => simp at hu; subst hu; exact h3
    | j + 2, hu =>
      have := h7 j u (by simpa using hu)
      rw [show o + (j + 2) = o + 2 + j by omega]
      exact this

/-- A row of the call's own, its trees in what lay before. -/
def AppR (w0 w : World) (v : Value) (t : Ts) : Prop :=
  Below w0.heap.size w0 w ∧ (∀ g, v.ownBlock = some g → w0.heap.size ≤ g) ∧ ∃ xs, w.ownsRow 0 41 2 v t.len xs ∧ CellsT (U w0) 0 w0.heap.size xs t
theorem AppR.start (w : World) : AppR w (w.alloc (.cells #[] 41)) (.slice (some ⟨w.heap.size, 0, none⟩) 0 0) .nil :=
  ⟨(Below.refl _ w).alloc (Nat.le_refl _) _, fun g hg => by cases hg; exact Nat.le_refl _, [], ⟨rfl, .inr ⟨w.heap.size, 0, #[], rfl, Nat.zero_le _, heap_alloc_new w _, Nat.le_refl _, Nat.zero_le _, rfl, rfl⟩⟩, rfl⟩
theorem AppR.sl {w0 w : World} {v : Value} {t : Ts} (h : AppR w0 w v t) : Sl (U w) 0 w.heap.size v t := by
  obtain ⟨hb, -, xs, hr, hc⟩ := h
  have hr' := hr
  rcases hr.2 with ⟨rfl, hn⟩ | ⟨g, cap, cur, rfl, -, hg, hnc, hcm, -⟩
  · exact ⟨none, 0, 0, rfl, hn.symm, Nat.le_refl _, Nat.zero_le _, .inl ⟨rfl, rfl⟩⟩
  · refine ⟨_, _, _, rfl, rfl, hnc, hcm, .inr (.inr ⟨g, 0, rfl, Nat.zero_le _, (hr'.lt g rfl).2, ?_⟩)⟩
    refine (hc.mono (F' := U w) (fun b o u _ h2 hu => U_below hb b o u h2 hu) (Nat.le_refl _) hb.size).tat (fun b o u hu => hu) (fun j u hu => ?_)
    rw [Nat.zero_add]
    exact ownsRow_U hr' rfl hu
theorem Ts.len_app (x y : Ts) : (x.app y).len = x.len + y.len := by
  induction x with
  | nil => simp [Ts.app, Ts.len]
  | cons w k r _ ih => simp [Ts.app, Ts.len, ih]; omega

theorem AppR.step {w0 w : World} {v : Value} {t x : Ts} {p : Option Addr} {n c : Nat} (h : AppR w0 w v t) (hx : Sl (U w0) 0 w0.heap.size (.slice p n c) x) (ht : t.len ≤ 1000000) (hxl : x.len ≤ 1000000) :
    ∃ v' w', (Builtin.append_ #[23, 23] 23 #[v, .slice p n c]).run Tryd.prog w = .ok v' w' ∧ AppR w0 w' v' (t.app x) := by
  obtain ⟨i0, hi0, hz0, hz1, hz2⟩ := info_parts info41
  obtain ⟨hb, hg, xs, hr, hc⟩ := h
  obtain ⟨p', n', c', e, hn, hnc, hcm, h7⟩ := hx
  cases e
  have grow : ∀ (ad : Addr) (news : List Value), news.length = n * 2 → (∀ j u, news[j]? = some u → w.cell? (ad.add j) = some u) → CellsT (U w0) 0 w0.heap.size news x →
      ∃ v' w', (Builtin.append_ #[23, 23] 23 #[v, .slice (some ad) n c]).run Tryd.prog w = .ok v' w' ∧ AppR w0 w' v' (t.app x) := by
    intro ad news hl hnews hcn
    obtain ⟨v', w', hrun, h2, h3, -, h5⟩ := run_append_own_at (P := Tryd.prog) (w := w) 0 23 23 41 i0 (.agg #[.string ⟨#[]⟩, .slice none 0 0]) 2 40 Tryd.underlying23 hi0 hz0 hz1 hz2 rfl (by decide) v t.len xs hr ad n c news hl hnews hcn.one (by unfold maxLen; omega) (by omega) (Nat.zero_le _)
    refine ⟨v', w', hrun, hb.grown h3 hb.size hg, fun g hg' => ?_, xs ++ news, by rw [Ts.len_app, ← hn]; exact h2, hc.app hcn⟩
    rcases h5 with h | h
    · exact hg g (by rw [← h]; exact hg')
    · rw [h] at hg'; cases hg'; exact hb.size
  rcases h7 with ⟨rfl, rfl⟩ | ⟨h0, h1⟩ | ⟨b, o, rfl, -, hlt, hA⟩
  · have hn0 : n = 0 := by omega
    subst hn0
    have hx0 : x = .nil := Ts.len_zero hn.symm
    subst hx0
    refine ⟨v, w, run_append_owned_none (P := Tryd.prog) (w := w) 0 23 23 41 i0 2 Tryd.underlying23 hi0 v t.len xs hr, hb, hg, xs, by rw [Ts.app_nil]; exact hr, by rw [Ts.app_nil]; exact hc⟩
  · subst h0
    have hx0 : x = .nil := Ts.len_zero hn.symm
    subst hx0
    cases p with
    | none => exact absurd rfl h1
    | some ad => exact grow ad [] rfl (fun j u hu => by simp at hu) rfl
  · obtain ⟨news, hcn, hnw⟩ := hA.cells
    refine grow _ news (by rw [hn]; exact hcn.len) (fun j u hu => ?_) hcn
    have h9 := U_cell (U_below hb _ _ _ hlt (hnw j u hu))
    rw [Addr.add_lit]
    exact h9
end Go.Proofs.YtgkmhdifjgpbeaaDoor
