/-
  A call by its contract; a store; an append: they are right. Conditions: the table of types is the program's. An append is right. Conditions: the table of types is the program's. Conditions: as each lemma states them.
-/
import Derived.Test.YtkcmapimcgppmaaGreatDoorN04
set_option linter.all false
set_option linter.unusedVariables false
set_option linter.unusedSimpArgs false
set_option linter.unnecessarySimpa false
section
namespace Go.Proofs.YtkcmapimcgppmaaGreatDoor
open Go.RowKit

variable {P : Program} {tb : TB} {G : World → Prop}

def Dc.ren (n : Nat) : Dc → Dc
  | .nil => .nil
  | .lit v r => .lit v (r.ren n)
  | .nilr sz e r => .nilr sz e (r.ren n)
  | .row k sz e x r => .row (k.map fun k => (n, k.2)) sz e x (r.ren n)
  | .seg k d r => .seg (k.map fun k => (n, k.2)) d (r.ren n)
  | .blk k v sz e x r => .blk k v sz e x (r.ren n)
def AV.ren (n : Nat) : AV → AV
  | .c d => .c (d.ren n)
  | .agg d => .agg (d.ren n)
  | .cons a r => .cons (a.ren n) (r.ren n)
  | .tup l => .tup (l.ren n)
  | .fn f a b => .fn f (a.ren n) (b.ren n)
  | a => a
def AV.app : AV → AV → AV
  | .cons a r, y => .cons a (r.app y)
  | _, y => y
def AV.isLL : AV → Bool
  | .nil => true
  | .cons _ r => r.isLL
  | _ => false
theorem RepV.app {g : Gh} {x y : AV} {ys : List Value} (hy : RepV g y ys) : ∀ {xs : List Value}, RepV g x xs → x.isLL = true → RepV g (x.app y) (xs ++ ys) := by
  induction x with
  | nil => rintro xs rfl _; exact hy
  | cons a r _ ih => rintro xs ⟨u, us, rfl, h1, h2⟩ hl; exact ⟨u, us ++ ys, rfl, h1, ih h2 hl⟩
  | junk => intro xs _ h; cases h
  | v _ => intro xs _ h; cases h
  | c _ => intro xs _ h; cases h
  | agg _ => intro xs _ h; cases h
  | bx _ _ => intro xs _ h; cases h
  | el _ => intro xs _ h; cases h
  | tup _ _ => intro xs _ h; cases h
  | fn _ _ _ _ _ => intro xs _ h; cases h
theorem list_isLL (l : List AV) : (AV.list l).isLL = true := by
  induction l with
  | nil => rfl
  | cons a l ih => exact ih
/-- The ghost behind a call. -/
def callGh (g : Gh) (nm : Nat) (w' : World) (fp : Tk → List Nat) : Gh :=
  { st := { g.st with τ := upd g.st.τ nm 0 }, F := fun b o => if b < g.w.heap.size then g.F b o else U w' b o, w := w', base := g.base, fp := fun k => if k.1 = nm then fp (0, k.2) else g.fp k, B := g.B }
theorem RepC.ren {g : Gh} {nm : Nat} {w' : World} {fp : Tk → List Nat} (hb : g.base ≤ g.w.heap.size) {d : Dc} : ∀ {xs : List Value}, RepC (resGh g.F g.w w' fp) d xs → RepC (callGh g nm w' fp) (d.ren nm) xs := by
  have how : ∀ (k : Option Tk) (d : Ds) (xs : List Value), (resGh g.F g.w w' fp).Ow k d xs → (callGh g nm w' fp).Ow (k.map fun k => (nm, k.2)) d xs := by
    intro k d xs h j e
    cases k with
    | none => cases e
    | some k =>
      cases e
      obtain ⟨h0, S, h1, h2, h3⟩ := h k rfl
      have hk : k.1 = 0 := by
        by_cases hk : k.1 = 0
        · exact hk
        · exact absurd h0 (by simp [resGh, hk])
      refine ⟨if_pos rfl, S, h1.lower hb, h2, fun b hbS => ?_⟩
      have h4 := h3 b hbS
      show b ∈ (if nm = nm then fp (0, k.2) else _)
      rw [if_pos rfl]
      have : k = (0, k.2) := by rw [← hk]
      rw [this] at h4
      exact h4
  induction d with
  | nil => intro xs h; exact h
  | lit v r ih => rintro xs ⟨h0, ys, rfl, h⟩; exact ⟨h0, ys, rfl, ih h⟩
  | nilr sz e r ih => rintro xs ⟨ys, rfl, h⟩; exact ⟨ys, rfl, ih h⟩
  | row k sz e x r ih => rintro xs ⟨h0, v, ys, rfl, h1, h2, h⟩; exact ⟨h0, v, ys, rfl, h1, how _ _ _ h2, ih h⟩
  | seg k d r ih => rintro xs ⟨h0, ys, zs, rfl, h1, h2, h⟩; exact ⟨h0, ys, zs, rfl, h1, how _ _ _ h2, ih h⟩
  | blk k v sz e x r _ ih =>
    rintro xs ⟨h0, h9, v, ys, rfl, h1, ⟨cur, h2, h3, -⟩, h⟩
    by_cases hk : k = 0
    · simp [resGh, hk] at h2
      omega
    · simp [resGh, hk] at h2
theorem RepV.ren {g : Gh} {nm : Nat} {w' : World} {fp : Tk → List Nat} (hb : g.base ≤ g.w.heap.size) {r : AV} : ∀ {xs : List Value}, r.plain = true → RepV (resGh g.F g.w w' fp) r xs → RepV (callGh g nm w' fp) (r.ren nm) xs := by
  induction r with
  | junk => intro xs _ h; exact h
  | v x => intro xs _ h; exact h
  | c d => intro xs _ h; exact RepC.ren hb h
  | agg d => rintro xs _ ⟨ys, rfl, h⟩; exact ⟨ys, rfl, h.ren hb⟩
  | bx k o => intro xs h; cases h
  | el x => intro xs h; cases h
  | nil => intro xs _ h; exact h
  | cons a r iha ihr =>
    rintro xs hp ⟨y, ys, rfl, h1, h2⟩
    simp only [AV.plain, Bool.and_eq_true] at hp
    exact ⟨y, ys, rfl, iha hp.1 h1, ihr hp.2 h2⟩
  | tup l ih => rintro xs hp ⟨ys, rfl, h⟩; exact ⟨ys, rfl, ih hp h⟩
  | fn f a b iha ihb =>
    rintro xs hp ⟨ys, zs, rfl, h1, h2⟩
    simp only [AV.plain, Bool.and_eq_true] at hp
    exact ⟨ys, zs, rfl, iha hp.1 h1, ihb hp.2 h2⟩
theorem callGh_ok {g : Gh} (hI : Inv g) {nm : Nat} (hn : g.st.τ nm = none) {w' : World} {fp : Tk → List Nat} (hb : Below g.w.heap.size g.w w') (h1 : ∀ k b, b ∈ fp k → g.w.heap.size ≤ b ∧ b < w'.heap.size) (h2 : ∀ k k' b, b ∈ fp k → b ∈ fp k' → k = k') (av : AV) :
    Ext g (callGh g nm w' fp) { av := av, tu := some (nm, 0) } := by
  have hτ : ∀ k, g.st.τ k ≠ none → k ≠ nm := fun k hk e => hk (e ▸ hn)
  have hF : ∀ b, b < g.w.heap.size → ∀ o, (callGh g nm w' fp).F b o = g.F b o := fun b hb' o => if_pos hb'
  have hlt : ∀ k, g.st.bx k ≠ none → g.B k < g.w.heap.size := fun k hk => by
    obtain ⟨⟨T', d'⟩, e⟩ := Option.ne_none_iff_exists'.1 hk
    obtain ⟨-, -, xs', h1, -⟩ := hI.box k T' d' e
    exact (Array.getElem?_eq_some_iff.1 h1).1
  have hτ' : ∀ k, k ≠ nm → (callGh g nm w' fp).st.τ k = g.st.τ k := fun k hk => if_neg hk
  have hfp' : ∀ k : Tk, k.1 ≠ nm → (callGh g nm w' fp).fp k = g.fp k := fun k hk => if_neg hk
  have hfpn : ∀ j, (callGh g nm w' fp).fp (nm, j) = fp (0, j) := fun j => if_pos rfl
  have ht : Tr g (callGh g nm w' fp) := ⟨fun b o v hb' h => by rw [hF b hb']; exact h, hb.size, rfl, fun b hb' => hb.block b (Nat.lt_of_lt_of_le hb' hI.base), fun b o hb' => hF b (Nat.lt_of_lt_of_le hb' hI.base) o, fun k hk => ⟨hk, rfl⟩,
    fun k ver hv => by
      have hk := hτ k (by rw [hv]; simp)
      refine .inl ⟨(hτ' k hk).trans hv, fun j b hb' => ?_⟩
      have hl := (hI.fpb k j b (by rw [hv]; simp) hb').2.1
      exact ⟨by rw [hfp' (k, j) hk]; exact hb', hb.block b hl, fun o ho => by rw [hF b hl]; exact ho⟩⟩
  have hcase : ∀ (k : Tk) b, (callGh g nm w' fp).st.τ k.1 ≠ none → b ∈ (callGh g nm w' fp).fp k → (k.1 = nm ∧ b ∈ fp (0, k.2)) ∨ (k.1 ≠ nm ∧ g.st.τ k.1 ≠ none ∧ b ∈ g.fp k) := fun k b hk hb' => by
    by_cases e : k.1 = nm
    · refine .inl ⟨e, ?_⟩
      have : (callGh g nm w' fp).fp k = fp (0, k.2) := if_pos e
      rw [← this]; exact hb'
    · exact .inr ⟨e, by rw [← hτ' _ e]; exact hk, by rw [← hfp' k e]; exact hb'⟩
  refine ⟨⟨?_, Nat.le_trans hI.base hb.size, ?_, hI.inj, ?_, ?_⟩, ht, hb.mono hI.base, rfl, rfl⟩
  · intro b o v h
    by_cases hbs : b < g.w.heap.size
    · rw [hF b hbs] at h
      exact U_below hb b o v hbs (hI.F _ _ _ h)
    · have : (callGh g nm w' fp).F b o = U w' b o := if_neg hbs
      rw [this] at h; exact h
  · intro k T' d' e'
    obtain ⟨k1, k2, xs', k3, k4⟩ := hI.box k T' d' e'
    refine ⟨k1, fun o => ?_, xs', (hb.block _ (Array.getElem?_eq_some_iff.1 k3).1).trans k3, k4.tr ht⟩
    have hl : g.B k < g.w.heap.size := (Array.getElem?_eq_some_iff.1 k3).1
    rw [show (callGh g nm w' fp).B k = g.B k from rfl, hF _ hl]
    exact k2 o
  · intro k j b hk hb'
    rcases hcase (k, j) b hk hb' with ⟨-, h3⟩ | ⟨-, h3, h4⟩
    · obtain ⟨h5, h6⟩ := h1 _ _ h3
      exact ⟨Nat.le_trans hI.base h5, h6, fun i hi => by have := hlt i hi; show _ ≠ g.B i; omega⟩
    · obtain ⟨h5, h6, h7⟩ := hI.fpb k j b h3 h4
      exact ⟨h5, Nat.lt_of_lt_of_le h6 hb.size, h7⟩
  · intro k k' b h3 h4 h5 h6
    rcases hcase k b h3 h5 with ⟨e1, h7⟩ | ⟨-, h7, h8⟩ <;> rcases hcase k' b h4 h6 with ⟨e2, h9⟩ | ⟨-, h9, h10⟩
    · have := h2 _ _ _ h7 h9
      have e3 : k.2 = k'.2 := by simpa using this
      exact Prod.ext (e1.trans e2.symm) e3
    · exact absurd (hI.fpb k'.1 k'.2 b h9 h10).2.1 (by have := (h1 _ _ h7).1; omega)
    · exact absurd (hI.fpb k.1 k.2 b h7 h8).2.1 (by have := (h1 _ _ h9).1; omega)
    · exact hI.fpd k k' b h7 h9 h8 h10

/-- A step is right. -/
def StepOk (P : Program) (g : Gh) (a : Act) (o : Oper) (out : Out) : Prop := ∀ (next : Act → World → Prop) (Q : Exit → Act → World → Prop), (∀ v g', Ext g g' out → RepV g' out.av [v] → next (a.put o.dst v) g'.w) → o.wp P a g.w next Q
theorem CalmOk.step {g : Gh} {a : Act} {o : Oper} {out : Out} (h : CalmOk P g a o out) : StepOk P g a o out := by
  obtain ⟨v, g', h1, h2, h3⟩ := h
  intro next Q hn
  unfold Oper.wp
  rw [h1]
  exact hn v g' h2 h3
/-- What is called: a function, with what is bound ahead and behind. -/
def calleeOf : AV → Option (Nat × AV × AV)
  | .v (.func (.func f) ⟨x⟩ ⟨y⟩) => some (f, AV.list (x.map .v), AV.list (y.map .v))
  | .fn (.func f) x y => some (f, x, y)
  | _ => none
theorem call_step {g : Gh} (hI : Inv g) (hG : G g.w) {a : Act} {ρ : Operand → AV} (hρ : ∀ x, RepV g (ρ x) [a.eval x]) {o : Oper} {fo : Operand} {xs : Array Operand} {ts : Array TypeId} (ho : o.op = .call { callee := .value fo, args := xs, argTypes := ts })
    {f : Nat} {x y : AV} (hf : calleeOf (ρ fo) = some (f, x, y)) (hx : x.isLL = true) (hy : y.isLL = true) {avs r : AV} (hH : Holds P G f avs r) (ha : (x.app ((AV.list (xs.toList.map ρ)).app y)).arg g.st.bx avs) {nm : Nat} (hn : g.st.τ nm = none) :
    StepOk P g a o { av := r.ren nm, tu := some (nm, 0) } := by
  obtain ⟨⟨fn, k1, k2, k3⟩, hp, hC⟩ := hH
  have hfo := hρ fo
  obtain ⟨v1, v2, e1, hv1, hv2⟩ : ∃ v1 v2 : List Value, a.eval fo = .func (.func f) v1.toArray v2.toArray ∧ RepV g x v1 ∧ RepV g y v2 := by
    unfold calleeOf at hf
    split at hf
    · rename_i f' x' y' hq
      cases hf
      rw [hq] at hfo
      have hl : ∀ l : List Value, RepV g (AV.list (l.map .v)) l := fun l => by
        induction l with
        | nil => rfl
        | cons u l ih => exact ⟨u, l, rfl, rfl, ih⟩
      exact ⟨x', y', by simpa [RepV] using hfo, hl x', hl y'⟩
    · rename_i f' x' y' hq
      cases hf
      rw [hq] at hfo
      obtain ⟨ys, zs, e, h1, h2⟩ := hfo
      exact ⟨ys, zs, by simpa using e, h1, h2⟩
    · cases hf
  have hargs : RepV g (x.app ((AV.list (xs.toList.map ρ)).app y)) (v1 ++ (xs.toList.map a.eval ++ v2)) := RepV.app (RepV.app hv2 (RepV.list hρ xs.toList) (list_isLL _)) hv1 hx
  have hrep := arg_rep hI hargs ha
  have hcall := hC g.F g.w _ hI.F hG hrep
  have hrun : (execOp a.eval o).run P g.w = .ok (.enter f (v1 ++ (xs.toList.map a.eval ++ v2)).toArray) g.w := by
    obtain ⟨dst, op, ty, pos, after, guard⟩ := o
    simp only at ho
    subst ho
    have ea : (v1 ++ (xs.toList.map a.eval ++ v2)).toArray = v1.toArray ++ xs.map a.eval ++ v2.toArray := by
      apply Array.ext'; simp
    rw [ea]
    simp [execOp, resolve, e1, Deferred.ofValue, invoke, callFunc, k1, k2, k3]
  intro next Q hnext
  unfold Oper.wp
  rw [hrun]
  refine hcall.mono ?_
  rintro e w' ⟨v, fp, rfl, hb, hr, h1, h2⟩
  exact hnext v (callGh g nm w' fp) (callGh_ok hI hn hb h1 h2 _) (hr.ren hI.base hp)

/-- A store into a variable of the call's own. -/
def astore (tb : TB) (ρ : Operand → AV) (cont : Option (Nat × Dc)) : Op → Option (Prop × Out)
  | .store T ad x => match ρ ad, cont, asC tb T (ρ x), tb T with
    | .bx k off, some (T0, d), some (c, p), some y => match d.over off p with
      | some d' => some (c ∧ p.ln = y.size, { av := .v undef, bu := some (k, T0, d') })
      | none => none
    | _, _, _, _ => none
  | _ => none
theorem store_step {g : Gh} (hT : TbOk P tb) (hI : Inv g) {a : Act} {ρ : Operand → AV} (hρ : ∀ x, RepV g (ρ x) [a.eval x]) {o : Oper} {cont : Option (Nat × Dc)} (hc : ∀ T ad x k off, o.op = .store T ad x → ρ ad = .bx k off → cont = g.st.bx k)
    {c : Prop} {out : Out} (h : astore tb ρ cont o.op = some (c, out)) (hcc : c) : StepOk P g a o out := by
  obtain ⟨dst, op, ty, pos, after, guard⟩ := o
  cases op <;> simp only [astore] at h <;> try (cases h; done)
  case store T ad x =>
    split at h
    · rename_i k off T0 d c0 p y hk hx hy
      split at h
      · rename_i d' hd'
        cases h
        obtain ⟨hc0, hpl⟩ := hcc
        have hbx : g.st.bx k = some (T0, d) := (hc T ad x k off rfl hk).symm
        obtain ⟨k1, k2, xs, k3, k4⟩ := hI.box k T0 d hbx
        have hv := asC_rep (hρ x) hx hc0
        have hr := over_rep k4 hv hd'
        have hle : off + p.ln ≤ xs.length := by
          unfold Dc.over at hd'
          split at hd'
          · rename_i h3
            have := tk_le _ h3
            rw [k4.len]; exact this
          · cases hd'
        have hln : (a.eval x).cells.toList.length = p.ln := hv.len
        have hp := hρ ad
        rw [hk] at hp
        have ea : a.eval ad = .pointer (some ⟨g.B k, off, none⟩) := by simpa using hp.1
        obtain ⟨i, dd, i1, -, -, -, i5, -⟩ := ty_info hT hy
        have hst := run_storeCells_at P (g.B k) off T0 (a.eval x).cells.toList 0 xs.toArray g.w k3 (by simp at hln ⊢; omega) hv.one
        obtain ⟨W, hW⟩ : ∃ W, g.w.setRow (g.B k) (xs.toArray.toList.take (off + 0) ++ (a.eval x).cells.toList ++ xs.toArray.toList.drop (off + 0 + (a.eval x).cells.toList.length)).toArray = W := ⟨_, rfl⟩
        rw [hW] at hst
        have hcs : xs.toArray.toList.take (off + 0) ++ (a.eval x).cells.toList ++ xs.toArray.toList.drop (off + 0 + (a.eval x).cells.toList.length) = xs.take off ++ ((a.eval x).cells.toList ++ xs.drop (off + (a.eval x).cells.toList.length)) := by simp
        rw [hcs] at hW
        have hblk : W.heap[g.B k]? = some (.cells (xs.take off ++ ((a.eval x).cells.toList ++ xs.drop (off + (a.eval x).cells.toList.length))).toArray T0 (0, 0)) := by rw [← hW]; exact setRow_heap g.w (g.B k) _ _ T0 _ k3
        have hoth : ∀ b, b ≠ g.B k → W.heap[b]? = g.w.heap[b]? := fun b hb => by rw [← hW]; exact setRow_other g.w (g.B k) b _ hb
        have hsz : W.heap.size = g.w.heap.size := by rw [← hW]; simp
        have hrun : (execOp a.eval { dst := dst, op := Op.store T ad x, type := ty, pos := pos, after := after, guard := guard }).run P g.w = .ok .skip W := by
          have hsize : (a.eval x).cells.size = i.size := by rw [i5, ← hpl, ← hln]; simp
          simp [execOp, ea, Instr.storeAt, Instr.sureAddr, storeVar, sizeOf, typeInfo, i1, hsize, hst]
        intro next Q hn
        unfold Oper.wp
        rw [hrun]
        let g' : Gh := { g with st := { g.st with bx := upd g.st.bx k (T0, d') }, w := W }
        have hbk : ∀ j, g.st.bx j ≠ none → g'.st.bx j ≠ none := fun j hj => by
          show upd g.st.bx k (T0, d') j ≠ none
          unfold upd; split
          · simp
          · exact hj
        have hkb : ∀ j, g'.st.bx j ≠ none → g.st.bx j ≠ none := fun j hj => by
          by_cases e : j = k
          · rw [e, hbx]; simp
          · have : g'.st.bx j = g.st.bx j := if_neg e
            rwa [this] at hj
        have hFU : ∀ b o v, g.F b o = some v → b ≠ g.B k := fun b o v h e => by rw [e, k2 o] at h; cases h
        have ht : Tr g g' := ⟨fun _ _ _ _ h => h, by rw [show g'.w = W from rfl, hsz]; exact Nat.le_refl _, rfl, fun b hb => hoth b (by omega), fun _ _ _ => rfl, fun j hj => ⟨hbk j hj, rfl⟩,
          fun j ver hv => .inl ⟨hv, fun i b hb => ⟨hb, hoth b ((hI.fpb j i b (by rw [hv]; simp) hb).2.2 k (by rw [hbx]; simp)), fun _ h => h⟩⟩⟩
        refine hn undef g' ⟨⟨?_, ?_, ?_, ?_, ?_, hI.fpd⟩, ht, ⟨?_, ?_, ?_, ?_, ?_⟩, rfl, rfl⟩ rfl
        · intro b o v h
          exact (U_block (hoth b (hFU b o v h)) o).trans (hI.F b o v h)
        · rw [show g'.w = W from rfl, hsz]; exact hI.base
        · intro j T' d'' e
          by_cases ej : j = k
          · subst ej
            have : g'.st.bx j = some (T0, d') := if_pos rfl
            rw [this] at e
            cases e
            exact ⟨k1, k2, _, hblk, hr.tr ht⟩
          · have : g'.st.bx j = g.st.bx j := if_neg ej
            rw [this] at e
            obtain ⟨j1, j2, xs', j3, j4⟩ := hI.box j T' d'' e
            refine ⟨j1, j2, xs', (hoth _ (fun e2 => ej (hI.inj j k (by rw [e]; simp) (by rw [hbx]; simp) e2))).trans j3, j4.tr ht⟩
        · exact fun i j hi hj e => hI.inj i j (hkb i hi) (hkb j hj) e
        · intro j i b hj hb
          obtain ⟨m1, m2, m3⟩ := hI.fpb j i b hj hb
          exact ⟨m1, by rw [show g'.w = W from rfl, hsz]; exact m2, fun q hq => m3 q (hkb q hq)⟩
        · rw [show g'.w = W from rfl, ← hW]; rfl
        · rw [show g'.w = W from rfl, ← hW]; rfl
        · rw [show g'.w = W from rfl, ← hW]; rfl
        · rw [show g'.w = W from rfl, hsz]; exact Nat.le_refl _
        · exact fun b hb => hoth b (by omega)
      · cases h
    · cases h
end Go.Proofs.YtkcmapimcgppmaaGreatDoor
end
section
namespace Go.Proofs.YtkcmapimcgppmaaGreatDoor
open Go.RowKit

variable {P : Program} {tb : TB}

/-- append: in its row, or in a new one; the old one stays. -/
theorem append_law (w : World) (base : Nat) (t ty e : TypeId) (i : TypeInfo) (z : Value) (size : Nat) (ht : P.underlying t = some (.slice e)) (hi : P.info? e = some i) (hz : i.zero = some z)
    (hsize : i.size = size) (hzs : z.cells.size = size) (hsz : 0 < size) (v : Value) (n : Nat) (xs : List Value) (hown : w.ownsRow base e size v n xs)
    (x : Value) (m : Nat) (news : List Value) (hx : (x = .slice none 0 0 ∧ m = 0) ∨ ∃ a c, x = .slice (some a) m c ∧ ∀ j u, news[j]? = some u → w.cell? (a.add j) = some u) (hl : news.length = m * size) (h1 : ∀ u ∈ news, u.oneCell' = true)
    (h63 : n + m ≤ 1000000000) (hby : i.bytes ≤ 1000) (hbase : base ≤ w.heap.size) :
    ∃ v' w', (Builtin.append_ #[t, t] ty #[v, x]).run P w = .ok v' w' ∧ w'.ownsRow base e size v' (n + m) (xs ++ news) ∧
      ((v'.ownBlock = v.ownBlock ∧ w.grownBy w' v.ownBlock) ∨ (v'.ownBlock = some w.heap.size ∧ Below w.heap.size w w')) := by
  subst hsize
  have hlen : (xs ++ news).length = (n + m) * i.size := by rw [List.length_append, hown.1, hl, Nat.add_mul]
  have hmb : (n + m) * i.bytes ≤ 1000000000 * 1000 := Nat.mul_le_mul h63 hby
  have hmm : n + m ≤ maxLen := by unfold maxLen; omega
  rcases hx with ⟨rfl, rfl⟩ | ⟨a, c, rfl, hnews⟩
  · have hn : news = [] := List.eq_nil_of_length_eq_zero (by simpa using hl)
    subst hn
    refine ⟨v, w, ?_, by simpa using hown, .inl ⟨rfl, ⟨rfl, rfl, rfl, Nat.le_refl _, fun _ _ _ => rfl⟩⟩⟩
    exact run_append_owned_none w base t ty e i i.size ht hi v n xs hown
  · have grown : ∀ (old : Nat), old < n + m →
        (w.drew.alloc (.cells (xs.toArray ++ news.toArray ++ Builtin.zeroCells z.cells (grownCap w (n + m) old e - (n + m))) e)).ownsRow base e i.size
          (.slice (some ⟨w.heap.size, 0, none⟩) (n + m) (grownCap w (n + m) old e)) (n + m) (xs ++ news) := by
      intro old ho
      have hge := grownCap_ge w (n + m) old e
      have hcm : grownCap w (n + m) old e ≤ maxLen := grownCap_le_maxLen w (n + m) old e hmm
      refine ⟨hlen, .inr ⟨w.heap.size, _, _, rfl, hbase, heap_alloc_new w.drew _, hge, hcm, ?_, ?_⟩⟩
      · simp only [Array.size_append, List.size_toArray, size_zeroCells, hzs, hown.1, hl, ← Nat.add_mul]
        congr 1
        omega
      · simp only [Array.toList_append, List.append_assoc]
        rw [← List.append_assoc, ← hlen]
        exact List.take_left
    have hbel : ∀ o, Below w.heap.size w (w.drew.alloc o) := fun o => below_step (below_drew w) (below_alloc w.drew o)
    rcases hown.2 with ⟨rfl, rfl⟩ | ⟨g, cap, cur, rfl, hbg, hg, hnc, hcm, hcs, htake⟩
    · have hx : xs = [] := List.eq_nil_of_length_eq_zero (by simpa using hown.1)
      subst hx
      by_cases hm : m = 0
      · subst hm
        have hn : news = [] := List.eq_nil_of_length_eq_zero (by simpa using hl)
        subst hn
        refine ⟨.slice none 0 0, w, ?_, World.ownsRow_nil w base e i.size, .inl ⟨rfl, ⟨rfl, rfl, rfl, Nat.le_refl _, fun _ _ _ => rfl⟩⟩⟩
        simp [Builtin.append_, run_underlying ht, sizeOf, typeInfo, hi, Builtin.lenOf, Builtin.firstCells, loadCells, loadCellsFrom]
      · have hr := run_append_nil (P := P) w t ty e i z ht hi hz a m c news hl hnews (by omega) (by omega) (by have := Nat.le_trans (Nat.mul_le_mul_right i.bytes (by omega : m ≤ 0 + m)) hmb; omega)
        have hgr := grown 0 (by omega)
        simp only [Nat.zero_add, List.nil_append, Array.empty_append] at hgr ⊢
        exact ⟨_, _, hr, hgr, .inr ⟨rfl, hbel _⟩⟩
    · by_cases hroom : n + m ≤ cap
      · have hfit : n * i.size + news.length ≤ cur.size := by rw [hl, hcs, ← Nat.add_mul]; exact Nat.mul_le_mul_right _ hroom
        have hr := run_append_room (P := P) w t ty e i ht hi g n cap cur hg a m c news hl hnews h1 hroom hfit
        refine ⟨_, _, hr, ⟨hlen, .inr ⟨g, cap, _, rfl, hbg, setRow_heap w g cur _ e _ hg, hroom, hcm, ?_, ?_⟩⟩, .inl ⟨rfl, ⟨rfl, rfl, rfl, by simp, fun k _ hk => setRow_other w g k _ (fun e => hk (by simp [Value.ownBlock, e]))⟩⟩⟩
        · simp only [List.size_toArray, List.length_append, List.length_take, List.length_drop, Array.length_toList]
          omega
        · rw [htake, ← hlen]
          exact List.take_left
      · have holds : ∀ j u, xs[j]? = some u → w.cell? ((⟨g, 0, none⟩ : Addr).add j) = some u := hown.cells (g := g) rfl
        have hr := run_append_grow (P := P) w t ty e i z ht hi hz ⟨g, 0, none⟩ n cap xs hown.1 holds a m c news hl hnews (by omega) (by omega) (growslice_fits (by omega) (by omega))
        exact ⟨_, _, hr, grown cap (by omega), .inr ⟨rfl, hbel _⟩⟩

theorem len_nil {x : Ds} (h : x.len = 0) : x = .nil := by cases x <;> simp [Ds.len] at h ⊢
/-- The elements of a row. -/
theorem row_elems {g : Gh} (hI : Inv g) {k : Option Tk} {sz e : Nat} {d : Ds} {v : Value} (h : RepC g (.row k sz e d .nil) [v]) : ∃ m ys, m * sz = d.len ∧ RepC g (.seg k d .nil) ys ∧ ((v = .slice none 0 0 ∧ m = 0) ∨ ∃ a c, v = .slice (some a) m c ∧ ∀ j u, ys[j]? = some u → g.w.cell? (a.add j) = some u) := by
  obtain ⟨h0, v', ys', e1, ⟨p, m, c, rfl, h2, h3, h4, -, h5⟩, how, -⟩ := h
  cases e1
  by_cases hd : d.len = 0
  · have := len_nil hd
    subst this
    refine ⟨m, [], h2, ⟨trivial, [], [], rfl, rfl, fun j e => ?_, rfl⟩, ?_⟩
    · obtain ⟨h6, -⟩ := how j e
      exact ⟨h6, [], ⟨rfl, rfl⟩, by simp, fun b hb => by cases hb⟩
    · rcases h5 with ⟨rfl, rfl⟩ | ⟨rfl, -, hp⟩ | ⟨b, o, rfl, -⟩
      · left; exact ⟨by rw [show m = 0 by omega], by omega⟩
      · obtain ⟨a, rfl⟩ := Option.ne_none_iff_exists'.1 hp
        exact .inr ⟨a, c, rfl, fun j u hu => by simp at hu⟩
      · exact .inr ⟨_, c, rfl, fun j u hu => by simp at hu⟩
  · rcases h5 with ⟨rfl, rfl⟩ | ⟨rfl, -⟩ | ⟨b, o, rfl, hb, hat, -⟩
    · obtain rfl : m = 0 := by omega
      omega
    · omega
    · obtain ⟨ys, h6, h7⟩ := At.vsx hat
      refine ⟨m, ys, h2, ⟨h0, ys, [], by simp, h6, fun j e => ?_, rfl⟩, .inr ⟨_, c, rfl, fun j u hu => ?_⟩⟩
      · obtain ⟨h8, S, h9, h10, h11⟩ := how j e
        obtain ⟨v2, us, zs, us', B, S1, S2, S3, e2, hr, ho1, ho2, ho3, rfl⟩ := h9
        cases e2
        refine ⟨h8, S1, ?_, (List.nodup_append.1 (List.nodup_append.1 h10).2.1).1, fun b hb => h11 b (by simp [hb])⟩
        have hzl := ho1.len
        have hzs : zs = ys := by
          rcases hr with ⟨p, e3, h12, -⟩ | ⟨g0, n', cap', cur', -, e3, -, hg0, -, -, -, -, -, -, htk⟩
          · exact absurd h12 hd
          · cases e3
            apply List.ext_getElem?
            intro j
            cases hj : ys[j]? with
            | none =>
              have : ys.length ≤ j := by simpa using hj
              rw [h6.len] at this
              simp; omega
            | some u =>
              have h13 := hI.F _ _ _ (h7 j u hj)
              have hjl : j < zs.length := by
                have := (List.getElem?_eq_some_iff.1 hj).1
                rw [h6.len] at this
                omega
              have h14 := row_cell hg0 htk j zs[j] (by rw [List.getElem?_append_left hjl]; simp)
              rw [h13] at h14
              cases h14
              simp
        rw [← hzs]; exact ho1
      · rw [Addr.add_mid]; exact U_cell (hI.F _ _ _ (h7 j u hu))

/-- What is appended to: a nil slice; a row of a name, in its version; with its content. -/
def srcOf : AV → Option (Option (Nat × Nat × Nat × Nat) × Dc)
  | .v (.slice none 0 0) => some (none, .nil)
  | .c (.nilr _ _ .nil) => some (none, .nil)
  | .c (.blk k ver sz e x .nil) => some (some (k, ver, sz, e), x)
  | _ => none
/-- What is appended. -/
def elsOf (τ : Nat → Option Nat) (sz : Nat) : AV → Option (Prop × Dc)
  | .v (.slice none 0 0) => some (True, .nil)
  | .c (.nilr _ _ .nil) => some (True, .nil)
  | .c (.row k s _ d .nil) => some (s = sz, .seg k d .nil)
  | .c (.blk k ver s _ x .nil) => some (s = sz ∧ τ k = some ver, x)
  | _ => none
def aapp (tb : TB) (ρ : Operand → AV) (τ : Nat → Option Nat) (nm : Nat) (c : Call) : Option (Prop × Out) :=
  match c.args.toList, c.argTypes.toList with
  | [s, x], [T, T'] => match tb T with
    | some { sh := .sl e, .. } => match tb e with
      | some y => match srcOf (ρ s), elsOf τ y.size (ρ x) with
        | some (none, d), some (c, p) => some (T = T' ∧ 0 < y.size ∧ c ∧ d.ln + p.ln ≤ 1000000000 ∧ τ nm = none, { av := .c (.blk nm 1 y.size e (d.app p) .nil), tu := some (nm, 1) })
        | some (some (k, ver, sz, e'), d), some (c, p) => some (T = T' ∧ 0 < y.size ∧ c ∧ d.ln + p.ln ≤ 1000000000 ∧ τ k = some ver ∧ sz = y.size ∧ e' = e ∧ ver ≠ 0, { av := .c (.blk k (ver + 1) y.size e (d.app p) .nil), tu := some (k, ver + 1) })
        | _, _ => none
      | none => none
    | _ => none
  | _, _ => none
theorem blk_of {g : Gh} {k ver sz e : Nat} {x : Dc} {v : Value} (h : RepC g (.blk k ver sz e x .nil) [v]) (hτ : g.st.τ k = some ver) : x.ds.good ∧ ver ≠ 0 ∧ ∃ n zs, g.w.ownsRow g.base e sz v n zs ∧ RepC g x zs ∧ ∀ b, v.ownBlock = some b → b ∈ g.fp (k, 0) ∧ ∀ o, zs.length ≤ o → g.F b o = none := by
  obtain ⟨h0, h9, v', ys, e1, -, ⟨cur, h2, -, h4⟩, -⟩ := h
  cases e1
  rw [hτ] at h2
  cases h2
  exact ⟨h0, h9, h4 rfl⟩
theorem els_rep {g : Gh} (hI : Inv g) {x : AV} {v : Value} {c : Prop} {p : Dc} {sz : Nat} (hx : RepV g x [v]) (h : elsOf g.st.τ sz x = some (c, p)) (hc : c) : ∃ m ys, RepC g p ys ∧ ys.length = m * sz ∧
    ((v = .slice none 0 0 ∧ m = 0) ∨ ∃ a k, v = .slice (some a) m k ∧ ∀ j u, ys[j]? = some u → g.w.cell? (a.add j) = some u) := by
  unfold elsOf at h
  split at h
  · cases h
    have e : v = .slice none 0 0 := by simpa [RepV] using hx
    exact ⟨0, [], rfl, by simp, .inl ⟨e, rfl⟩⟩
  · cases h
    obtain ⟨ys, e, -⟩ := hx
    cases e
    exact ⟨0, [], rfl, by simp, .inl ⟨rfl, rfl⟩⟩
  · cases h
    obtain ⟨m, ys, h1, h2, h3⟩ := row_elems hI (hx : RepC g _ _)
    refine ⟨m, ys, h2, ?_, h3⟩
    rw [h2.len, ← hc, h1]; rfl
  · cases h
    obtain ⟨-, -, n, zs, h1, h2, -⟩ := blk_of (hx : RepC g _ _) hc.2
    refine ⟨n, zs, h2, by rw [h1.1, hc.1], ?_⟩
    rcases h1.2 with ⟨rfl, rfl⟩ | ⟨g0, cap, cur, rfl, -⟩
    · exact .inl ⟨rfl, rfl⟩
    · exact .inr ⟨_, cap, rfl, fun j u hu => h1.cells (g := g0) rfl j u hu⟩
  · cases h
theorem src_rep {g : Gh} {s : AV} {v : Value} {q : Option (Nat × Nat × Nat × Nat)} {d : Dc} {sz e : Nat} (hs : RepV g s [v]) (h : srcOf s = some (q, d)) (hq : ∀ k ver sz' e', q = some (k, ver, sz', e') → g.st.τ k = some ver ∧ sz' = sz ∧ e' = e) :
    ∃ n zs, g.w.ownsRow g.base e sz v n zs ∧ RepC g d zs ∧ ∀ b, v.ownBlock = some b → ∃ k ver sz' e', q = some (k, ver, sz', e') ∧ b ∈ g.fp (k, 0) ∧ ver ≠ 0 ∧ ∀ o, zs.length ≤ o → g.F b o = none := by
  unfold srcOf at h
  split at h
  · cases h
    have e : v = .slice none 0 0 := by simpa [RepV] using hs
    subst e
    exact ⟨0, [], World.ownsRow_nil _ _ _ _, rfl, fun b hb => by cases hb⟩
  · cases h
    obtain ⟨ys, e, -⟩ := hs
    cases e
    exact ⟨0, [], World.ownsRow_nil _ _ _ _, rfl, fun b hb => by cases hb⟩
  · rename_i k ver sz' e' x
    cases h
    obtain ⟨h1, rfl, rfl⟩ := hq _ _ _ _ rfl
    obtain ⟨-, h9, n, zs, h2, h3, h4⟩ := blk_of (hs : RepC g _ _) h1
    exact ⟨n, zs, h2, h3, fun b hb => ⟨_, _, _, _, rfl, (h4 b hb).1, h9, (h4 b hb).2⟩⟩
  · cases h

/-- The ghost behind an append. -/
def appGh (g : Gh) (k ver : Nat) (w' : World) (ob : Option Nat) (cs : List Value) : Gh :=
  { st := { g.st with τ := upd g.st.τ k ver }, F := fun b o => if some b = ob then cs[o]? else g.F b o, w := w', base := g.base, fp := fun q => if q.1 = k then (if q.2 = 0 then ob.toList else []) else g.fp q, B := g.B }
theorem appGh_ok {g : Gh} (hI : Inv g) {k ver sz e : Nat} {n : Nat} {v v' : Value} {w' : World} {zs ys : List Value} {d p : Dc} (hd : RepC g d zs) (hp : RepC g p ys) (hzs : g.w.ownsRow g.base e sz v n zs) {m : Nat}
    (hown : w'.ownsRow g.base e sz v' m (zs ++ ys)) (hv0 : ver ≠ 0)
    (hold : (g.st.τ k = none ∧ v.ownBlock = none) ∨ ∃ v0, g.st.τ k = some v0 ∧ v0 ≠ 0 ∧ v0 < ver ∧ ∀ b, v.ownBlock = some b → b ∈ g.fp (k, 0) ∧ ∀ o, zs.length ≤ o → g.F b o = none)
    (hcase : (v'.ownBlock = v.ownBlock ∧ g.w.grownBy w' v.ownBlock) ∨ (v'.ownBlock = some g.w.heap.size ∧ Below g.w.heap.size g.w w')) (av : AV) :
    Ext g (appGh g k ver w' v'.ownBlock (zs ++ ys)) { av := av, tu := some (k, ver) } ∧ RepC (appGh g k ver w' v'.ownBlock (zs ++ ys)) (.blk k ver sz e (d.app p) .nil) [v'] := by
  obtain ⟨ob, hob⟩ : ∃ ob, v'.ownBlock = ob := ⟨_, rfl⟩
  rw [hob] at hcase ⊢
  obtain ⟨g', hg'⟩ : ∃ g', appGh g k ver w' ob (zs ++ ys) = g' := ⟨_, rfl⟩
  have hF1 : ∀ b o, ob = some b → g'.F b o = (zs ++ ys)[o]? := fun b o e => by rw [← hg']; exact if_pos e.symm
  have hF2 : ∀ b o, ob ≠ some b → g'.F b o = g.F b o := fun b o e => by rw [← hg']; exact if_neg fun h => e h.symm
  have hw : g'.w = w' := by rw [← hg']; rfl
  have hbase : g'.base = g.base := by rw [← hg']; rfl
  have hB : g'.B = g.B := by rw [← hg']; rfl
  have hbx : g'.st.bx = g.st.bx := by rw [← hg']; rfl
  have hτ : g'.st.τ = upd g.st.τ k ver := by rw [← hg']; rfl
  have hτ1 : ∀ j, j ≠ k → g'.st.τ j = g.st.τ j := fun j hj => by rw [hτ]; exact if_neg hj
  have hf1 : ∀ q : Tk, q.1 ≠ k → g'.fp q = g.fp q := fun q hq => by rw [← hg']; exact if_neg hq
  have hf2 : g'.fp (k, 0) = ob.toList := by rw [← hg']; show (if k = k then _ else _) = _; rw [if_pos rfl, if_pos rfl]
  have hf3 : ∀ i, i ≠ 0 → g'.fp (k, i) = [] := fun i hi => by rw [← hg']; show (if k = k then _ else _) = _; rw [if_pos rfl, if_neg hi]
  rw [hg']
  clear hg'
  have hvo : ∀ b, v.ownBlock = some b → b ∈ g.fp (k, 0) ∧ g.st.τ k ≠ none ∧ ∀ o, zs.length ≤ o → g.F b o = none := fun b e => by
    rcases hold with ⟨-, h⟩ | ⟨v0, h1, -, -, h2⟩
    · rw [h] at e; cases e
    · exact ⟨(h2 b e).1, by rw [h1]; simp, (h2 b e).2⟩
  have hsz : g.w.heap.size ≤ w'.heap.size := by
    rcases hcase with ⟨-, h⟩ | ⟨-, h⟩
    · exact h.size
    · exact h.size
  have hlt : ∀ i, g.st.bx i ≠ none → g.B i < g.w.heap.size := fun i hi => by
    obtain ⟨⟨T', d'⟩, e⟩ := Option.ne_none_iff_exists'.1 hi
    obtain ⟨-, -, xs', h1, -⟩ := hI.box i T' d' e
    exact (Array.getElem?_eq_some_iff.1 h1).1
  have hobs : ∀ b, ob = some b → b < g.w.heap.size → v.ownBlock = some b := fun b e hb => by
    rcases hcase with ⟨h, -⟩ | ⟨h, -⟩
    · rw [← h]; exact e
    · rw [h] at e; cases e; omega
  have hkeep : ∀ b, b < g.w.heap.size → ob ≠ some b → w'.heap[b]? = g.w.heap[b]? := fun b hb e => by
    rcases hcase with ⟨h, h2⟩ | ⟨-, h⟩
    · exact h2.block b hb (fun e2 => e (by rw [h, ← e2]))
    · exact h.block b hb
  have hcell : ∀ b, ob = some b → ∀ o u, (zs ++ ys)[o]? = some u → U w' b o = some u := fun b e o u hu => by
    rcases hown.2 with ⟨h1, -⟩ | ⟨g0, cap, cur, h1, -, h2, -, -, -, h3⟩
    · rw [h1] at hob; rw [← hob] at e; cases e
    · have : b = g0 := by
        rw [h1] at hob
        rw [← hob] at e
        simpa [Value.ownBlock] using e.symm
      subst this
      have := row_cell h2 (by rw [hown.1]; exact h3) o u hu
      rwa [Nat.zero_add] at this
  have hzcell : ∀ b, v.ownBlock = some b → ∀ o u, zs[o]? = some u → U g.w b o = some u := fun b e o u hu => by
    rcases hzs.2 with ⟨h1, -⟩ | ⟨g0, cap, cur, h1, -, h2, -, -, -, h3⟩
    · rw [h1] at e; cases e
    · have : b = g0 := by rw [h1] at e; simpa [Value.ownBlock] using e.symm
      subst this
      have := row_cell h2 (by rw [hzs.1]; exact h3) o u hu
      rwa [Nat.zero_add] at this
  have hobB : ∀ i, g.st.bx i ≠ none → ob ≠ some (g.B i) := fun i hi e => by
    have h1 := hobs _ e (hlt i hi)
    obtain ⟨h2, h3, -⟩ := hvo _ h1
    exact (hI.fpb k 0 _ h3 h2).2.2 i hi rfl
  have hobj : ∀ j i b, j ≠ k → g.st.τ j ≠ none → b ∈ g.fp (j, i) → ob ≠ some b := fun j i b hj hτj hb e => by
    have h1 := hobs _ e (hI.fpb j i b hτj hb).2.1
    obtain ⟨h2, h3, -⟩ := hvo _ h1
    have := hI.fpd (j, i) (k, 0) b hτj h3 hb h2
    exact hj (by simpa using congrArg Prod.fst this)
  have ht : Tr g g' := by
    refine ⟨fun b o u hb h => ?_, by rw [hw]; exact hsz, hbase, fun b hb => ?_, fun b o hb => hF2 b o fun e => ?_, fun j hj => ⟨by rw [hbx]; exact hj, by rw [hB]⟩, fun j v0 hj => ?_⟩
    · by_cases e : ob = some b
      · rw [hF1 b o e]
        have h1 := hobs b e hb
        have h2 : o < zs.length := by
          apply Nat.lt_of_not_le
          intro hle
          rw [(hvo b h1).2.2 o hle] at h
          cases h
        have h3 := hzcell b h1 o zs[o] (by simp [h2])
        rw [hI.F b o u h] at h3
        cases h3
        rw [List.getElem?_append_left h2]
        simp [h2]
      · rw [hF2 b o e]; exact h
    · rw [hw]
      refine hkeep b (Nat.lt_of_lt_of_le hb hI.base) fun e => ?_
      have h1 := hobs b e (Nat.lt_of_lt_of_le hb hI.base)
      have := (hzs.lt b h1).1
      omega
    · have := (hzs.lt b (hobs b e (Nat.lt_of_lt_of_le hb hI.base))).1
      omega
    · by_cases e : j = k
      · subst e
        rcases hold with ⟨h1, -⟩ | ⟨v1, h1, h2, h3, -⟩
        · rw [h1] at hj; cases hj
        · rw [h1] at hj
          cases hj
          exact .inr ⟨h2, ver, by rw [hτ]; exact if_pos rfl, h3⟩
      · refine .inl ⟨(hτ1 j e).trans hj, fun i b hb => ?_⟩
        have hn := hobj j i b e (by rw [hj]; simp) hb
        refine ⟨by rw [hf1 (j, i) e]; exact hb, by rw [hw]; exact hkeep b (hI.fpb j i b (by rw [hj]; simp) hb).2.1 hn, fun o ho => by rw [hF2 b o hn]; exact ho⟩
  have hcasef : ∀ (q : Tk) b, g'.st.τ q.1 ≠ none → b ∈ g'.fp q → (q = (k, 0) ∧ ob = some b) ∨ (q.1 ≠ k ∧ g.st.τ q.1 ≠ none ∧ b ∈ g.fp q) := fun q b hq hb => by
    by_cases e : q.1 = k
    · obtain ⟨q1, q2⟩ := q
      simp only at e
      subst e
      by_cases e2 : q2 = 0
      · subst e2
        rw [hf2] at hb
        exact .inl ⟨rfl, by simpa using hb⟩
      · rw [hf3 _ e2] at hb; cases hb
    · exact .inr ⟨e, by rw [← hτ1 _ e]; exact hq, by rw [← hf1 q e]; exact hb⟩
  have hdp : RepC g' (d.app p) (zs ++ ys) := (RepC.app hp hd).tr ht
  refine ⟨⟨⟨?_, ?_, ?_, ?_, ?_, ?_⟩, ht, ?_, hbx, hτ⟩, ?_⟩
  · intro b o u h
    rw [hw]
    by_cases e : ob = some b
    · rw [hF1 b o e] at h
      exact hcell b e o u h
    · rw [hF2 b o e] at h
      exact (U_block (hkeep b (hI.lt _ _ _ h) e) o).trans (hI.F b o u h)
  · rw [hbase, hw]; exact Nat.le_trans hI.base hsz
  · intro i T' d' e
    rw [hbx] at e
    obtain ⟨h1, h2, xs', h3, h4⟩ := hI.box i T' d' e
    have hn := hobB i (by rw [e]; simp)
    rw [hB, hbase, hw]
    exact ⟨h1, fun o => by rw [hF2 _ o hn]; exact h2 o, xs', (hkeep _ (hlt i (by rw [e]; simp)) hn).trans h3, h4.tr ht⟩
  · rw [hbx, hB]; exact hI.inj
  · intro j i b hj hb
    rw [hbase, hw, hbx, hB]
    rcases hcasef (j, i) b hj hb with ⟨-, e⟩ | ⟨-, h1, h2⟩
    · have hb2 : b < w'.heap.size := by
        rcases hown.2 with ⟨h1, -⟩ | ⟨g0, cap, cur, h1, -, h2, -⟩
        · rw [h1] at hob; rw [← hob] at e; cases e
        · have : b = g0 := by
            rw [h1] at hob
            rw [← hob] at e
            simpa [Value.ownBlock] using e.symm
          subst this
          exact (Array.getElem?_eq_some_iff.1 h2).1
      exact ⟨(hown.lt b (by rw [hob]; exact e)).1, hb2, fun q hq e2 => hobB q hq (by rw [← e2]; exact e)⟩
    · obtain ⟨h3, h4, h5⟩ := hI.fpb j i b h1 h2
      exact ⟨h3, Nat.lt_of_lt_of_le h4 hsz, h5⟩
  · intro q q' b h1 h2 h3 h4
    rcases hcasef q b h1 h3 with ⟨rfl, e⟩ | ⟨n1, h5, h6⟩ <;> rcases hcasef q' b h2 h4 with ⟨rfl, e'⟩ | ⟨n2, h7, h8⟩
    · rfl
    · exact absurd e (hobj q'.1 q'.2 b n2 h7 h8)
    · exact absurd e' (hobj q.1 q.2 b n1 h5 h6)
    · exact hI.fpd q q' b h5 h7 h6 h8
  · rw [hw]
    rcases hcase with ⟨-, h2⟩ | ⟨-, h⟩
    · exact ⟨h2.os, h2.tape, h2.output, h2.size, fun b hb => h2.block b (Nat.lt_of_lt_of_le hb hI.base) (fun e2 => by have := (hzs.lt b e2.symm).1; omega)⟩
    · exact h.mono hI.base
  · refine ⟨hdp.good, hv0, v', [], rfl, ?_, ⟨ver, by rw [hτ]; exact if_pos rfl, Nat.le_refl _, fun _ => ⟨m, zs ++ ys, by rw [hw, hbase]; exact hown, hdp, fun b e => ?_⟩⟩, rfl⟩
    · have hln : (zs ++ ys).length = (d.app p).ds.len := by rw [Dc.ds_len, hdp.len]
      rw [hw]
      rcases hown.2 with ⟨h1, h2⟩ | ⟨g0, cap, cur, h1, -, h2, h3, h4, h5, h6⟩
      · subst h1
        have : (d.app p).ds = .nil := len_nil (by rw [← hln, hown.1, h2, Nat.zero_mul])
        rw [this]
        exact Rd.none_ _ _ _
      · have e : ob = some g0 := by rw [← hob, h1]; rfl
        refine ⟨_, m, cap, h1, by rw [← hln]; exact hown.1.symm, h3, h4, by rw [← hln, hown.1]; simp only [Ds.len, Nat.add_zero]; exact Nat.mul_le_mul_right _ h3, .inr (.inr ⟨g0, 0, rfl, (Array.getElem?_eq_some_iff.1 h2).1, ?_, trivial⟩)⟩
        have hvs := hdp.vs
        rw [hw] at hvs
        exact hvs.at_ fun j u hu => by rw [Nat.zero_add, hF1 g0 j e]; exact hu
    · rw [hob] at e
      exact ⟨by rw [hf2, e]; simp, fun o ho => by rw [hF1 b o e]; simpa using ho⟩

theorem app_step {g : Gh} (hT : TbOk P tb) (hI : Inv g) {a : Act} {ρ : Operand → AV} (hρ : ∀ x, RepV g (ρ x) [a.eval x]) {o : Oper} {cl : Call} (ho : o.op = .call cl) (hb : cl.callee = .builtin .append) {nm : Nat}
    {c : Prop} {out : Out} (h : aapp tb ρ g.st.τ nm cl = some (c, out)) (hcc : c) : StepOk P g a o out := by
  obtain ⟨dst, op, ty, pos, after, guard⟩ := o
  obtain ⟨callee, xs, ts⟩ := cl
  simp only at ho hb
  subst ho hb
  unfold aapp at h
  simp only at h
  split at h
  · rename_i s x T T' hxs hts
    split at h
    · rename_i e sz by_ zv z hy
      split at h
      · rename_i y hye
        obtain ⟨ii, dd, -, u2, u3, -⟩ := ty_info hT hy
        obtain rfl := sh_sl u3
        obtain ⟨ie, de, v1, -, -, v4, v5, v6, -, v8, v9⟩ := ty_info hT hye
        have exs : xs = #[s, x] := by apply Array.ext'; simpa using hxs
        have ets : ts = #[T, T'] := by apply Array.ext'; simpa using hts
        subst exs ets
        have key : ∀ (q : Option (Nat × Nat × Nat × Nat)) (d p : Dc) (c0 : Prop) (k ver : Nat), srcOf (ρ s) = some (q, d) → elsOf g.st.τ y.size (ρ x) = some (c0, p) → c0 → T = T' → 0 < y.size → d.ln + p.ln ≤ 1000000000 → ver ≠ 0 →
            (∀ k' ver' sz' e', q = some (k', ver', sz', e') → (g.st.τ k' = some ver' ∧ sz' = y.size ∧ e' = e) ∧ k' = k ∧ ver' < ver) → (q = none → g.st.τ k = none) →
            StepOk P g a { dst := dst, op := Op.call { callee := .builtin .append, args := #[s, x], argTypes := #[T, T'] }, type := ty, pos := pos, after := after, guard := guard } { av := .c (.blk k ver y.size e (d.app p) .nil), tu := some (k, ver) } := by
          intro q d p c0 k ver hs hx hc0 hTT h0 hbd hv0 hq hqn
          subst hTT
          obtain ⟨n, zs, r1, r2, r3⟩ := src_rep (sz := y.size) (e := e) (hρ s) hs (fun k' ver' sz' e' he => (hq k' ver' sz' e' he).1)
          obtain ⟨m, ys, q1, q2, q3⟩ := els_rep hI (hρ x) hx hc0
          have hln : zs.length = d.ln := r2.len
          have hlp : ys.length = p.ln := q1.len
          have hnm : n + m ≤ 1000000000 := by
            have h1 := Nat.le_mul_of_pos_right n h0
            have h2 := Nat.le_mul_of_pos_right m h0
            have h3 := r1.1
            omega
          obtain ⟨v', w', hr, hown, hcase⟩ := append_law (P := P) g.w g.base T ty e ie y.zval y.size u2 v1 v4 v5 v8 h0 (a.eval s) n zs r1 (a.eval x) m ys q3 q2 q1.one hnm (by omega) hI.base
          have hrun : (execOp a.eval { dst := dst, op := Op.call { callee := .builtin .append, args := #[s, x], argTypes := #[T, T] }, type := ty, pos := pos, after := after, guard := guard }).run P g.w = .ok (.value v') w' := by
            simp [execOp, resolve, invoke, builtin, hr]
          have hold : (g.st.τ k = none ∧ (a.eval s).ownBlock = none) ∨ ∃ v0, g.st.τ k = some v0 ∧ v0 ≠ 0 ∧ v0 < ver ∧ ∀ b, (a.eval s).ownBlock = some b → b ∈ g.fp (k, 0) ∧ ∀ o, zs.length ≤ o → g.F b o = none := by
            cases q with
            | none =>
              refine .inl ⟨hqn rfl, ?_⟩
              cases hob : (a.eval s).ownBlock with
              | none => rfl
              | some b =>
                obtain ⟨k', ver', sz', e', h1, -⟩ := r3 b hob
                cases h1
            | some q =>
              obtain ⟨k', ver', sz', e'⟩ := q
              obtain ⟨⟨h1, -, -⟩, rfl, h3⟩ := hq _ _ _ _ rfl
              have hv' : ver' ≠ 0 := by
                have hs' := hρ s
                unfold srcOf at hs
                split at hs <;> cases hs
                rename_i hk
                rw [hk] at hs'
                exact (blk_of (hs' : RepC g _ _) h1).2.1
              refine .inr ⟨ver', h1, hv', h3, fun b hb => ?_⟩
              obtain ⟨k2, ver2, sz2, e2, h4, h5, -, h6⟩ := r3 b hb
              cases h4
              exact ⟨h5, h6⟩
          obtain ⟨hext, hrep⟩ := appGh_ok hI (k := k) (ver := ver) r2 q1 r1 hown hv0 hold hcase (.c (.blk k ver y.size e (d.app p) .nil))
          intro next Q hn
          unfold Oper.wp
          rw [hrun]
          exact hn v' _ hext hrep
        split at h
        · rename_i d c0 p hs hx
          cases h
          obtain ⟨h1, h2, h3, h4, h5⟩ := hcc
          exact key none d p c0 nm 1 hs hx h3 h1 h2 h4 (by decide) (fun _ _ _ _ e => by cases e) (fun _ => h5)
        · rename_i k ver sz' e' d c0 p hs hx
          cases h
          obtain ⟨h1, h2, h3, h4, h5, h6, h7, -⟩ := hcc
          exact key _ d p c0 k (ver + 1) hs hx h3 h1 h2 h4 (by omega) (fun _ _ _ _ e => by cases e; exact ⟨⟨h5, h6, h7⟩, rfl, by omega⟩) (fun e => by cases e)
        · cases h
      · cases h
    · cases h
  · cases h
end Go.Proofs.YtkcmapimcgppmaaGreatDoor
end
