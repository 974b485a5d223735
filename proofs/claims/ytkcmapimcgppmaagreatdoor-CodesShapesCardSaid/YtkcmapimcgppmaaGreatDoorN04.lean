/-
  The calm steps are right: operation by operation. Conditions: the table of types is the program's. The calm steps are right, all of them. Conditions: the table of types is the program's. Contracts over data; a call by its contract; a store; an append. Conditions: the table of types is the program's. Conditions: as each lemma states them.
-/
import Derived.Test.YtkcmapimcgppmaaGreatDoorN03
import Derived.Laws.Small
import Derived.Test.YtkcmapimcgppmaaGreatDoorN01
set_option linter.all false
set_option linter.unusedVariables false
set_option linter.unusedSimpArgs false
set_option linter.unnecessarySimpa false
section
namespace Go.Proofs.YtkcmapimcgppmaaGreatDoor
open Go.RowKit

variable {P : Program} {tb : TB} {g : Gh} {a : Act} {ρ : Operand → AV}

theorem Rd.noRoom {F : Mem} {hi : Nat} {v : Value} {sz : Nat} {x s : Ds} (h : Rd F hi v sz x s) : Rd F hi v sz x .nil := by
  obtain ⟨p, n, c, rfl, h2, h3, h4, h5, h6⟩ := h
  refine ⟨p, n, c, rfl, h2, h3, h4, by simp only [Ds.len]; omega, ?_⟩
  rcases h6 with h6 | ⟨h6, -, h7⟩ | ⟨b, o, e, h6, h7, -⟩
  · exact .inl h6
  · exact .inr (.inl ⟨h6, rfl, h7⟩)
  · exact .inr (.inr ⟨b, o, e, h6, h7, trivial⟩)
/-- What is told of a slice and of its room. -/
theorem room_rd {d : AV} {sz : Nat} {x s : Ds} {v : Value} (h : RepV g d [v]) (e : d.room = some (sz, x, s)) : Rd g.F g.w.heap.size v sz x s ∧ x.good ∧ s.good := by
  unfold AV.room at e
  split at e
  · cases e
    obtain ⟨h0, -, v', ys, e1, h1, -⟩ := h
    cases e1
    exact ⟨h1, h0, trivial⟩
  · cases e
    obtain ⟨h0, ys, zs, e1, ⟨v', ys', rfl, h1, rfl⟩, -, rfl⟩ := h
    cases e1
    exact ⟨h1, h0.1, h0.2.1⟩
  · cases e
/-- A row cut anew, within its room. -/
theorem Rd.cut {F : Mem} {hi : Nat} {p : Option Addr} {n c sz : Nat} {x s : Ds} (h : Rd F hi (.slice p n c) sz x s) {r : Nat} (h2 : r * sz ≤ x.len + s.len) (hsz : 0 < sz) :
    Rd F hi (.slice p r c) sz ((x.app s).tk (r * sz)) ((x.app s).dp (r * sz)) := by
  obtain ⟨p', n', c', e, h3, h4, h5, h6, h7⟩ := h
  cases e
  have hr : r ≤ c := Nat.le_of_mul_le_mul_right (by omega) hsz
  have h8 : ((x.app s).tk (r * sz)).len = r * sz := by rw [Ds.tk_len, Ds.app_len]; omega
  have h9 : ((x.app s).dp (r * sz)).len = x.len + s.len - r * sz := by rw [Ds.dp_len, Ds.app_len]
  refine ⟨_, _, _, rfl, h8.symm, hr, h5, by omega, ?_⟩
  rcases h7 with ⟨rfl, rfl⟩ | ⟨rfl, h10, hp⟩ | ⟨b, o, rfl, hb, ha, hs⟩
  · exact .inl ⟨rfl, rfl⟩
  · rw [Nat.zero_mul] at h3
    have : r = 0 := by
      cases r with
      | zero => rfl
      | succ r => rw [Nat.succ_mul] at h2; omega
    exact .inr (.inl ⟨this, by omega, hp⟩)
  · have hall : At F hi (x.app s) b o := At.app.2 ⟨ha, hs⟩
    exact .inr (.inr ⟨b, o, rfl, hb, hall.tk _, by rw [h8]; exact hall.dp _ (by rw [Ds.app_len]; omega)⟩)
theorem cont_rd {d : Dc} {sz : Nat} {x : Ds} {v : Value} (h : RepC g d [v]) (e : d.cont = some (sz, x)) : Rd g.F g.w.heap.size v sz x .nil ∧ x.good := by
  unfold Dc.cont at e
  split at e
  · cases e
    obtain ⟨ys, e1, -⟩ := h
    cases e1
    exact ⟨Rd.none_ _ _ _, trivial⟩
  · cases e
    obtain ⟨h0, v', ys, e1, h1, -⟩ := h
    cases e1
    exact ⟨h1, h0⟩
  · cases e
    obtain ⟨h0, -, v', ys, e1, h1, -⟩ := h
    cases e1
    exact ⟨h1, h0⟩
  · cases e
    obtain ⟨h0, ys, zs, e1, ⟨v', ys', rfl, h1, rfl⟩, -, rfl⟩ := h
    cases e1
    exact ⟨h1.noRoom, h0.1⟩
  · cases e
theorem acont_rd {d : AV} {sz : Nat} {x : Ds} {v : Value} (h : RepV g d [v]) (e : d.cont = some (sz, x)) : Rd g.F g.w.heap.size v sz x .nil ∧ x.good := by
  cases d <;> try (cases e; done)
  exact cont_rd (h : RepC g _ _) e
/-- A piece of a row. -/
theorem Rd.piece {F : Mem} {hi : Nat} {p : Option Addr} {n c sz : Nat} {x : Ds} (h : Rd F hi (.slice p n c) sz x .nil) {l r : Nat} (h1 : l ≤ r) (h2 : r * sz ≤ x.len) (hsz : 0 < sz) :
    Rd F hi (.slice (if c = l then p else p.map (·.add (l * sz))) (r - l) (c - l)) sz ((x.dp (l * sz)).tk ((r - l) * sz)) .nil := by
  obtain ⟨p', n', c', e, h3, h4, h5, h6, h7⟩ := h
  cases e
  have hr : r ≤ n := Nat.le_of_mul_le_mul_right (by omega) hsz
  have hsub : (r - l) * sz = r * sz - l * sz := Nat.sub_mul _ _ _
  have hlr : l * sz ≤ r * sz := Nat.mul_le_mul_right _ h1
  have hlen : ((x.dp (l * sz)).tk ((r - l) * sz)).len = (r - l) * sz := by rw [Ds.tk_len, Ds.dp_len]; omega
  refine ⟨_, _, _, rfl, hlen.symm, by omega, by omega, by rw [hlen]; simp only [Ds.len, Nat.add_zero]; exact Nat.mul_le_mul_right _ (by omega), ?_⟩
  rcases h7 with ⟨rfl, rfl⟩ | ⟨rfl, -, hp⟩ | ⟨b, o, rfl, hb, ha, -⟩
  · obtain rfl : l = 0 := by omega
    exact .inl ⟨rfl, rfl⟩
  · refine .inr (.inl ⟨by omega, rfl, ?_⟩)
    split
    · exact hp
    · simpa using hp
  · refine .inr (.inr ?_)
    by_cases hc : c = l
    · rw [if_pos hc]
      have : (r - l) * sz = 0 := by rw [show r - l = 0 by omega, Nat.zero_mul]
      rw [this]
      exact ⟨b, o, rfl, hb, trivial, trivial⟩
    · rw [if_neg hc]
      refine ⟨b, o + l * sz, ?_, hb, (ha.dp _ (by omega)).tk _, trivial⟩
      simp [Addr.add_mid]
theorem run_at_slice {T e : Nat} {y : Ty} (hT : TbOk P tb) (hu : P.underlying T = some (.slice e)) (hy : tb e = some y) (w : World) (p : Option Addr) (n c l r : Nat) (lo hi : Option Value)
    (hl : ∀ m, (match lo with | some v => Instr.sliceBound v r .sliceB | none => pure 0 : Sem Nat).run P m = .ok l m) (hr : ∀ m, (match hi with | some v => Instr.sliceBound v c .sliceAcap | none => pure n : Sem Nat).run P m = .ok r m) :
    (Instr.sliceAt T (.slice p n c) lo hi none).run P w = .ok (.slice (if c = l then p else p.map (·.add (l * y.size))) (r - l) (c - l)) w := by
  obtain ⟨i, d, h1, -, -, -, h4, -⟩ := ty_info hT hy
  have hb : (Instr.sliceBounds true n c lo hi none).run P w = .ok (l, r, c) w := by
    unfold Instr.sliceBounds
    have := hl w
    have := hr w
    cases lo <;> cases hi <;> simp_all
  simp [Instr.sliceAt, Instr.slice, run_underlying hu, hb, sizeOf, typeInfo, h1, h4]

theorem fill_step {place : Nat → Option (Nat × Nat)} {cells : List Value} {i off : Nat} {v : Value} {ps : List (Nat × Value)} (hp : place i = some (off, v.cells.size)) (hl : off + v.cells.size ≤ cells.length) :
    Instr.fill place cells.toArray ((i, v) :: ps) = Instr.fill place (cells.take off ++ (v.cells.toList ++ cells.drop (off + v.cells.size))).toArray ps := by
  have h1 := Great.foldl_set off v.cells.toList 0 cells.toArray
  conv => lhs; unfold Instr.fill
  simp only [hp]
  rw [if_neg (by simp; omega)]
  have : (v.cells.zipIdx.foldl (fun cs (x : Value × Nat) => cs.setIfInBounds (off + x.2) x.1) cells.toArray) = (cells.take off ++ (v.cells.toList ++ cells.drop (off + v.cells.size))).toArray := by
    have e0 : v.cells.zipIdx.foldl (fun cs (x : Value × Nat) => cs.setIfInBounds (off + x.2) x.1) cells.toArray = (v.cells.toList.zipIdx 0).foldl (fun cs (x : Value × Nat) => cs.setIfInBounds (off + x.2) x.1) cells.toArray := by
      rw [← Array.foldl_toList]; simp
    rw [e0]
    apply Array.ext_getElem?
    intro k
    rw [h1.2 k]
    simp only [Nat.add_zero, Array.length_toList, List.size_toArray, List.getElem?_toArray]
    by_cases hk : k < off
    · rw [if_neg (by omega), List.getElem?_append_left (by simp; omega), List.getElem?_take, if_pos hk]
    · by_cases hk2 : k < off + v.cells.size
      · rw [if_pos ⟨by omega, hk2, by omega⟩, List.getElem?_append_right (by simp; omega), List.getElem?_append_left (by simp; omega)]
        simp; congr 1; omega
      · rw [if_neg (by omega), List.getElem?_append_right (by simp; omega), List.getElem?_append_right (by simp; omega), List.getElem?_drop]
        simp; congr 1; omega
  rw [← this]
theorem over_rep {d p d' : Dc} {o : Nat} {xs ys : List Value} (hd : RepC g d xs) (hp : RepC g p ys) (h : d.over o p = some d') : RepC g d' (xs.take o ++ (ys ++ xs.drop (o + ys.length))) := by
  unfold Dc.over at h
  split at h
  · rename_i x y h1 h2
    cases h
    rw [hp.len]
    exact RepC.app (RepC.app (hd.dp _ h2) hp) (hd.tk _ h1)
  · cases h
theorem tk_le : ∀ (n : Nat) {d d' : Dc}, d.dp n = some d' → n ≤ d.ln
  | 0, _, _, _ => Nat.zero_le _
  | n + 1, .nil, _, h => by simp [Dc.dp] at h
  | n + 1, .seg _ _ r, _, h => by
    simp only [Dc.dp] at h
    split at h
    · have := tk_le n (d := r) h; simp [Dc.ln, Ds.len]; omega
    · cases h
  | n + 1, .lit _ r, _, h => by have := tk_le n (d := r) (by simpa [Dc.dp] using h); simp [Dc.ln]; omega
  | n + 1, .nilr _ _ r, _, h => by have := tk_le n (d := r) (by simpa [Dc.dp] using h); simp [Dc.ln]; omega
  | n + 1, .row _ _ _ _ r, _, h => by have := tk_le n (d := r) (by simpa [Dc.dp] using h); simp [Dc.ln]; omega
  | n + 1, .blk _ _ _ _ _ r, _, h => by have := tk_le n (d := r) (by simpa [Dc.dp] using h); simp [Dc.ln]; omega
theorem tk_ln : ∀ (n : Nat) {d d' : Dc}, d.tk n = some d' → d'.ln = n
  | 0, d, _, h => by cases d <;> (simp [Dc.tk] at h; subst h; rfl)
  | n + 1, .nil, _, h => by simp [Dc.tk] at h
  | n + 1, .seg _ _ r, _, h => by
    simp only [Dc.tk] at h
    split at h
    · obtain ⟨x, h1, rfl⟩ := Option.map_eq_some_iff.1 h; simp [Dc.ln, Ds.len, tk_ln n h1]; omega
    · cases h
  | n + 1, .lit _ r, _, h => by simp [Dc.tk] at h; obtain ⟨x, h1, rfl⟩ := h; simp [Dc.ln, tk_ln n h1]
  | n + 1, .nilr _ _ r, _, h => by simp [Dc.tk] at h; obtain ⟨x, h1, rfl⟩ := h; simp [Dc.ln, tk_ln n h1]
  | n + 1, .row _ _ _ _ r, _, h => by simp [Dc.tk] at h; obtain ⟨x, h1, rfl⟩ := h; simp [Dc.ln, tk_ln n h1]
  | n + 1, .blk _ _ _ _ _ r, _, h => by simp [Dc.tk] at h; obtain ⟨x, h1, rfl⟩ := h; simp [Dc.ln, tk_ln n h1]
theorem hd_ln : ∀ (n : Nat) {x : Ds} {d : Dc}, x.hd n = some d → d.ln = n
  | 0, x, d, h => by cases x <;> (simp [Ds.hd] at h; subst h; rfl)
  | n + 1, .nil, _, h => by simp [Ds.hd] at h
  | n + 1, .lit _ r, _, h => by simp [Ds.hd] at h; obtain ⟨x, h1, rfl⟩ := h; simp [Dc.ln, hd_ln n h1]
  | n + 1, .row _ _ _ _ r, _, h => by
    simp only [Ds.hd] at h
    split at h
    · obtain ⟨x, h1, rfl⟩ := Option.map_eq_some_iff.1 h; simp [Dc.ln, hd_ln n h1]
    · obtain ⟨x, h1, rfl⟩ := Option.map_eq_some_iff.1 h; simp [Dc.ln, Ds.len, hd_ln n h1]; omega

theorem fieldOf_at {S f o T : Nat} {y : Ty} (hT : TbOk P tb) (h : fieldOf tb S f = some (o, T, y)) : ∃ gs : Array Field, P.underlying S = some (.struct gs) ∧ (∃ fd, gs[f]? = some fd ∧ fd.offset = o ∧ fd.type = T) ∧ tb T = some y := by
  unfold fieldOf at h
  split at h
  · rename_i fs sz by_ zv z hS
    split at h
    · rename_i o' T' hf
      obtain ⟨y', h1, h2⟩ := Option.map_eq_some_iff.1 h
      cases h2
      obtain ⟨i, d, -, h4, h5, -⟩ := ty_info hT hS
      obtain ⟨gs, rfl, e⟩ := sh_st h5
      refine ⟨gs, h4, ?_, h1⟩
      rw [e] at hf
      simp at hf
      obtain ⟨fd, h6, h7, h8⟩ := hf
      exact ⟨fd, h6, h7, h8⟩
    · cases h
  · cases h
theorem places_of {S : Nat} {gs : Array Field} (hT : TbOk P tb) (hu : P.underlying S = some (.struct gs)) (ps : List (Nat × Nat)) (h : gs.toList.mapM (fun f => (P.info? f.type).map fun i => (f.offset, i.size)) = some ps) {f o T : Nat} {y : Ty} (hf : fieldOf tb S f = some (o, T, y)) : ps[f]? = some (o, y.size) := by
  obtain ⟨gs', h1, ⟨fd, h2, rfl, rfl⟩, h3⟩ := fieldOf_at hT hf
  rw [hu] at h1
  cases h1
  obtain ⟨i, -, h4, -, -, -, h5, -⟩ := ty_info hT h3
  have key : ∀ (l : List Field) (ps : List (Nat × Nat)) (f : Nat) (fd : Field), l.mapM (fun f => (P.info? f.type).map fun i => (f.offset, i.size)) = some ps → l[f]? = some fd → (P.info? fd.type).map (fun i => (fd.offset, i.size)) = ps[f]? := by
    intro l
    induction l with
    | nil => intro ps f fd _ h; simp at h
    | cons x l ih =>
      intro ps f fd h h'
      simp only [List.mapM_cons, Option.bind_eq_bind, Option.pure_def] at h
      cases hx : (P.info? x.type).map fun i => (x.offset, i.size) with
      | none => simp [hx] at h
      | some q =>
        cases hl : l.mapM (fun f => (P.info? f.type).map fun i => (f.offset, i.size)) with
        | none => simp [hx, hl] at h
        | some qs =>
          simp [hx, hl] at h
          subst h
          cases f with
          | zero => simp at h'; subst h'; simpa using hx
          | succ f => simpa using ih qs f fd hl (by simpa using h')
  have := key gs.toList ps f fd h (by simpa using h2)
  rw [← this, h4]
  simp [h5]

theorem fillD_sound (hT : TbOk P tb) (hρ : ∀ x, RepV g (ρ x) [a.eval x]) {S : Nat} {gs : Array Field} (hu : P.underlying S = some (.struct gs)) {pl : List (Nat × Nat)} (hm : gs.toList.mapM (fun f => (P.info? f.type).map fun i => (f.offset, i.size)) = some pl) :
    ∀ (ps : List (Nat × Operand)) {d : Dc} {xs : List Value} {c : Prop} {d' : Dc}, RepC g d xs → fillD tb S ρ ps d = some (c, d') → c → ∃ ys, Instr.fill (pl.toArray[·]?) xs.toArray (ps.map fun p => (p.1, a.eval p.2)) = some ys ∧ RepC g d' ys.toList := by
  intro ps
  induction ps with
  | nil =>
    intro d xs c d' hd h _
    cases h
    exact ⟨xs.toArray, rfl, hd⟩
  | cons p ps ih =>
    obtain ⟨f, x⟩ := p
    intro d xs c d' hd h hc
    simp only [fillD] at h
    split at h
    · rename_i o T y hf
      split at h
      · rename_i c0 p0 ha
        split at h
        · rename_i d1 ho
          obtain ⟨⟨c2, d2⟩, h1, h2⟩ := Option.map_eq_some_iff.1 h
          cases h2
          obtain ⟨⟨hc0, hln⟩, hc2⟩ := hc
          have hv := asC_rep (hρ x) ha hc0
          have hsz : (a.eval x).cells.size = y.size := by rw [← hln, ← hv.len]; simp
          have hle : o + y.size ≤ xs.length := by
            unfold Dc.over at ho
            split at ho
            · rename_i h3
              have := tk_le _ h3
              rw [hd.len]; omega
            · cases ho
          have hr := over_rep hd hv ho
          obtain ⟨ys, h4, h5⟩ := ih hr h1 hc2
          refine ⟨ys, ?_, h5⟩
          rw [List.map_cons, fill_step (off := o) (by rw [hsz]; simpa using places_of hT hu pl hm hf) (by show o + (a.eval x).cells.size ≤ _; omega)]
          simpa using h4
        · cases h
      · cases h
    · cases h
theorem rowD_sound (hρ : ∀ x, RepV g (ρ x) [a.eval x]) {e sz : Nat} : ∀ (ps : List (Nat × Operand)) {i : Nat} {c : Prop} {d : Dc}, rowD tb e sz ρ i ps = some (c, d) → c →
    ∃ vs : List Value, (ps.map fun p => (p.1, a.eval p.2)) = (vs.zipIdx i).map (fun x => (x.2, x.1)) ∧ vs.length = ps.length ∧ (∀ v ∈ vs, v.cells.size = sz) ∧ RepC g d (vs.flatMap fun v => v.cells.toList) := by
  intro ps
  induction ps with
  | nil =>
    intro i c d h _
    cases h
    exact ⟨[], rfl, rfl, (fun v hv => by cases hv), rfl⟩
  | cons p ps ih =>
    obtain ⟨j, x⟩ := p
    intro i c d h hc
    simp only [rowD] at h
    split at h
    · rename_i hij
      split at h
      · rename_i c0 p0 ha
        obtain ⟨⟨c2, d2⟩, h1, h2⟩ := Option.map_eq_some_iff.1 h
        cases h2
        obtain ⟨⟨hc0, hln⟩, hc2⟩ := hc
        have hv := asC_rep (hρ x) ha hc0
        obtain ⟨vs, h3, h4, h5, h6⟩ := ih h1 hc2
        refine ⟨a.eval x :: vs, ?_, by simp [h4], ?_, ?_⟩
        · simp [h3, hij]
        · intro v hv'
          rcases List.mem_cons.1 hv' with rfl | hv'
          · rw [← hln, ← hv.len]; simp
          · exact h5 v hv'
        · rw [List.flatMap_cons]
          exact RepC.app h6 hv
      · cases h
    · cases h
theorem RepV.list (hρ : ∀ x, RepV g (ρ x) [a.eval x]) : ∀ l : List Operand, RepV g (.list (l.map ρ)) (l.map a.eval)
  | [] => rfl
  | x :: l => ⟨_, _, rfl, hρ x, RepV.list hρ l⟩
theorem RepV.nth {l : AV} : ∀ {i : Nat} {x : AV} {ys : List Value}, RepV g l ys → l.nth i = some x → ∃ v, ys[i]? = some v ∧ RepV g x [v] := by
  induction l with
  | cons b r _ ih =>
    rintro i x ys ⟨y, zs, rfl, h1, h2⟩ h
    cases i with
    | zero => cases h; exact ⟨y, rfl, h1⟩
    | succ i =>
      have := ih h2 (i := i) h
      simpa using this
  | junk => intro i x ys _ h; cases h
  | v _ => intro i x ys _ h; cases h
  | c _ => intro i x ys _ h; cases h
  | agg _ => intro i x ys _ h; cases h
  | bx _ _ => intro i x ys _ h; cases h
  | el _ => intro i x ys _ h; cases h
  | nil => intro i x ys _ h; cases h
  | tup _ _ => intro i x ys _ h; cases h
  | fn _ _ _ _ _ => intro i x ys _ h; cases h
theorem abin_run {op : BinOp} {T : Nat} {x y : Operand} {u v r : Value} (h : abin op u v = some r) (w : World) : (do eqGuard op T x y u v; binOp op T u v : Sem Value).run P w = .ok r w := by
  unfold abin at h
  split at h <;> first | (cases h; done) | (split at h <;> first | (cases h; done) | (rename_i hk; subst hk; cases h; simp [eqGuard, binOp, Op.intArith, Op.intCmp]) | (rename_i hk; obtain ⟨hk, hb⟩ := hk; subst hk; cases h; simp [eqGuard, binOp, Op.intDiv, hb]))
theorem abool_run {T : Nat} {x y : Operand} {s t : Bool} (hu : P.underlying T = some .bool) (w : World) : (do eqGuard .eql T x y (.bool s) (.bool t); binOp .eql T (.bool s) (.bool t) : Sem Value).run P w = .ok (.bool (s == t)) w := by
  simp [eqGuard, binOp, run_equal_bool w T s t hu]
theorem lo_run {l : Option AV} {dv : Option Nat} {c : Prop} {n : Nat} (h : lo? l dv = some (c, n)) (hc : c) : (l = none ∧ dv = some n) ∨ ∃ k m, l = some (.v (.int k m)) ∧ 0 ≤ m ∧ n = m.toNat := by
  unfold lo? at h
  split at h
  · cases h; exact .inl ⟨rfl, rfl⟩
  · cases h; exact .inr ⟨_, _, rfl, hc, rfl⟩
  · cases h
end Go.Proofs.YtkcmapimcgppmaaGreatDoor
end
section
namespace Go.Proofs.YtkcmapimcgppmaaGreatDoor
open Go.RowKit

variable {P : Program} {tb : TB} {g : Gh} {a : Act} {ρ : Operand → AV}

/-- What the law of a calm step says. -/
def CalmOk (P : Program) (g : Gh) (a : Act) (o : Oper) (out : Out) : Prop := ∃ v g', (execOp a.eval o).run P g.w = .ok (.value v) g'.w ∧ Ext g g' out ∧ RepV g' out.av [v]
theorem calm_same (hI : Inv g) {o : Oper} {av : AV} {v : Value} (hr : (execOp a.eval o).run P g.w = .ok (.value v) g.w) (hv : RepV g av [v]) : CalmOk P g a o { av := av } := ⟨v, g, hr, Ext.same hI rfl rfl, hv⟩
/-- A load from cells that are known. -/
theorem load_rep (hT : TbOk P tb) {T : Nat} {y : Ty} (hy : tb T = some y) {b q : Nat} {cs : List Value} {d : Dc} (hc : g.w.rangeAt b q cs) (hd : RepC g d cs) (hl : d.ln = y.size) :
    (∀ fs, y.sh = .st fs → ∃ v, (Instr.loadAt T (.pointer (some ⟨b, q, none⟩))).run P g.w = .ok v g.w ∧ RepV g (.agg d) [v]) ∧
    ((∀ fs, y.sh ≠ .st fs) → y.sh ≠ .arr → y.size = 1 → ∃ v, (Instr.loadAt T (.pointer (some ⟨b, q, none⟩))).run P g.w = .ok v g.w ∧ RepV g d.sing [v]) := by
  have h := run_load_cells hT hy hc (by rw [hd.len, hl])
  refine ⟨fun fs hs => ⟨_, h.1 fs hs, cs, rfl, hd⟩, fun h1 h2 h3 => ?_⟩
  obtain ⟨v, rfl⟩ := hd.one_of (by rw [hd.len, hl, h3])
  exact ⟨v, h.2 h1 h2 v rfl, hd.sing⟩
theorem part_rep (hT : TbOk P tb) {T : Nat} {y : Ty} (hy : tb T = some y) {q : Nat} {xs : List Value} {d : Dc} (hd : RepC g d ((xs.drop q).take y.size)) (hl : d.ln = y.size) :
    (∀ fs, y.sh = .st fs → ∃ v, (part T xs.toArray q).run P g.w = .ok v g.w ∧ RepV g (.agg d) [v]) ∧
    ((∀ fs, y.sh ≠ .st fs) → y.sh ≠ .arr → y.size = 1 → ∃ v, (part T xs.toArray q).run P g.w = .ok v g.w ∧ RepV g d.sing [v]) := by
  obtain ⟨i, dd, h1, h2, h3, -, h4, -⟩ := ty_info hT hy
  refine ⟨fun fs hs => ?_, fun h5 h6 h7 => ?_⟩
  · obtain ⟨gs, rfl, -⟩ := sh_st (h3.trans hs)
    have hagg : (isAgg T).run P g.w = .ok true g.w := by
      unfold isAgg
      rw [Sem.run_bind, run_underlying h2 g.w]
      simp
    refine ⟨.agg ((xs.drop q).take y.size).toArray, ?_, _, rfl, hd⟩
    simp [part, hagg, sizeOf, typeInfo, h1, h4, List.extract_toArray, List.extract_eq_take_drop]
  · have hr := sh_one h3 h5 h6
    have hagg : (isAgg T).run P g.w = .ok false g.w := by
      unfold isAgg
      rw [Sem.run_bind, run_underlying h2 g.w]
      cases dd <;> simp_all [TypeDesc.isRow]
    obtain ⟨v, hv⟩ := hd.one_of (by rw [hd.len, hl, h7])
    have hv0 : xs[q]? = some v := by
      have : ((xs.drop q).take y.size)[0]? = some v := by rw [hv]; rfl
      have := getElem?_slice this
      simpa using this
    rw [hv] at hd
    exact ⟨v, by simp [part, hagg, hv0], hd.sing⟩
theorem el_cells (hI : Inv g) {x : Ds} {v : Value} (h : RepV g (.el x) [v]) : ∃ b o ys, v = .pointer (some ⟨b, o, none⟩) ∧ b < g.w.heap.size ∧ x.good ∧ Vs g.F g.w.heap.size x ys ∧ (∀ j u, ys[j]? = some u → g.Fs b (o + j) = some u) ∧ g.w.rangeAt b o ys := by
  obtain ⟨h0, b, o, ys, e, hb, h1, h2⟩ := h
  cases e
  exact ⟨b, o, ys, rfl, hb, h0, h1, h2, fun j u hu => U_cell (hI.fs (h2 j u hu))⟩
theorem el_dp {x : Ds} {b o n : Nat} {ys : List Value} (h0 : x.good) (hb : b < g.w.heap.size) (h1 : Vs g.F g.w.heap.size x ys) (h2 : ∀ j u, ys[j]? = some u → g.Fs b (o + j) = some u) : RepV g (.el (x.dp n)) [.pointer (some ⟨b, o + n, none⟩)] :=
  ⟨Ds.dp_good n h0, b, o + n, ys.drop n, rfl, hb, h1.dp n, fun j u hu => by rw [Nat.add_assoc]; exact h2 _ u (by rwa [List.getElem?_drop] at hu)⟩

theorem mapM_places (hT : TbOk P tb) (gs : Array Field) (h : ((gs.toList.map fun f => (f.offset, f.type)).all fun f => (tb f.2).isSome) = true) : ∃ pl, gs.toList.mapM (fun f => (P.info? f.type).map fun i => (f.offset, i.size)) = some pl := by
  generalize gs.toList = l at h
  induction l with
  | nil => exact ⟨[], rfl⟩
  | cons f l ih =>
    simp only [List.map_cons, List.all_cons, Bool.and_eq_true] at h
    obtain ⟨y, hy⟩ := Option.isSome_iff_exists.1 h.1
    obtain ⟨i, -, h1, -⟩ := ty_info hT hy
    obtain ⟨pl, h2⟩ := ih h.2
    exact ⟨(f.offset, i.size) :: pl, by simp [List.mapM_cons, h1, h2]⟩
theorem aout_sound (hT : TbOk P tb) (hI : Inv g) (hρ : ∀ x, RepV g (ρ x) [a.eval x]) {cont : Option (Nat × Dc)} {nm : Nat} {o : Oper} (hc : ∀ T ad k off, o.op = .load T ad → ρ ad = .bx k off → cont = g.st.bx k)
    {c : Prop} {out : Out} (h : aout tb ρ cont nm o.op = some (c, out)) (hcc : c) (hf1 : ∀ k x, out.bu = some (k, x) → g.st.bx k = none) (hf2 : ∀ k x, out.tu = some (k, x) → g.st.τ k = none) : CalmOk P g a o out := by
  obtain ⟨dst, op, ty, pos, after, guard⟩ := o
  cases op <;> simp only [aout] at h <;> try (cases h; done)
  case move x =>
    cases h
    exact calm_same hI (by simp [execOp]) (hρ x)
  case assign x =>
    cases h
    exact calm_same hI (by simp [execOp]) (hρ x)
  case pick c' x y =>
    split at h
    · rename_i t ht
      cases h
      have hb : a.eval c' = .bool t := by
        have := hρ c'
        rw [ht] at this
        simpa [RepV] using this
      refine calm_same hI (v := if t then a.eval x else a.eval y) (by simp [execOp, hb, asBool]) ?_
      cases t
      · exact hρ y
      · exact hρ x
    · cases h
  case alloc T =>
    obtain ⟨y, hy, e⟩ := Option.map_eq_some_iff.1 h
    cases e
    obtain ⟨i, d, h1, -, -, h2, -, -, h3, -⟩ := ty_info hT hy
    obtain ⟨g', g1, g2, g3, g4, g5, g6, g7⟩ := hI.newBox (nm := nm) (T := T) (RepC.zero h3) (hf1 _ _ rfl)
    refine ⟨.pointer (some ⟨g.w.heap.size, 0, none⟩), g', ?_, ⟨g1, g2, g3, g5, g6⟩, by rw [← g7]; exact ⟨rfl, by rw [g5]; simp [upd]⟩⟩
    rw [g4]
    simp [execOp, Instr.alloc, zeroValue, typeInfo, h1, h2, newVar, newRow]
  case box T x =>
    obtain ⟨⟨c', d⟩, hd, e⟩ := Option.map_eq_some_iff.1 h
    cases e
    have hr := asC_rep (hρ x) hd hcc
    obtain ⟨g', g1, g2, g3, g4, g5, g6, g7⟩ := hI.newBox (nm := nm) (T := T) hr (hf1 _ _ rfl)
    refine ⟨.pointer (some ⟨g.w.heap.size, 0, none⟩), g', ?_, ⟨g1, g2, g3, g5, g6⟩, by rw [← g7]; exact ⟨rfl, by rw [g5]; simp [upd]⟩⟩
    rw [g4]
    simp [execOp, Instr.box, newVar, newRow]
  case build T ps =>
    split at h
    · rename_i fs sz by_ zv z hy
      obtain ⟨⟨c', d⟩, hd, e⟩ := Option.map_eq_some_iff.1 h
      cases e
      obtain ⟨i, dd, h1, h2, h3, h4, -, -, h5, -⟩ := ty_info hT hy
      obtain ⟨gs, rfl, hfs⟩ := sh_st h3
      have hz := RepC.zero (g := g) h5
      obtain ⟨pl, hpl⟩ := mapM_places hT gs (by rw [hfs] at hcc; exact hcc.1)
      obtain ⟨ys, r1, r2⟩ := fillD_sound hT hρ h2 hpl ps.toList hz hd hcc.2
      refine calm_same hI (v := .agg ys) ?_ ⟨ys.toList, by simp, r2⟩
      have hb : P.built T (ps.map fun (p : Nat × Operand) => (p.1, a.eval p.2)).toList = some ys := by
        rw [Array.toList_map]
        unfold Program.built
        simp only [h1, h2, h4, hpl]
        simpa using r1
      simp only [execOp]
      exact run_v (run_build g.w T _ ys hb)
    · cases h
  case buildSlice T n ps =>
    split at h
    · rename_i e sz by_ zv z hy
      split at h
      · rename_i y hye
        obtain ⟨⟨c', d⟩, hd, e1⟩ := Option.map_eq_some_iff.1 h
        cases e1
        obtain ⟨⟨h0, hsm, hn⟩, hc'⟩ := hcc
        obtain ⟨i, dd, -, h2, h3, -⟩ := ty_info hT hy
        obtain rfl := sh_sl h3
        obtain ⟨ie, de, k1, k2, k3, k4, k5, -, -, k6, -⟩ := ty_info hT hye
        by_cases hn00 : n = 0
        · subst hn00
          obtain rfl : ps = #[] := Array.eq_empty_of_size_eq_zero (by have h9 := hn.symm; simpa using h9)
          simp [rowD] at hd
          obtain ⟨-, rfl⟩ := hd
          obtain ⟨g', g1, g2, g3, g4, g5, g6, g7⟩ := hI.newRoom (nm := nm) (sz := y.size) (e := e) (c := 0) (xs := []) (hf2 _ _ rfl) (by simp) (by unfold maxLen; omega)
          refine ⟨_, g', ?_, ⟨g1, g2, g3, g5, g6⟩, g7⟩
          rw [g4]
          simp only [execOp]
          exact run_v (by simp [Instr.buildSlice, run_underlying h2, sizeOf, typeInfo, k1, newRow, Instr.fill]; rw [Array.eq_empty_of_size_eq_zero (xs := Array.map (fun _ => default) (Array.range 0)) (by simp)])
        have hn0 : 0 < n := Nat.pos_of_ne_zero hn00
        obtain ⟨vs, r1, r2, r3, r4⟩ := rowD_sound hρ ps.toList hd hc'
        have hlen : (vs.flatMap fun v => v.cells.toList).length = n * y.size := by
          rw [hn, ← r2]
          clear r1 r2 r4 hd
          induction vs with
          | nil => simp
          | cons v vs ih =>
            rw [List.flatMap_cons, List.length_append, ih (fun u hu => r3 u (List.mem_cons_of_mem _ hu)), List.length_cons, Nat.add_mul, Nat.one_mul]
            have := r3 v (by simp)
            simp only [Array.length_toList]
            omega
        have hpos : 0 < n * y.size := Nat.mul_pos hn0 h0
        obtain ⟨g', g1, g2, g3, g4, g5, g6, g7⟩ := hI.newBlk (nm := nm) (sz := y.size) (e := e) (n := n) r4 (hf2 _ _ rfl) hlen (by unfold maxLen; have := Nat.le_mul_of_pos_right n h0; omega)
        refine ⟨_, g', ?_, ⟨g1, g2, g3, g5, g6⟩, g7⟩
        rw [g4]
        have hfill := Great.fill_whole h0 vs ((Array.range (n * ie.size)).map (y.zval.cells[· % y.zval.cells.size]!)) r3 (by rw [r2, ← hn, k5]; simp)
        have hpe : (ps.map fun (p : Nat × Operand) => (p.1, a.eval p.2)).toList = (vs.zipIdx 0).map fun x => (x.2, x.1) := by rw [Array.toList_map]; exact r1
        have hb := run_buildSlice (P := P) g.w T e n (ps.map fun (p : Nat × Operand) => (p.1, a.eval p.2)) _ ie y.zval h2 k1 k4 (by rw [k5]; omega) (by rw [k5]; omega) (by rw [hpe, k5] at *; exact hfill)
        simp only [execOp]
        exact run_v hb
      · cases h
    · cases h
  case makeSlice T x y =>
    unfold amake at h
    split at h
    · rename_i e sz by_ zv z hy
      split at h
      · rename_i ye hye
        have hx := hρ x
        have hyv := hρ y
        split at h
        · rename_i k1 n k2 c e1 e2
          cases h
          obtain ⟨rfl, hc0, hcm, hz0⟩ := hcc
          rw [e1] at hx
          rw [e2] at hyv
          have ex : a.eval x = .int k1 0 := by simpa [RepV] using hx
          have ey : a.eval y = .int k2 c := by simpa [RepV] using hyv
          obtain ⟨c, rfl⟩ := Int.eq_ofNat_of_zero_le hc0
          obtain ⟨i, dd, -, h2, h3, -⟩ := ty_info hT hy
          obtain rfl := sh_sl h3
          obtain ⟨ie, de, q1, q2, q3, q4, q5, q6, -, q8, q9⟩ := ty_info hT hye
          have hbb : (ie.bytes : Int) * (c : Int) ≤ 281474976710656 := by
            have : ie.bytes * c ≤ 1000 * 1000000000 := Nat.mul_le_mul (by omega) (by omega)
            have e3 : ((ie.bytes * c : Nat) : Int) = (ie.bytes : Int) * (c : Int) := Int.natCast_mul _ _
            omega
          have hr := run_make (P := P) g.w T e ie ye.zval h2 q1 q4 k1 k2 0 c (Int.le_refl _) (by omega) hbb (by omega)
          obtain ⟨g', g1, g2, g3, g4, g5, g6, g7⟩ := hI.newRoom (nm := nm) (sz := ye.size) (e := e) (c := c) (xs := (madeCells ye.zval.cells (c * ie.size)).toList) (hf2 _ _ rfl) (by rw [Array.length_toList, size_madeCells, q5]) (by unfold maxLen; omega)
          refine ⟨_, g', ?_, ⟨g1, g2, g3, g5, g6⟩, g7⟩
          rw [g4]
          simp only [execOp, ex, ey]
          simp only [Int.toNat_zero, Int.toNat_natCast] at hr
          exact run_v hr
        · cases h
      · cases h
    · cases h
  case load T ad =>
    split at h
    · rename_i y hy
      have hp := hρ ad
      split at h
      · rename_i k off hk
        rw [hk] at hp
        obtain ⟨hp, hnn⟩ := hp
        have hp' : a.eval ad = .pointer (some ⟨g.B k, off, none⟩) := by simpa using hp
        split at h
        · rename_i T0 d
          have hbx : g.st.bx k = some (T0, d) := (hc T ad k off rfl hk).symm
          obtain ⟨-, -, xs, hx1, hx2⟩ := hI.box k T0 d hbx
          split at h
          · rename_i d1 hd1
            split at h
            · rename_i d2 hd2
              have hr2 := (hx2.dp _ hd1).tk _ hd2
              have hrange : g.w.rangeAt (g.B k) off ((xs.drop off).take y.size) := fun j u hu => by
                rw [cell_of_row g.w _ _ _ _ _ hx1]
                simpa using getElem?_slice hu
              have hl := load_rep hT hy hrange hr2 (tk_ln _ hd2)
              have run : ∀ v, (Instr.loadAt T (.pointer (some ⟨g.B k, off, none⟩))).run P g.w = .ok v g.w → (execOp a.eval { dst := dst, op := Op.load T ad, type := ty, pos := pos, after := after, guard := guard }).run P g.w = .ok (.value v) g.w := fun v hv => by
                simp only [execOp, hp']; exact run_v hv
              split at h
              · rename_i fs hs
                cases h
                obtain ⟨v, e1, e2⟩ := hl.1 fs hs
                exact calm_same hI (run v e1) e2
              · cases h
              · rename_i hs1 hs2
                cases h
                obtain ⟨v, e1, e2⟩ := hl.2 (fun fs e => hs1 fs e) hs2 hcc
                exact calm_same hI (run v e1) e2
            · cases h
          · cases h
        · cases h
      · rename_i x hk
        rw [hk] at hp
        obtain ⟨b, q, ys, hp', hb, h0, h1, h2, h3⟩ := el_cells hI hp
        split at h
        · rename_i d2 hd2
          have hr2 := RepC.hd _ h0 h1 hd2
          have hrange : g.w.rangeAt b q (ys.take y.size) := fun j u hu => h3 j u (by
            rw [List.getElem?_take] at hu
            split at hu
            · exact hu
            · cases hu)
          have hl := load_rep hT hy hrange hr2 (hd_ln _ hd2)
          have run : ∀ v, (Instr.loadAt T (.pointer (some ⟨b, q, none⟩))).run P g.w = .ok v g.w → (execOp a.eval { dst := dst, op := Op.load T ad, type := ty, pos := pos, after := after, guard := guard }).run P g.w = .ok (.value v) g.w := fun v hv => by
            simp only [execOp, hp']; exact run_v hv
          split at h
          · rename_i fs hs
            cases h
            obtain ⟨v, e1, e2⟩ := hl.1 fs hs
            exact calm_same hI (run v e1) e2
          · cases h
          · rename_i hs1 hs2
            cases h
            obtain ⟨v, e1, e2⟩ := hl.2 (fun fs e => hs1 fs e) hs2 hcc
            exact calm_same hI (run v e1) e2
        · cases h
      · cases h
    · cases h
  case nilCheck x =>
    have hx := hρ x
    split at h
    · rename_i k q hk
      cases h
      rw [hk] at hx
      have e : a.eval x = .pointer (some ⟨g.B k, q, none⟩) := by simpa using hx.1
      exact calm_same hI (v := a.eval x) (by simp [execOp, e]) hx
    · rename_i d hk
      cases h
      rw [hk] at hx
      obtain ⟨b, q, ys, e, -⟩ := el_cells hI hx
      exact calm_same hI (v := a.eval x) (by simp [execOp, e]) hx
    · cases h
  case fieldAddr S x f =>
    have hx := hρ x
    split at h
    · rename_i q T y hf
      obtain ⟨gs, hu, ⟨fd, h1, rfl, rfl⟩, hy⟩ := fieldOf_at hT hf
      obtain ⟨i, dd, k1, -, -, -, k5, -⟩ := ty_info hT hy
      have run : ∀ (b p : Nat), a.eval x = .pointer (some ⟨b, p, none⟩) → y.size ≠ 0 → (execOp a.eval { dst := dst, op := Op.fieldAddr S x f, type := ty, pos := pos, after := after, guard := guard }).run P g.w = .ok (.value (.pointer (some ⟨b, p + fd.offset, none⟩))) g.w := fun b p e hs => by
        simp [execOp, Instr.fieldAt, e, run_underlying hu, h1, Instr.sureAddr, fieldPlace, sizeOf, typeInfo, k1, k5, hs, Addr.add_mid]
      split at h
      · rename_i k p hk
        cases h
        rw [hk] at hx
        have e : a.eval x = .pointer (some ⟨g.B k, p, none⟩) := by simpa using hx.1
        exact calm_same hI (run _ _ e hcc) ⟨rfl, hx.2⟩
      · rename_i d hk
        cases h
        rw [hk] at hx
        obtain ⟨b, p, ys, e, hb, h0, h2, h3, -⟩ := el_cells hI hx
        exact calm_same hI (run _ _ e hcc) (el_dp h0 hb h2 h3)
      · cases h
    · cases h
  case field S x f =>
    have hx := hρ x
    split at h
    · rename_i q T y hf
      obtain ⟨gs, hu, ⟨fd, h1, rfl, rfl⟩, hy⟩ := fieldOf_at hT hf
      split at h
      · rename_i d hk
        rw [hk] at hx
        obtain ⟨xs, e, hd⟩ := hx
        have e' : a.eval x = .agg xs.toArray := by simpa using e
        split at h
        · rename_i d1 hd1
          split at h
          · rename_i d2 hd2
            have hl := part_rep hT hy ((hd.dp _ hd1).tk _ hd2) (tk_ln _ hd2)
            have run : ∀ v, (part fd.type xs.toArray fd.offset).run P g.w = .ok v g.w → (execOp a.eval { dst := dst, op := Op.field S x f, type := ty, pos := pos, after := after, guard := guard }).run P g.w = .ok (.value v) g.w := fun v hv => by
              simp [execOp, Instr.field, run_underlying hu, h1, e', asAgg, hv]
            split at h
            · rename_i fs hs
              cases h
              obtain ⟨v, e1, e2⟩ := hl.1 fs hs
              exact calm_same hI (run v e1) e2
            · cases h
            · rename_i hs1 hs2
              cases h
              obtain ⟨v, e1, e2⟩ := hl.2 (fun fs e => hs1 fs e) hs2 hcc
              exact calm_same hI (run v e1) e2
          · cases h
        · cases h
      · cases h
    · cases h
  case indexAddr T x i =>
    have hx := hρ x
    have hi := hρ i
    split at h
    · rename_i e sz by_ zv z hy
      split at h
      · rename_i y hye
        split at h
        · rename_i sz' d k n hcx hin
          cases h
          obtain ⟨h1, h2, h3, h4⟩ := hcc
          rw [hin] at hi
          have e2 : a.eval i = .int k n := by simpa [RepV] using hi
          obtain ⟨hrd, hg⟩ := acont_rd hx hcx
          obtain ⟨p, m, c, e1, k1, k2, k3, -, k4⟩ := hrd
          obtain ⟨ii, dd, -, u2, u3, -⟩ := ty_info hT hy
          obtain rfl := sh_sl u3
          obtain ⟨ie, de, v1, -, -, -, v5, -⟩ := ty_info hT hye
          have hmul : (n.toNat + 1) * sz' = n.toNat * sz' + sz' := by rw [Nat.add_mul, Nat.one_mul]
          have hnm : n.toNat < m := Nat.lt_of_mul_lt_mul_right (a := sz') (by rw [k1]; omega)
          have hn : n < (m : Int) := by omega
          rcases k4 with ⟨rfl, rfl⟩ | ⟨rfl, -⟩ | ⟨b, q, rfl, hb, hat, -⟩
          · omega
          · omega
          · obtain ⟨ys, w1, w2⟩ := At.vsx hat
            have hfs : ∀ j u, ys[j]? = some u → g.Fs b (q + j) = some u := fun j u hu => by
              unfold Gh.Fs
              split
              · exact hI.F _ _ _ (w2 j u hu)
              · exact w2 j u hu
            refine calm_same hI (v := .pointer (some ⟨b, q + n.toNat * sz', none⟩)) ?_ (el_dp hg hb w1 hfs)
            simp [execOp, Instr.indexAt, e1, e2, asIntOf, run_underlying u2, h3, hn, sizeOf, typeInfo, v1, v5, ← h1, Addr.add_mid]
        · cases h
      · cases h
    · cases h
  case extract t i =>
    have ht := hρ t
    split at h
    · rename_i l hl
      obtain ⟨x, hx, e⟩ := Option.map_eq_some_iff.1 h
      cases e
      rw [hl] at ht
      obtain ⟨ys, e, h1⟩ := ht
      have e' : a.eval t = .tuple ys.toArray := by simpa using e
      obtain ⟨v, h2, h3⟩ := RepV.nth h1 hx
      exact calm_same hI (v := v) (by simp [execOp, Instr.extract, e', h2]) h3
    · cases h
  case binOp op T x y T2 =>
    have hx := hρ x
    have hy := hρ y
    split at h
    · rename_i u v hu hv
      rw [hu] at hx
      rw [hv] at hy
      have ex : a.eval x = u := by simpa [RepV] using hx
      have ey : a.eval y = v := by simpa [RepV] using hy
      split at h
      · rename_i r hr
        cases h
        refine calm_same hI (v := r) ?_ rfl
        simp only [execOp, ex, ey]
        exact run_v (abin_run hr g.w)
      · unfold abool at h
        split at h
        · rename_i t sz by_ zv z hb hT2
          cases h
          refine calm_same hI (v := .bool t) ?_ rfl
          obtain ⟨ii, dd, -, u2, u3, -⟩ := ty_info hT hT2
          obtain rfl := sh_bo u3
          simp only [execOp, ex, ey]
          unfold aboolV at hb
          split at hb
          · cases hb
            exact run_v (abool_run u2 g.w)
          · cases hb
        · cases h
    · cases h
  case unOp op T x =>
    have hx := hρ x
    split at h
    · rename_i t hk
      cases h
      rw [hk] at hx
      have ex : a.eval x = .bool t := by simpa [RepV] using hx
      exact calm_same hI (v := .bool (!t)) (by simp [execOp, ex, Op.unary]) rfl
    · rename_i k n hk
      cases h
      rw [hk] at hx
      have ex : a.eval x = .int k n := by simpa [RepV] using hx
      exact calm_same hI (v := .int k (k.wrap (-n))) (by simp [execOp, ex, Op.unary, Op.intArith]) rfl
    · cases h
  case convert s t x =>
    have hx := hρ x
    split at h
    · rename_i k sz by_ zv z hy
      split at h
      · rename_i k0 n hk
        cases h
        rw [hk] at hx
        have ex : a.eval x = .int k0 n := by simpa [RepV] using hx
        obtain ⟨i, d, -, h2, h3, -⟩ := ty_info hT hy
        obtain rfl := sh_int h3
        obtain ⟨ys, hys⟩ := Option.isSome_iff_exists.1 hcc
        obtain ⟨-, ds, -, q2, -⟩ := ty_info hT hys
        refine calm_same hI (v := .int k (k.wrap n)) ?_ rfl
        have hcv : (convert s t (.int k0 n)).run P g.w = .ok (.int k (k.wrap n)) g.w := by
          simp [convert, run_underlying h2, run_underlying q2, Conv.intToInt]
        simp only [execOp, ex]
        exact run_v hcv
      · cases h
    · cases h
  case makeFunc f x y =>
    cases h
    refine calm_same hI (v := .func f (x.map a.eval) (y.map a.eval)) (by simp [execOp, Instr.makeFunc]) ⟨_, _, ?_, RepV.list hρ x.toList, RepV.list hρ y.toList⟩
    have e : ∀ z : Array Operand, z.map a.eval = (z.toList.map a.eval).toArray := fun z => by apply Array.ext'; simp
    rw [e, e]
  case slice T x lo hi mx =>
    unfold aslice at h
    cases mx with
    | some _ => cases h
    | none =>
    have hx := hρ x
    simp only at h
    split at h
    · rename_i e sz by_ zv z hy
      split at h
      · rename_i y hye
        split at h
        · rename_i sz' d s hcx
          split at h
          · rename_i c1 r h1
            cases h
            obtain ⟨hc1, hz1, hz2, hrl⟩ := hcc
            obtain ⟨hrd, hg, hsg⟩ := room_rd hx hcx
            obtain ⟨p, m, c, e1, k1, k2, k3, k5, k4⟩ := id hrd
            rw [e1] at hrd
            obtain ⟨ii, dd, -, u2, u3, -⟩ := ty_info hT hy
            obtain rfl := sh_sl u3
            have hm : d.len / sz' = m := by rw [← k1]; exact Nat.mul_div_cancel _ hz2
            have hrm : r ≤ c := Nat.le_of_mul_le_mul_right (by omega) hz2
            have hp : (if c = 0 then p else p.map (·.add (0 * y.size))) = p := by
              split
              · rfl
              · cases p <;> simp [Addr.add]
            refine calm_same hI (v := .slice (if c = 0 then p else p.map (·.add (0 * y.size))) (r - 0) (c - 0)) ?_ ⟨⟨Ds.tk_good _ (Ds.app_good hg hsg), Ds.dp_good _ (Ds.app_good hg hsg), trivial⟩, _, [], rfl, ⟨_, [], rfl, (by rw [hp]; exact hrd.cut hrl hz2), rfl⟩, (fun _ e => by cases e), rfl⟩
            simp only [execOp, e1]
            refine run_v (run_at_slice hT u2 hye g.w p m c 0 r _ _ (fun w => rfl) (fun w => ?_))
            rcases lo_run h1 hc1 with ⟨e2, e3⟩ | ⟨k, q, e2, e3, e4⟩
            · cases hi
              · simp at e3
                simp; omega
              · cases e2
            · cases hi with
              | none => cases e2
              | some hi =>
                have hhi := hρ hi
                have : ρ hi = .v (.int k q) := by simpa using e2
                rw [this] at hhi
                have el : a.eval hi = .int k q := by simpa [RepV] using hhi
                simp only [Option.map_some, el]
                rw [run_sliceBound w k q c .sliceAcap e3 (by omega), e4]
          · cases h
        · rename_i lo _ _ hno
          split at h
          · rename_i sz' d hcx
            split at h
            · rename_i c1 l c2 r h1 h2
              cases h
              obtain ⟨hc1, hc2, hz1, hz2, hlr, hrl⟩ := hcc
              obtain ⟨hrd, hg⟩ := acont_rd hx hcx
              obtain ⟨p, m, c, e1, k1, k2, k3, k5, k4⟩ := id hrd
              rw [e1] at hrd
              obtain ⟨ii, dd, -, u2, u3, -⟩ := ty_info hT hy
              obtain rfl := sh_sl u3
              have hm : d.len / sz' = m := by rw [← k1]; exact Nat.mul_div_cancel _ hz2
              have hrm : r ≤ m := Nat.le_of_mul_le_mul_right (by omega) hz2
              refine calm_same hI (v := .slice (if c = l then p else p.map (·.add (l * y.size))) (r - l) (c - l)) ?_ ⟨Ds.tk_good _ (Ds.dp_good _ hg), _, [], rfl, (by rw [← hz1]; exact hrd.piece hlr hrl hz2), (fun _ e => by cases e), rfl⟩
              simp only [execOp, e1]
              refine run_v (run_at_slice hT u2 hye g.w p m c l r _ _ (fun w => ?_) (fun w => ?_))
              · rcases lo_run h1 hc1 with ⟨e2, e3⟩ | ⟨k, q, e2, e3, e4⟩
                · cases lo
                  · cases e3; simp
                  · cases e2
                · cases lo with
                  | none => cases e2
                  | some lo =>
                    have hlo := hρ lo
                    have : ρ lo = .v (.int k q) := by simpa using e2
                    rw [this] at hlo
                    have el : a.eval lo = .int k q := by simpa [RepV] using hlo
                    simp only [Option.map_some, el]
                    rw [run_sliceBound w k q r .sliceB e3 (by omega), e4]
              · rcases lo_run h2 hc2 with ⟨e2, e3⟩ | ⟨k, q, e2, e3, e4⟩
                · cases hi
                  · simp at e3
                    simp; omega
                  · cases e2
                · cases hi with
                  | none => cases e2
                  | some hi =>
                    have hhi := hρ hi
                    have : ρ hi = .v (.int k q) := by simpa using e2
                    rw [this] at hhi
                    have el : a.eval hi = .int k q := by simpa [RepV] using hhi
                    simp only [Option.map_some, el]
                    rw [run_sliceBound w k q c .sliceAcap e3 (by omega), e4]
            · cases h
          · cases h
      · cases h
    · cases h
  case call cl =>
    obtain ⟨callee, xs, ts⟩ := cl
    unfold abuiltin at h
    cases callee with
    | value f => cases h
    | invoke r m => cases h
    | builtin b =>
      cases b <;> simp only at h <;> try (cases h; done)
      case len =>
        split at h
        · rename_i x T hx1 ht1
          split at h
          · rename_i e sz by_ zv z hy
            obtain ⟨ii, dd, -, u2, u3, -⟩ := ty_info hT hy
            obtain rfl := sh_sl u3
            have hx := hρ x
            have exs : xs = #[x] := by apply Array.ext'; simpa using hx1
            have ets : ts = #[T] := by apply Array.ext'; simpa using ht1
            subst exs ets
            have run : ∀ p n c, a.eval x = .slice p n c → (execOp a.eval { dst := dst, op := Op.call { callee := .builtin .len, args := #[x], argTypes := #[T] }, type := ty, pos := pos, after := after, guard := guard }).run P g.w = .ok (.value (.int .i64 n)) g.w := fun p n c e => by
              simp [execOp, resolve, invoke, builtin, Builtin.len_, run_underlying u2, e, goInt]
            split at h
            · rename_i hk
              cases h
              rw [hk] at hx
              exact calm_same hI (run none 0 0 (by simpa [RepV] using hx)) rfl
            · rename_i p m c hk
              cases h
              rw [hk] at hx
              exact calm_same hI (run (some p) m c (by simpa [RepV] using hx)) rfl
            · rename_i d hk
              rw [hk] at hx
              split at h
              · rename_i sz' d' hd
                cases h
                obtain ⟨⟨p, m, c, e1, k1, -⟩, -⟩ := cont_rd (hx : RepC g d [a.eval x]) hd
                have hm : d'.len / sz' = m := by rw [← k1]; exact Nat.mul_div_cancel _ hcc
                rw [hm]
                exact calm_same hI (run p m c e1) rfl
              · cases h
            · cases h
          · cases h
        · cases h
      case max =>
        split at h
        · rename_i x y hx1
          split at h
          · rename_i k m k' n hkx hky
            cases h
            have exs : xs = #[x, y] := by apply Array.ext'; simpa using hx1
            subst exs
            have hx := hρ x
            have hy := hρ y
            rw [hkx] at hx
            rw [hky] at hy
            have e1 : a.eval x = .int k m := by simpa [RepV] using hx
            have e2 : a.eval y = .int k' n := by simpa [RepV] using hy
            exact calm_same hI (v := .int k (if n > m then n else m)) (by simp [execOp, resolve, invoke, builtin, Builtin.max_, Builtin.max2, e1, e2]) rfl
          · cases h
        · cases h
end Go.Proofs.YtkcmapimcgppmaaGreatDoor
end
section
namespace Go.Proofs.YtkcmapimcgppmaaGreatDoor
open Go.RowKit

/-- Nobody owns anything of them. -/
def Dc.lent : Dc → Bool
  | .nil => true
  | .lit _ r => r.lent
  | .row none _ _ _ r => r.lent
  | .seg none _ r => r.lent
  | _ => false
theorem Vs.split {F : Mem} {hi : Nat} {y : Ds} {x : Ds} : ∀ {xs : List Value}, Vs F hi (x.app y) xs → ∃ ys zs, xs = ys ++ zs ∧ Vs F hi x ys ∧ Vs F hi y zs := by
  induction x with
  | nil => intro xs h; exact ⟨[], xs, rfl, rfl, h⟩
  | lit v r ih => rintro xs ⟨ys, rfl, h⟩; obtain ⟨y1, y2, rfl, h1, h2⟩ := ih h; exact ⟨v :: y1, y2, rfl, ⟨_, rfl, h1⟩, h2⟩
  | row sz e x s r _ _ ih => rintro xs ⟨v, ys, rfl, h0, h⟩; obtain ⟨y1, y2, rfl, h1, h2⟩ := ih h; exact ⟨v :: y1, y2, rfl, ⟨v, _, rfl, h0, h1⟩, h2⟩
theorem Ds.good_app {x y : Ds} (h : (x.app y).good) : x.good ∧ y.good := by
  induction x with
  | nil => exact ⟨trivial, h⟩
  | lit v r ih => exact ⟨⟨h.1, (ih h.2).1⟩, (ih h.2).2⟩
  | row sz e x s r _ _ ih => exact ⟨⟨h.1, h.2.1, (ih h.2.2).1⟩, (ih h.2.2).2⟩
theorem RepC.lent {g : Gh} {d : Dc} : ∀ {xs : List Value}, d.lent = true → d.ds.good → Vs g.F g.w.heap.size d.ds xs → RepC g d xs := by
  induction d with
  | nil => intro xs _ _ h; exact h
  | lit v r ih => rintro xs hl hg ⟨ys, rfl, h⟩; exact ⟨hg.1, ys, rfl, ih hl hg.2 h⟩
  | nilr sz e r _ => intro xs hl; cases hl
  | row k sz e x r ih =>
    cases k with
    | some _ => intro xs hl; cases hl
    | none => rintro xs hl hg ⟨v, ys, rfl, h1, h⟩; exact ⟨hg.1, v, ys, rfl, h1, (fun _ e => by cases e), ih hl hg.2.2 h⟩
  | seg k d r ih =>
    cases k with
    | some _ => intro xs hl; cases hl
    | none =>
      intro xs hl hg h
      obtain ⟨y1, y2, rfl, h1, h2⟩ := Vs.split h
      exact ⟨(Ds.good_app hg).1, y1, y2, rfl, h1, (fun _ e => by cases e), ih hl (Ds.good_app hg).2 h2⟩
  | blk k v sz e x r _ _ => intro xs hl; cases hl

theorem Ds.good.strip {x : Ds} (h : x.good) : x.strip.good := by
  induction x with
  | nil => trivial
  | lit v r ih => exact ⟨h.1, ih h.2⟩
  | row sz e x s r ihx _ ih => exact ⟨ihx h.1, trivial, ih h.2.2⟩
theorem Vs.strip {F : Mem} {hi : Nat} {x : Ds} : ∀ {xs : List Value}, Vs F hi x xs → Vs F hi x.strip xs := by
  induction x with
  | nil => intro xs h; exact h
  | lit v r ih => rintro xs ⟨ys, e, h⟩; exact ⟨ys, e, ih h⟩
  | row sz e x s r _ _ ih => rintro xs ⟨v, ys, e, h1, h⟩; exact ⟨v, ys, e, h1.strip, ih h⟩
def AV.isL : AV → Bool
  | .nil => true
  | .cons _ _ => true
  | _ => false
/-- What a callee may take an argument for. -/
def AV.arg (bx : Nat → Option (Nat × Dc)) : AV → AV → Prop
  | .nil, .junk => False
  | .cons _ _, .junk => False
  | _, .junk => True
  | .v x, .v y => x = y
  | .v x, .c d => x = .slice none 0 0 ∧ d.lent = true ∧ ∃ sz e, d.ds = .row sz e .nil .nil .nil
  | .c d, .c d' => d'.lent = true ∧ (d.ds = d'.ds ∨ d.ds.strip = d'.ds)
  | .agg d, .agg d' => d'.lent = true ∧ (d.ds = d'.ds ∨ d.ds.strip = d'.ds)
  | .el x, .el y => x = y
  | .bx k off, .el y => ∃ T d d1, bx k = some (T, d) ∧ d.dp off = some d1 ∧ d1.ds = y
  | .nil, .nil => True
  | .cons a r, .cons b s => a.arg bx b ∧ r.isL = true ∧ r.arg bx s
  | .tup a, .tup b => a.isL = true ∧ a.arg bx b
  | .fn f a p, .fn f' b q => f = f' ∧ (a.isL = true ∧ a.arg bx b) ∧ p.isL = true ∧ p.arg bx q
  | _, _ => False
/-- What stands behind a callee's arguments. -/
def argGh (F : Mem) (w : World) : Gh := { st := { env := fun _ => .junk, bx := fun _ => none, τ := fun _ => none }, F := F, w := w, base := w.heap.size, fp := fun _ => [], B := fun _ => 0 }
/-- What stands behind a callee's result. -/
def resGh (F : Mem) (w w' : World) (fp : Tk → List Nat) : Gh := { st := { env := fun _ => .junk, bx := fun _ => none, τ := fun k => if k = 0 then some 0 else none }, F := fun b o => if b < w.heap.size then F b o else U w' b o, w := w', base := w.heap.size, fp := fp, B := fun _ => 0 }
/-- No row of a result is the call's own to append to. -/
def Dc.noblk : Dc → Bool
  | .nil => true
  | .lit _ r => r.noblk
  | .nilr _ _ r => r.noblk
  | .row _ _ _ _ r => r.noblk
  | .seg _ _ r => r.noblk
  | .blk _ _ _ _ _ _ => false
def AV.plain : AV → Bool
  | .c d => d.noblk
  | .agg d => d.noblk
  | .el _ => false
  | .bx _ _ => false
  | .cons a r => a.plain && r.plain
  | .tup l => l.plain
  | .fn _ a b => a.plain && b.plain
  | _ => true
def IsCode (P : Program) (f : Nat) : Prop := ∃ fn, P.funcs[f]? = some fn ∧ fn.name ≠ "runtime.NumGoroutine" ∧ fn.body ≠ none
/-- A contract: called with data that read so, it returns data that read so (the names of groups: 0), and leaves all that lay. -/
def Holds (P : Program) (G : World → Prop) (f : Nat) (avs r : AV) : Prop := IsCode P f ∧ r.plain = true ∧ ∀ (F : Mem) (w : World) (vs : List Value), (∀ b o v, F b o = some v → U w b o = some v) → G w → RepV (argGh F w) avs vs →
  Calls P f vs.toArray w fun e w' => ∃ v fp, e = .returned v ∧ Below w.heap.size w w' ∧ RepV (resGh F w w' fp) r [v] ∧ (∀ k b, b ∈ fp k → w.heap.size ≤ b ∧ b < w'.heap.size) ∧ ∀ k k' b, b ∈ fp k → b ∈ fp k' → k = k'

theorem arg_rep {g : Gh} (hI : Inv g) {a : AV} : ∀ {b : AV} {xs : List Value}, RepV g a xs → a.arg g.st.bx b → RepV (argGh g.F g.w) b xs := by
  induction a with
  | junk =>
    intro b xs h ha
    cases b <;> first | trivial | exact ha.elim
  | v x =>
    intro b xs h ha
    cases b <;> simp only [AV.arg] at ha
    · trivial
    · subst ha; exact h
    · obtain ⟨rfl, h1, sz, e, h2⟩ := ha
      have e : xs = [.slice none 0 0] := h
      subst e
      exact RepC.lent h1 (by rw [h2]; exact ⟨trivial, trivial, trivial⟩) (by rw [h2]; exact ⟨_, [], rfl, Rd.none_ _ _ _, rfl⟩)
  | c d =>
    intro b xs h ha
    have h : RepC g d xs := h
    cases b <;> simp only [AV.arg] at ha
    · trivial
    · obtain ⟨h1, h2 | h2⟩ := ha
      · exact RepC.lent h1 (by rw [← h2]; exact h.good) (by rw [← h2]; exact h.vs)
      · exact RepC.lent h1 (by rw [← h2]; exact h.good.strip) (by rw [← h2]; exact h.vs.strip)
  | agg d =>
    rintro b xs ⟨ys, rfl, h⟩ ha
    cases b <;> simp only [AV.arg] at ha
    · trivial
    · obtain ⟨h1, h2 | h2⟩ := ha
      · exact ⟨ys, rfl, RepC.lent h1 (by rw [← h2]; exact h.good) (by rw [← h2]; exact h.vs)⟩
      · exact ⟨ys, rfl, RepC.lent h1 (by rw [← h2]; exact h.good.strip) (by rw [← h2]; exact h.vs.strip)⟩
  | bx k off =>
    rintro b xs ⟨rfl, hn⟩ ha
    cases b <;> simp only [AV.arg] at ha
    · trivial
    · obtain ⟨T, d, d1, h1, h2, rfl⟩ := ha
      obtain ⟨-, -, ys, h3, h4⟩ := hI.box k T d h1
      have hr := h4.dp _ h2
      refine ⟨hr.good, g.B k, off, ys.drop off, rfl, (Array.getElem?_eq_some_iff.1 h3).1, hr.vs, fun j u hu => ?_⟩
      have hlt : g.B k < (argGh g.F g.w).base := (Array.getElem?_eq_some_iff.1 h3).1
      unfold Gh.Fs
      rw [if_pos hlt]
      rw [List.getElem?_drop] at hu
      refine U_mk ?_ (frozen_of_row _ _ _ _ _ h3)
      show g.w.cell? _ = _
      rw [cell_of_row _ _ _ _ _ _ h3]
      simpa using hu
  | el x =>
    rintro b xs ⟨h0, b', o, ys, rfl, hb, h1, h2⟩ ha
    cases b <;> simp only [AV.arg] at ha
    · trivial
    · subst ha
      refine ⟨h0, b', o, ys, rfl, hb, h1, fun j u hu => ?_⟩
      have h3 := hI.fs (h2 j u hu)
      have hlt : b' < (argGh g.F g.w).base := hb
      unfold Gh.Fs
      rw [if_pos hlt]
      exact h3
  | nil =>
    intro b xs h ha
    cases b <;> simp only [AV.arg] at ha
    exact h
  | cons a r iha ihr =>
    rintro b xs ⟨y, ys, rfl, h1, h2⟩ ha
    cases b <;> simp only [AV.arg] at ha
    exact ⟨y, ys, rfl, iha h1 ha.1, ihr h2 ha.2.2⟩
  | tup l ih =>
    rintro b xs ⟨ys, rfl, h⟩ ha
    cases b <;> simp only [AV.arg] at ha
    · trivial
    · exact ⟨ys, rfl, ih h ha.2⟩
  | fn f x y ihx ihy =>
    rintro b xs ⟨ys, zs, rfl, h1, h2⟩ ha
    cases b <;> simp only [AV.arg] at ha
    · trivial
    · exact ⟨ys, zs, by rw [ha.1], ihx h1 ha.2.1.2, ihy h2 ha.2.2.2⟩
end Go.Proofs.YtkcmapimcgppmaaGreatDoor
end
