/-
  Steps that may be done in either order. Conditions: none (laws of the steps).
-/
import Derived.Test.YtkcmapimcgppmaaGreatDoorN05
set_option linter.all false
set_option linter.unusedVariables false
set_option linter.unusedSimpArgs false
set_option linter.unnecessarySimpa false
namespace Go.Proofs.YtkcmapimcgppmaaGreatDoor
open Go.RowKit

/-- All names in it are in use. -/
def Dc.ok (τ : Nat → Option Nat) : Dc → Prop
  | .nil => True
  | .lit _ r => r.ok τ
  | .nilr _ _ r => r.ok τ
  | .row _ _ _ _ r => r.ok τ
  | .seg _ _ r => r.ok τ
  | .blk k _ _ _ x r => τ k ≠ none ∧ x.ok τ ∧ r.ok τ
def AV.ok (bx : Nat → Option (Nat × Dc)) (τ : Nat → Option Nat) : AV → Prop
  | .c d => d.ok τ
  | .agg d => d.ok τ
  | .bx k _ => bx k ≠ none
  | .cons a r => a.ok bx τ ∧ r.ok bx τ
  | .tup l => l.ok bx τ
  | .fn _ a b => a.ok bx τ ∧ b.ok bx τ
  | _ => True
structure St.ok (st : St) : Prop where
  env : ∀ t, (st.env t).ok st.bx st.τ
  bx : ∀ k T d, st.bx k = some (T, d) → d.ok st.τ
theorem Dc.ok_mono {τ τ' : Nat → Option Nat} (h : ∀ k, τ k ≠ none → τ' k ≠ none) {d : Dc} : d.ok τ → d.ok τ' := by
  induction d with
  | nil => exact id
  | lit v r ih => exact ih
  | nilr sz e r ih => exact ih
  | row k sz e x r ih => exact ih
  | seg k d r ih => exact ih
  | blk k v sz e x r ihx ih => exact fun ⟨h1, h2, h3⟩ => ⟨h k h1, ihx h2, ih h3⟩
theorem AV.ok_mono {bx bx' : Nat → Option (Nat × Dc)} {τ τ' : Nat → Option Nat} (hb : ∀ k, bx k ≠ none → bx' k ≠ none) (h : ∀ k, τ k ≠ none → τ' k ≠ none) {a : AV} : a.ok bx τ → a.ok bx' τ' := by
  induction a with
  | c d => exact Dc.ok_mono h
  | agg d => exact Dc.ok_mono h
  | bx k o => exact hb k
  | cons a r iha ihr => exact fun ⟨h1, h2⟩ => ⟨iha h1, ihr h2⟩
  | tup l ih => exact ih
  | fn f a b iha ihb => exact fun ⟨h1, h2⟩ => ⟨iha h1, ihb h2⟩
  | _ => exact id
section
variable {τ : Nat → Option Nat} {bx : Nat → Option (Nat × Dc)} {tb : TB} {ρ : Operand → AV}
theorem Dc.ok_app {x y : Dc} (hx : x.ok τ) (hy : y.ok τ) : (x.app y).ok τ := by
  induction x with
  | nil => exact hy
  | lit v r ih => exact ih hx
  | nilr sz e r ih => exact ih hx
  | row k sz e x r ih => exact ih hx
  | seg k d r ih => exact ih hx
  | blk k v sz e x r _ ih => exact ⟨hx.1, hx.2.1, ih hx.2.2⟩
theorem Dc.ok_tk : ∀ (n : Nat) {d d' : Dc}, d.ok τ → d.tk n = some d' → d'.ok τ
  | 0, d, _, _, h => by cases d <;> (simp [Dc.tk] at h; subst h; trivial)
  | n + 1, .nil, _, _, h => by simp [Dc.tk] at h
  | n + 1, .seg _ _ r, _, ho, h => by
    simp only [Dc.tk] at h
    split at h
    · obtain ⟨x, h1, rfl⟩ := Option.map_eq_some_iff.1 h; exact (Dc.ok_tk n (d := r) ho h1 : x.ok τ)
    · cases h
  | n + 1, .lit _ r, _, ho, h => by simp [Dc.tk] at h; obtain ⟨x, h1, rfl⟩ := h; exact (Dc.ok_tk n (d := r) ho h1 : x.ok τ)
  | n + 1, .nilr _ _ r, _, ho, h => by simp [Dc.tk] at h; obtain ⟨x, h1, rfl⟩ := h; exact (Dc.ok_tk n (d := r) ho h1 : x.ok τ)
  | n + 1, .row _ _ _ _ r, _, ho, h => by simp [Dc.tk] at h; obtain ⟨x, h1, rfl⟩ := h; exact (Dc.ok_tk n (d := r) ho h1 : x.ok τ)
  | n + 1, .blk _ _ _ _ _ r, _, ho, h => by simp [Dc.tk] at h; obtain ⟨x, h1, rfl⟩ := h; exact ⟨ho.1, ho.2.1, Dc.ok_tk n ho.2.2 h1⟩
theorem Dc.ok_dp : ∀ (n : Nat) {d d' : Dc}, d.ok τ → d.dp n = some d' → d'.ok τ
  | 0, d, _, ho, h => by cases d <;> (simp [Dc.dp] at h; subst h; exact ho)
  | n + 1, .nil, _, _, h => by simp [Dc.dp] at h
  | n + 1, .seg _ _ r, _, ho, h => by
    simp only [Dc.dp] at h
    split at h
    · exact Dc.ok_dp n (d := r) ho h
    · cases h
  | n + 1, .lit _ r, _, ho, h => Dc.ok_dp n (d := r) ho (by simpa [Dc.dp] using h)
  | n + 1, .nilr _ _ r, _, ho, h => Dc.ok_dp n (d := r) ho (by simpa [Dc.dp] using h)
  | n + 1, .row _ _ _ _ r, _, ho, h => Dc.ok_dp n (d := r) ho (by simpa [Dc.dp] using h)
  | n + 1, .blk _ _ _ _ _ r, _, ho, h => Dc.ok_dp n ho.2.2 (by simpa [Dc.dp] using h)
theorem Ds.ok_hd : ∀ (n : Nat) {x : Ds} {d : Dc}, x.hd n = some d → d.ok τ
  | 0, x, d, h => by cases x <;> (simp [Ds.hd] at h; subst h; trivial)
  | n + 1, .nil, _, h => by simp [Ds.hd] at h
  | n + 1, .lit _ r, _, h => by simp [Ds.hd] at h; obtain ⟨x, h1, rfl⟩ := h; exact (Ds.ok_hd n h1 : x.ok τ)
  | n + 1, .row _ _ _ _ r, _, h => by
    simp only [Ds.hd] at h
    split at h
    · obtain ⟨x, h1, rfl⟩ := Option.map_eq_some_iff.1 h; exact (Ds.ok_hd n h1 : x.ok τ)
    · obtain ⟨x, h1, rfl⟩ := Option.map_eq_some_iff.1 h; exact (Ds.ok_hd n h1 : x.ok τ)
theorem Dc.ok_over {d p d' : Dc} {o : Nat} (hd : d.ok τ) (hp : p.ok τ) (h : d.over o p = some d') : d'.ok τ := by
  unfold Dc.over at h
  split at h
  · rename_i h1 h2
    cases h
    exact Dc.ok_app (Dc.ok_tk _ hd h1) (Dc.ok_app hp (Dc.ok_dp _ hd h2))
  · cases h
theorem Dc.ok_sing {d : Dc} (h : d.ok τ) : d.sing.ok bx τ := by
  unfold Dc.sing
  split
  · trivial
  · exact h
theorem Dc.ok_zs : ∀ {d : Dc} {xs : List Value}, d.zs = some xs → d.ok τ := by
  intro d
  induction d with
  | nil => intros; trivial
  | lit v r ih =>
    intro xs h
    simp only [Dc.zs] at h
    split at h
    · simp at h
      obtain ⟨ys, h1, -⟩ := h
      exact ih h1
    · cases h
  | nilr sz e r ih =>
    intro xs h
    simp [Dc.zs] at h
    obtain ⟨ys, h1, -⟩ := h
    exact ih h1
  | row k sz e x r _ => intro xs h; simp [Dc.zs] at h
  | seg k d r _ => intro xs h; simp [Dc.zs] at h
  | blk k v sz e x r _ _ => intro xs h; simp [Dc.zs] at h
theorem asC_ok {T : Nat} {a : AV} {c : Prop} {d : Dc} (ha : a.ok bx τ) (h : asC tb T a = some (c, d)) : d.ok τ := by
  unfold asC at h
  split at h
  · split at h
    · split at h
      · split at h
        · cases h; trivial
        · cases h; trivial
        · cases h
      · cases h
    · cases h; trivial
  · cases h; exact ha
  · cases h; exact ha
  · cases h
theorem fillD_ok {S : Nat} (hρ : ∀ x, (ρ x).ok bx τ) : ∀ (ps : List (Nat × Operand)) {d d' : Dc} {c : Prop}, d.ok τ → fillD tb S ρ ps d = some (c, d') → d'.ok τ
  | [], _, _, _, hd, h => by cases h; exact hd
  | (f, x) :: ps, d, d', c, hd, h => by
    simp only [fillD] at h
    split at h
    · split at h
      · rename_i ha
        split at h
        · rename_i ho
          obtain ⟨⟨c2, d2⟩, h1, h2⟩ := Option.map_eq_some_iff.1 h
          cases h2
          exact fillD_ok hρ ps (Dc.ok_over hd (asC_ok (hρ x) ha) ho) h1
        · cases h
      · cases h
    · cases h
theorem rowD_ok {e sz : Nat} (hρ : ∀ x, (ρ x).ok bx τ) : ∀ (ps : List (Nat × Operand)) {i : Nat} {d : Dc} {c : Prop}, rowD tb e sz ρ i ps = some (c, d) → d.ok τ
  | [], _, _, _, h => by cases h; trivial
  | (j, x) :: ps, i, d, c, h => by
    simp only [rowD] at h
    split at h
    · split at h
      · rename_i ha
        obtain ⟨⟨c2, d2⟩, h1, h2⟩ := Option.map_eq_some_iff.1 h
        cases h2
        exact Dc.ok_app (asC_ok (hρ x) ha) (rowD_ok hρ ps h1)
      · cases h
    · cases h
theorem nth_ok {l : AV} : ∀ {i : Nat} {x : AV}, l.ok bx τ → l.nth i = some x → x.ok bx τ := by
  induction l with
  | cons b r _ ih =>
    intro i x ho h
    cases i with
    | zero => cases h; exact ho.1
    | succ i => exact ih ho.2 h
  | _ => intro i x _ h; cases h
theorem list_ok (hρ : ∀ x, (ρ x).ok bx τ) : ∀ l : List Operand, (AV.list (l.map ρ)).ok bx τ
  | [] => trivial
  | x :: l => ⟨hρ x, list_ok hρ l⟩
end

/-- The state of the slots as operands; of N slots. -/
def ev (st : St) (N : Nat) : Operand → AV
  | .tmp t => if t < N then st.env t else .junk
  | .const v => .v v
  | .global g => .v (.pointer (some ⟨g, 0, none⟩))
  | .func f => .v (.func (.func f) #[] #[])
def nmOf (o : Oper) : Nat := match o.dst with
  | some d => d + 1
  | none => 0
def putE (dst : Option Tmp) (a : AV) (env : Nat → AV) : Nat → AV := match dst with
  | some d => fun t => if t = d then a else env t
  | none => env
/-- What is told of a slot that is written is told no more. -/
def fxE (dst : Option Tmp) (fx : Nat → Option Value) : Nat → Option Value := fun t => if dst = some t then none else fx t
def St.out (st : St) (o : Oper) (r : Out) : St := { env := putE o.dst r.av st.env, bx := updo st.bx r.bu, τ := updo st.τ r.tu, fx := fxE o.dst st.fx }
/-- The variable that an operation goes to. -/
def contOf (st : St) (N : Nat) : Op → Option (Nat × Dc)
  | .load _ ad => match ev st N ad with
    | .bx k _ => st.bx k
    | _ => none
  | .store _ ad _ => match ev st N ad with
    | .bx k _ => st.bx k
    | _ => none
  | _ => none
def fresh (st : St) (r : Out) : Prop := (∀ k x, r.bu = some (k, x) → st.bx k = none ∧ k < K0) ∧ ∀ k x, r.tu = some (k, x) → st.τ k = none
/-- What an operation does. -/
def Does (P : Program) (G : World → Prop) (tb : TB) (N : Nat) (o : Oper) (st : St) (r : Out) : Prop :=
  match o.op with
  | .store _ _ _ => ∃ c, astore tb (ev st N) (contOf st N o.op) o.op = some (c, r) ∧ c
  | .call cl => match cl.callee with
    | .builtin .append => ∃ c, aapp tb (ev st N) st.τ (nmOf o) cl = some (c, r) ∧ c
    | .value fo => ∃ f x y avs res, calleeOf (ev st N fo) = some (f, x, y) ∧ (x.isLL = true ∧ y.isLL = true) ∧ Holds P G f avs res ∧ (x.app ((AV.list (cl.args.toList.map (ev st N))).app y)).arg st.bx avs ∧ st.τ (nmOf o) = none ∧ r = { av := res.ren (nmOf o), tu := some (nmOf o, 0) }
    | _ => ∃ c, aout tb (ev st N) (contOf st N o.op) (nmOf o) o.op = some (c, r) ∧ c ∧ fresh st r
  | _ => ∃ c, aout tb (ev st N) (contOf st N o.op) (nmOf o) o.op = some (c, r) ∧ c ∧ fresh st r
/-- The same, if its guard lets it. -/
def DoesG (P : Program) (G : World → Prop) (tb : TB) (N : Nat) (ops : Array Oper) (o : Oper) (st : St) (r : Out) : Prop :=
  match o.guard with
  | none => Does P G tb N o st r
  | some (j, want) => ∃ d b, (ops[j]?).bind (·.dst) = some d ∧ ev st N (.tmp d) = .v (.bool b) ∧ ((b = want ∧ Does P G tb N o st r) ∨ (b ≠ want ∧ r = { av := .v undef }))
/-- The operations, one behind the other. -/
def Run (P : Program) (G : World → Prop) (tb : TB) (N : Nat) (ops : Array Oper) : List Nat → St → St → Prop
  | [], st, st' => st = st'
  | i :: is, st, st' => ∃ o r, ops[i]? = some o ∧ DoesG P G tb N ops o st r ∧ Run P G tb N ops is (st.out o r) st'
theorem ev_ok {st : St} (h : st.ok) (N : Nat) (x : Operand) : (ev st N x).ok st.bx st.τ := by
  cases x with
  | tmp t =>
    show (if t < N then st.env t else .junk : AV).ok _ _
    split
    · exact h.env t
    · trivial
  | _ => trivial

variable {P : Program} {G : World → Prop} {tb : TB} {N : Nat} {ops : Array Oper}

theorem upd_same {α : Type} (f : Nat → Option α) (k : Nat) (x : α) : upd f k x k = some x := if_pos rfl
theorem upd_ne {α : Type} (f : Nat → Option α) {k n : Nat} (x : α) (h : n ≠ k) : upd f k x n = f n := if_neg h
theorem updo_mono {α : Type} {f : Nat → Option α} {r : Option (Nat × α)} {k : Nat} (h : f k ≠ none) : updo f r k ≠ none := by
  cases r with
  | none => exact h
  | some q =>
    show upd f q.1 q.2 k ≠ none
    unfold upd
    split
    · simp
    · exact h
/-- What is in use before the step is in use behind it. -/
theorem out_mono (st : St) (o : Oper) (r : Out) : (∀ k, st.bx k ≠ none → (st.out o r).bx k ≠ none) ∧ ∀ k, st.τ k ≠ none → (st.out o r).τ k ≠ none := ⟨fun _ h => updo_mono h, fun _ h => updo_mono h⟩
theorem out_env (st : St) (o : Oper) (r : Out) (t : Nat) : (st.out o r).env t = if o.dst = some t then r.av else st.env t := by
  unfold St.out putE
  cases h : o.dst with
  | none => simp
  | some d =>
    simp only [Option.some.injEq]
    by_cases e : t = d
    · subst e; simp
    · rw [if_neg e, if_neg (fun h => e h.symm)]
/-- The result's names are in use behind it. -/
structure OutOk (st : St) (r : Out) : Prop where
  av : r.av.ok (updo st.bx r.bu) (updo st.τ r.tu)
  bu : ∀ k T d, r.bu = some (k, T, d) → d.ok (updo st.τ r.tu)
theorem St.ok_out {st : St} (h : st.ok) {o : Oper} {r : Out} (hr : OutOk st r) : (st.out o r).ok := by
  have hm := out_mono st o r
  constructor
  · intro t
    rw [out_env]
    split
    · exact hr.av
    · exact AV.ok_mono hm.1 hm.2 (h.env t)
  · intro k T d e
    change updo st.bx r.bu k = some (T, d) at e
    show d.ok (updo st.τ r.tu)
    cases hb : r.bu with
    | none =>
      rw [hb] at e
      exact Dc.ok_mono hm.2 (h.bx k T d e)
    | some q =>
      obtain ⟨k', T', d'⟩ := q
      rw [hb] at e
      change upd st.bx k' (T', d') k = some (T, d) at e
      by_cases hk : k = k'
      · subst hk
        rw [upd_same] at e
        cases e
        exact hr.bu _ _ _ hb
      · rw [upd_ne _ _ hk] at e
        exact Dc.ok_mono hm.2 (h.bx k T d e)

theorem aout_ok {st : St} (hs : st.ok) {cont : Option (Nat × Dc)} (hc : ∀ T d, cont = some (T, d) → d.ok st.τ) {nm : Nat} {op : Op} {c : Prop} {r : Out} (h : aout tb (ev st N) cont nm op = some (c, r)) (hT : ∀ T y, tb T = some y → ∃ xs, y.zero.zs = some xs) : OutOk st r := by
  have hρ := ev_ok hs N
  have plain : ∀ a : AV, a.ok st.bx st.τ → OutOk st { av := a } := fun a ha => ⟨ha, fun k T d e => by cases e⟩
  cases op <;> simp only [aout] at h <;> try (cases h; done)
  case move x => cases h; exact plain _ (hρ x)
  case assign x => cases h; exact plain _ (hρ x)
  case pick c' x y =>
    split at h
    · rename_i t _
      cases h
      refine plain _ ?_
      cases t
      · exact hρ y
      · exact hρ x
    · cases h
  case alloc T =>
    obtain ⟨y, hy, e⟩ := Option.map_eq_some_iff.1 h
    cases e
    obtain ⟨xs, hz⟩ := hT T y hy
    exact ⟨by show upd st.bx nm _ nm ≠ none; rw [upd_same]; simp, fun k T d e => by cases e; exact Dc.ok_zs hz⟩
  case box T x =>
    obtain ⟨⟨c', d⟩, hd, e⟩ := Option.map_eq_some_iff.1 h
    cases e
    exact ⟨by show upd st.bx nm _ nm ≠ none; rw [upd_same]; simp, fun k T d' e => by cases e; exact asC_ok (hρ x) hd⟩
  case build T ps =>
    split at h
    · rename_i hy
      obtain ⟨⟨c', d⟩, hd, e⟩ := Option.map_eq_some_iff.1 h
      cases e
      obtain ⟨xs, hz⟩ := hT T _ hy
      exact plain _ (fillD_ok hρ _ (Dc.ok_zs hz) hd)
    · cases h
  case buildSlice T n ps =>
    split at h
    · split at h
      · obtain ⟨⟨c', d⟩, hd, e1⟩ := Option.map_eq_some_iff.1 h
        cases e1
        have hd' := rowD_ok hρ _ hd
        refine ⟨⟨?_, ?_, trivial⟩, fun k T d e => by cases e⟩
        · show upd st.τ nm 1 nm ≠ none; rw [upd_same]; simp
        · exact Dc.ok_mono (fun k hk => updo_mono (r := some (nm, 1)) hk) hd'
      · cases h
    · cases h
  case load T ad =>
    split at h
    · split at h
      · split at h
        · rename_i T0 d
          split at h
          · rename_i hd1
            split at h
            · rename_i hd2
              have hok := Dc.ok_tk _ (Dc.ok_dp _ (hc _ _ rfl) hd1) hd2
              split at h
              · cases h; exact plain _ hok
              · cases h
              · cases h; exact plain _ (Dc.ok_sing hok)
            · cases h
          · cases h
        · cases h
      · split at h
        · rename_i hd2
          have hok : Dc.ok st.τ _ := Ds.ok_hd _ hd2
          split at h
          · cases h; exact plain _ hok
          · cases h
          · cases h; exact plain _ (Dc.ok_sing hok)
        · cases h
      · cases h
    · cases h
  case nilCheck x =>
    have hx := hρ x
    split at h
    · rename_i hk
      cases h
      rw [hk] at hx
      exact plain _ hx
    · cases h; exact plain _ trivial
    · cases h
  case fieldAddr S x f =>
    have hx := hρ x
    split at h
    · split at h
      · rename_i hk
        cases h
        rw [hk] at hx
        exact plain _ hx
      · cases h; exact plain _ trivial
      · cases h
    · cases h
  case field S x f =>
    have hx := hρ x
    split at h
    · split at h
      · rename_i hk
        rw [hk] at hx
        split at h
        · rename_i hd1
          split at h
          · rename_i hd2
            have hok := Dc.ok_tk _ (Dc.ok_dp _ hx hd1) hd2
            split at h
            · cases h; exact plain _ hok
            · cases h
            · cases h; exact plain _ (Dc.ok_sing hok)
          · cases h
        · cases h
      · cases h
    · cases h
  case indexAddr T x i =>
    split at h
    · split at h
      · split at h
        · cases h; exact plain _ trivial
        · cases h
      · cases h
    · cases h
  case extract t i =>
    have ht := hρ t
    split at h
    · rename_i l hl
      obtain ⟨x, hx, e⟩ := Option.map_eq_some_iff.1 h
      cases e
      rw [hl] at ht
      exact plain _ (nth_ok (l := l) ht hx)
    · cases h
  case binOp op T x y T2 =>
    split at h
    · split at h
      · cases h; exact plain _ trivial
      · unfold abool at h
        split at h
        · cases h; exact plain _ trivial
        · cases h
    · cases h
  case unOp op T x =>
    split at h
    · cases h; exact plain _ trivial
    · cases h; exact plain _ trivial
    · cases h
  case convert s t x =>
    split at h
    · split at h
      · cases h; exact plain _ trivial
      · cases h
    · cases h
  case makeFunc f x y =>
    cases h
    exact plain _ ⟨list_ok hρ _, list_ok hρ _⟩
  case slice T x lo hi mx =>
    unfold aslice at h
    repeat' (split at h)
    all_goals first | (cases h; done) | (cases h; exact plain _ trivial)
  case makeSlice T x y =>
    unfold amake at h
    repeat' (split at h)
    all_goals first | (cases h; done) | (cases h; refine ⟨⟨by show upd st.τ nm 1 nm ≠ none; rw [upd_same]; simp, trivial, trivial⟩, fun k T d e => by cases e⟩)
  case call cl =>
    unfold abuiltin at h
    split at h
    · split at h
      · split at h
        · split at h
          · cases h; exact plain _ trivial
          · cases h; exact plain _ trivial
          · split at h
            · cases h; exact plain _ trivial
            · cases h
          · cases h
        · cases h
      · cases h
    · split at h
      · split at h
        · cases h; exact plain _ trivial
        · cases h
      · cases h
    · cases h

theorem lits_ok {x : AV} {d : Dc} {st : St} (hx : x.ok st.bx st.τ) {q : Option (Nat × Nat × Nat × Nat)} (h : srcOf x = some (q, d)) : d.ok st.τ ∧ ∀ k v s e, q = some (k, v, s, e) → st.τ k ≠ none := by
  unfold srcOf at h
  split at h
  · cases h; exact ⟨trivial, fun _ _ _ _ e => by cases e⟩
  · cases h; exact ⟨trivial, fun _ _ _ _ e => by cases e⟩
  · cases h
    exact ⟨hx.2.1, fun _ _ _ _ e => by cases e; exact hx.1⟩
  · cases h
theorem els_ok {x : AV} {d : Dc} {st : St} {sz : Nat} {c : Prop} (hx : x.ok st.bx st.τ) (h : elsOf st.τ sz x = some (c, d)) : d.ok st.τ := by
  unfold elsOf at h
  split at h
  · cases h; trivial
  · cases h; trivial
  · cases h; trivial
  · cases h; exact hx.2.1
  · cases h
theorem aapp_ok {st : St} (hs : st.ok) {nm : Nat} {cl : Call} {c : Prop} {r : Out} (h : aapp tb (ev st N) st.τ nm cl = some (c, r)) : OutOk st r := by
  have hρ := ev_ok hs N
  unfold aapp at h
  split at h
  · split at h
    · split at h
      · have key : ∀ (k v sz e : Nat) (d p : Dc), d.ok st.τ → p.ok st.τ → OutOk st { av := .c (.blk k v sz e (d.app p) .nil), tu := some (k, v) } := fun k v sz e d p hd hp => by
          refine ⟨⟨?_, ?_, trivial⟩, fun k T d e => by cases e⟩
          · show upd st.τ k v k ≠ none; rw [upd_same]; simp
          · exact Dc.ok_mono (fun j hj => updo_mono (r := some (k, v)) hj) (Dc.ok_app hd hp)
        split at h
        · rename_i h1 h2
          cases h
          exact key _ _ _ _ _ _ (lits_ok (hρ _) h1).1 (els_ok (hρ _) h2)
        · rename_i h1 h2
          cases h
          exact key _ _ _ _ _ _ (lits_ok (hρ _) h1).1 (els_ok (hρ _) h2)
        · cases h
      · cases h
    · cases h
  · cases h
theorem noblk_ok {τ : Nat → Option Nat} {n : Nat} {d : Dc} (h : d.noblk = true) : (d.ren n).ok τ := by
  induction d with
  | nil => trivial
  | lit v r ih => exact ih h
  | nilr sz e r ih => exact ih h
  | row k sz e x r ih => exact ih h
  | seg k d r ih => exact ih h
  | blk k v sz e x r _ _ => cases h
theorem ren_ok {τ : Nat → Option Nat} {bx : Nat → Option (Nat × Dc)} {n : Nat} {r : AV} (h : r.plain = true) : (r.ren n).ok bx τ := by
  induction r with
  | c d => exact noblk_ok h
  | agg d => exact noblk_ok h
  | bx k o => cases h
  | el x => cases h
  | cons a r iha ihr =>
    simp only [AV.plain, Bool.and_eq_true] at h
    exact ⟨iha h.1, ihr h.2⟩
  | tup l ih => exact ih h
  | fn f a b iha ihb =>
    simp only [AV.plain, Bool.and_eq_true] at h
    exact ⟨iha h.1, ihb h.2⟩
  | _ => trivial
theorem contOf_ok {st : St} (hs : st.ok) {op : Op} {T : Nat} {d : Dc} (h : contOf st N op = some (T, d)) : d.ok st.τ := by
  unfold contOf at h
  split at h
  · split at h
    · exact hs.bx _ _ _ h
    · cases h
  · split at h
    · exact hs.bx _ _ _ h
    · cases h
  · cases h
theorem astore_ok {st : St} (hs : st.ok) {op : Op} {c : Prop} {r : Out} (h : astore tb (ev st N) (contOf st N op) op = some (c, r)) : OutOk st r := by
  cases op <;> simp only [astore] at h <;> try (cases h; done)
  case store T ad x =>
    split at h
    · rename_i k off T0 d c0 p y hk hcn hx hy
      split at h
      · rename_i d' hd'
        cases h
        exact ⟨trivial, fun k T d e => by cases e; exact Dc.ok_over (contOf_ok hs hcn) (asC_ok (ev_ok hs N x) hx) hd'⟩
      · cases h
    · cases h
theorem does_ok (hT : TbOk P tb) {st : St} (hs : st.ok) {o : Oper} {r : Out} (h : Does P G tb N o st r) : OutOk st r := by
  have hz : ∀ T y, tb T = some y → ∃ xs, y.zero.zs = some xs := fun T y hy => ⟨_, (hT T y hy).2.2.1⟩
  have calm : (∃ c, aout tb (ev st N) (contOf st N o.op) (nmOf o) o.op = some (c, r) ∧ c ∧ fresh st r) → OutOk st r := fun ⟨_, h1, _⟩ => aout_ok hs (fun T d e => contOf_ok hs e) h1 hz
  unfold Does at h
  split at h
  · obtain ⟨c, h1, -⟩ := h
    exact astore_ok hs h1
  · split at h
    · obtain ⟨c, h1, -⟩ := h
      exact aapp_ok hs h1
    · obtain ⟨f, x, y, avs, res, -, -, hH, -, -, rfl⟩ := h
      exact ⟨ren_ok hH.2.1, fun k T d e => by cases e⟩
    · exact calm h
  · exact calm h
theorem doesG_ok (hT : TbOk P tb) {st : St} (hs : st.ok) {o : Oper} {r : Out} (h : DoesG P G tb N ops o st r) : OutOk st r := by
  unfold DoesG at h
  split at h
  · exact does_ok hT hs h
  · obtain ⟨d, b, -, -, ⟨-, h⟩ | ⟨-, rfl⟩⟩ := h
    · exact does_ok hT hs h
    · exact ⟨trivial, fun k T d e => by cases e⟩

/-! ### What a step hangs on -/
theorem fillD_congr {ρ ρ' : Operand → AV} {S : Nat} : ∀ (ps : List (Nat × Operand)) (d : Dc), (∀ p ∈ ps, ρ p.2 = ρ' p.2) → fillD tb S ρ ps d = fillD tb S ρ' ps d
  | [], _, _ => rfl
  | (f, x) :: ps, d, h => by
    have h1 := h (f, x) (by simp)
    simp only at h1
    simp only [fillD, h1, fillD_congr ps _ (fun p hp => h p (by simp [hp]))]
theorem rowD_congr {ρ ρ' : Operand → AV} {e sz : Nat} : ∀ (ps : List (Nat × Operand)) (i : Nat), (∀ p ∈ ps, ρ p.2 = ρ' p.2) → rowD tb e sz ρ i ps = rowD tb e sz ρ' i ps
  | [], _, _ => rfl
  | (j, x) :: ps, i, h => by
    have h1 := h (j, x) (by simp)
    simp only at h1
    simp only [rowD, h1, rowD_congr ps _ (fun p hp => h p (by simp [hp]))]
theorem aout_congr {ρ ρ' : Operand → AV} {cont : Option (Nat × Dc)} {nm : Nat} {op : Op} (h : ∀ x ∈ op.operands, ρ x = ρ' x) : aout tb ρ cont nm op = aout tb ρ' cont nm op := by
  cases op <;> simp only [Op.operands] at h <;> simp only [aout]
  case move x => rw [h x (by simp)]
  case assign x => rw [h x (by simp)]
  case pick c x y => rw [h c (by simp), h x (by simp), h y (by simp)]
  case box T x => rw [h x (by simp)]
  case build T ps =>
    have := fillD_congr (tb := tb) (ρ := ρ) (ρ' := ρ') (S := T) ps.toList
    split
    · rw [this _ fun p hp => h p.2 (by simp; exact ⟨p.1, by simpa using hp⟩)]
    · rfl
  case buildSlice T n ps =>
    split
    · split
      · rw [rowD_congr (ρ := ρ) (ρ' := ρ') ps.toList _ fun p hp => h p.2 (by simp; exact ⟨p.1, by simpa using hp⟩)]
      · rfl
    · rfl
  case load T x => rw [h x (by simp)]
  case nilCheck x => rw [h x (by simp)]
  case fieldAddr S x f => rw [h x (by simp)]
  case field S x f => rw [h x (by simp)]
  case indexAddr T x i => rw [h x (by simp), h i (by simp)]
  case extract t i => rw [h t (by simp)]
  case binOp op T x y T2 => rw [h x (by simp), h y (by simp)]
  case unOp op T x => rw [h x (by simp)]
  case convert s t x => rw [h x (by simp)]
  case makeFunc f x y =>
    have e1 : x.toList.map ρ = x.toList.map ρ' := List.map_congr_left fun z hz => h z (by rw [Array.mem_append]; exact .inl (by simpa using hz))
    have e2 : y.toList.map ρ = y.toList.map ρ' := List.map_congr_left fun z hz => h z (by rw [Array.mem_append]; exact .inr (by simpa using hz))
    rw [e1, e2]
  case slice T x lo hi mx =>
    unfold aslice
    have e1 : lo.map ρ = lo.map ρ' := by cases lo with
      | none => rfl
      | some l => simp [h l (by simp)]
    have e2 : hi.map ρ = hi.map ρ' := by cases hi with
      | none => rfl
      | some l => simp [h l (by simp)]
    cases lo with
    | none =>
      rw [h x (by simp), e2]
      cases hr : (ρ' x).room with
      | none => simp only [Option.map_none]
      | some r => obtain ⟨sz, d, s⟩ := r; simp only
    | some l => simp only [e1, e2, h x (by simp)]
  case makeSlice T x y => simp only [amake, h x (by simp), h y (by simp)]
  case call cl =>
    unfold abuiltin
    split
    · split
      · rename_i x T hx _
        have hm : x ∈ cl.args.toList := by rw [hx]; simp
        rw [h x (by simp [Call.operands]; exact .inr (by simpa using hm))]
      · rfl
    · split
      · rename_i x y hx
        have hm : x ∈ cl.args.toList ∧ y ∈ cl.args.toList := by rw [hx]; simp
        rw [h x (by simp [Call.operands]; exact .inr (by simpa using hm.1)), h y (by simp [Call.operands]; exact .inr (by simpa using hm.2))]
      · rfl
    · rfl
theorem arg_congr {bx bx' bx0 : Nat → Option (Nat × Dc)} {τ : Nat → Option Nat} (hb : ∀ k, bx0 k ≠ none → bx' k = bx k) {a : AV} : ∀ {b : AV}, a.ok bx0 τ → a.arg bx b → a.arg bx' b := by
  induction a with
  | bx k off =>
    intro b ho h
    cases b <;> simp only [AV.arg] at h ⊢
    rw [hb k ho]; exact h
  | cons a r iha ihr =>
    intro b ho h
    cases b <;> simp only [AV.arg] at h ⊢
    exact ⟨iha ho.1 h.1, h.2.1, ihr ho.2 h.2.2⟩
  | tup l ih =>
    intro b ho h
    cases b <;> simp only [AV.arg] at h ⊢
    exact ⟨h.1, ih ho h.2⟩
  | fn f x y ihx ihy =>
    intro b ho h
    cases b <;> simp only [AV.arg] at h ⊢
    exact ⟨h.1, ⟨h.2.1.1, ihx ho.1 h.2.1.2⟩, h.2.2.1, ihy ho.2 h.2.2.2⟩
  | _ =>
    intro b _ h
    cases b <;> simp only [AV.arg] at h ⊢ <;> exact h

def isStore : Op → Bool
  | .store _ _ _ => true
  | _ => false
def isApp : Op → Bool
  | .call cl => match cl.callee with
    | .builtin .append => true
    | _ => false
  | _ => false
/-- Does it look into variables? -/
def looksIn : Op → Bool
  | .store _ _ _ => true
  | .load _ _ => true
  | .call cl => match cl.callee with
    | .value _ => true
    | _ => false
  | _ => false
theorem contOf_congr {st st' st0 : St} {op : Op} (h0 : ∀ x ∈ op.operands, (ev st N x).ok st0.bx st0.τ) (hev : ∀ x ∈ op.operands, ev st N x = ev st' N x) (hbx : looksIn op = true → ∀ k, st0.bx k ≠ none → st'.bx k = st.bx k) : contOf st N op = contOf st' N op := by
  cases op <;> simp only [Op.operands] at hev h0 <;> simp only [contOf]
  case load T x =>
    rw [← hev x (by simp)]
    have h1 := h0 x (by simp)
    split
    · rename_i k off hk
      rw [hk] at h1
      exact (hbx rfl k h1).symm
    · rfl
  case store T x y =>
    rw [← hev x (by simp)]
    have h1 := h0 x (by simp)
    split
    · rename_i k off hk
      rw [hk] at h1
      exact (hbx rfl k h1).symm
    · rfl
theorem elsOf_congr {τ τ' τ0 : Nat → Option Nat} {bx0 : Nat → Option (Nat × Dc)} (h : ∀ k, τ0 k ≠ none → τ' k = τ k) {a : AV} (ha : a.ok bx0 τ0) (sz : Nat) : elsOf τ sz a = elsOf τ' sz a := by
  unfold elsOf
  split
  · rfl
  · rfl
  · rfl
  · rename_i k ver s t x
    rw [h k ha.1]
  · rfl
theorem aapp_congr {ρ ρ' : Operand → AV} {τ τ' τ0 : Nat → Option Nat} {bx0 : Nat → Option (Nat × Dc)} {nm : Nat} {cl : Call} {c : Prop} {r : Out} (hρ : ∀ x ∈ cl.args, (ρ x).ok bx0 τ0) (hev : ∀ x ∈ cl.args, ρ x = ρ' x) (hτ : ∀ k, τ0 k ≠ none → τ' k = τ k) (hf : ∀ v, r.tu = some (nm, v) → τ nm = none → τ' nm = none)
    (h : aapp tb ρ τ nm cl = some (c, r)) (hc : c) : ∃ c', aapp tb ρ' τ' nm cl = some (c', r) ∧ c' := by
  unfold aapp at h ⊢
  split at h
  · rename_i s x T T' hxs hts
    have ms : s ∈ cl.args := by
      have : s ∈ cl.args.toList := by rw [hxs]; simp
      simpa using this
    have mx : x ∈ cl.args := by
      have : x ∈ cl.args.toList := by rw [hxs]; simp
      simpa using this
    have es := hev s ms
    have ex := hev x mx
    split at h
    · rename_i hy
      split at h
      · rename_i y hye
        split at h
        · rename_i h1 h2
          cases h
          obtain ⟨k1, k2, k3, k4, k5⟩ := hc
          simp only [← es, ← ex, h1, ← elsOf_congr hτ (hρ x mx), h2]
          exact ⟨_, rfl, k1, k2, k3, k4, hf _ rfl k5⟩
        · rename_i k ver sz e' d c0 p h1 h2
          cases h
          obtain ⟨k1, k2, k3, k4, k5, k6⟩ := hc
          have hk : τ0 k ≠ none := by
            have := hρ s ms
            unfold srcOf at h1
            split at h1 <;> cases h1
            rename_i hq
            rw [hq] at this
            exact this.1
          simp only [← es, ← ex, h1, ← elsOf_congr hτ (hρ x mx), h2]
          exact ⟨_, rfl, k1, k2, k3, k4, by rw [hτ k hk]; exact k5, k6⟩
        · cases h
      · cases h
    · cases h
  · cases h
theorem list_okm {bx : Nat → Option (Nat × Dc)} {τ : Nat → Option Nat} {ρ : Operand → AV} : ∀ l : List Operand, (∀ x ∈ l, (ρ x).ok bx τ) → (AV.list (l.map ρ)).ok bx τ
  | [], _ => trivial
  | x :: l, h => ⟨h x (by simp), list_okm l fun y hy => h y (by simp [hy])⟩
/-- What an operation does hangs on its operands, on the variables that it looks into, on the names that it goes on with. -/
theorem does_congr {st st' st0 : St} {o : Oper} {r : Out} (h0 : ∀ x ∈ o.op.operands, (ev st N x).ok st0.bx st0.τ) (hev : ∀ x ∈ o.op.operands, ev st N x = ev st' N x) (hbx : looksIn o.op = true → ∀ k, st0.bx k ≠ none → st'.bx k = st.bx k) (hτ : isApp o.op = true → ∀ k, st0.τ k ≠ none → st'.τ k = st.τ k)
    (hf : ∀ k x, r.bu = some (k, x) → st.bx k = none → st'.bx k = none) (hg : ∀ k x, r.tu = some (k, x) → st.τ k = none → st'.τ k = none) (h : Does P G tb N o st r) : Does P G tb N o st' r := by
  have hcont := contOf_congr (N := N) h0 hev hbx
  have calm : (∃ c, aout tb (ev st N) (contOf st N o.op) (nmOf o) o.op = some (c, r) ∧ c ∧ fresh st r) → ∃ c, aout tb (ev st' N) (contOf st' N o.op) (nmOf o) o.op = some (c, r) ∧ c ∧ fresh st' r := fun ⟨c, h1, h2, h3⟩ =>
    ⟨c, by rw [← hcont, ← aout_congr (ρ := ev st N) hev]; exact h1, h2, fun k x e => ⟨hf k x e (h3.1 k x e).1, (h3.1 k x e).2⟩, fun k x e => hg k x e (h3.2 k x e)⟩
  obtain ⟨dst, op, ty, pos, after, guard⟩ := o
  unfold Does at h ⊢
  cases op <;> simp only at h hev h0 hbx hτ hcont calm ⊢ <;> try (exact calm h)
  case store T ad x =>
    obtain ⟨c, h1, h2⟩ := h
    refine ⟨c, ?_, h2⟩
    rw [← hcont]
    simp only [astore] at h1 ⊢
    rw [← hev ad (by simp [Op.operands]), ← hev x (by simp [Op.operands])]
    exact h1
  case call cl =>
    obtain ⟨callee, xs, ts⟩ := cl
    cases callee with
    | invoke r m => exact calm h
    | value fo =>
      simp only at h ⊢
      obtain ⟨f, x, y, avs, res, k1, k2, k3, k4, k5, rfl⟩ := h
      have el : (xs.toList.map (ev st' N)) = xs.toList.map (ev st N) := List.map_congr_left fun z hz => (hev z (by simp [Op.operands, Call.operands]; exact .inr (by simpa using hz))).symm
      refine ⟨f, x, y, avs, res, by rw [← hev fo (by simp [Op.operands, Call.operands])]; exact k1, k2, k3, ?_, hg _ _ rfl k5, rfl⟩
      rw [el]
      refine arg_congr (τ := st0.τ) (hbx rfl) ?_ k4
      have hfo := h0 fo (by simp [Op.operands, Call.operands])
      have hx : x.ok st0.bx st0.τ ∧ y.ok st0.bx st0.τ := by
        unfold calleeOf at k1
        split at k1
        · cases k1
          have hv : ∀ l : List Value, (AV.list (l.map .v)).ok st0.bx st0.τ := fun l => by
            induction l with
            | nil => trivial
            | cons u l ih => exact ⟨trivial, ih⟩
          exact ⟨hv _, hv _⟩
        · rename_i hq
          cases k1
          rw [hq] at hfo
          exact hfo
        · cases k1
      have app_ok : ∀ a b : AV, a.ok st0.bx st0.τ → b.ok st0.bx st0.τ → (a.app b).ok st0.bx st0.τ := by
        intro a b ha hb
        induction a with
        | cons u v _ ih => exact ⟨ha.1, ih ha.2⟩
        | _ => exact hb
      exact app_ok _ _ hx.1 (app_ok _ _ (list_okm _ fun z hz => h0 z (by simp [Op.operands, Call.operands]; exact .inr (by simpa using hz))) hx.2)
    | builtin b =>
      cases b <;> simp only at h ⊢ <;> try (exact calm h)
      case append =>
        obtain ⟨c, h1, h2⟩ := h
        exact aapp_congr (fun x hx => h0 x (by simpa [Op.operands, Call.operands] using hx)) (fun x hx => hev x (by simpa [Op.operands, Call.operands] using hx)) (hτ rfl) (fun v e h => hg _ _ e h) h1 h2

theorem aout_ver {ρ : Operand → AV} {cont : Option (Nat × Dc)} {nm : Nat} {op : Op} {c : Prop} {r : Out} (h : aout tb ρ cont nm op = some (c, r)) : ∀ k v, r.tu = some (k, v) → v ≤ 1 := by
  cases op <;> simp only [aout] at h <;> try (cases h; done)
  case buildSlice T n ps =>
    split at h
    · split at h
      · obtain ⟨⟨c', d⟩, hd, e1⟩ := Option.map_eq_some_iff.1 h
        cases e1
        intro k v e
        cases e
        exact Nat.le_refl _
      · cases h
    · cases h
  case slice T x lo hi mx =>
    unfold aslice at h
    repeat' (split at h)
    all_goals first | (cases h; done) | (cases h; intro k v e; cases e)
  case binOp op T x y T2 =>
    simp only [abool] at h
    repeat' (split at h)
    all_goals first | (cases h; done) | (cases h; intro k v e; cases e)
  case makeSlice T x y =>
    unfold amake at h
    repeat' (split at h)
    all_goals first | (cases h; done) | (cases h; intro k v e; cases e; exact Nat.le_refl _)
  case call cl =>
    unfold abuiltin at h
    repeat' (split at h)
    all_goals first | (cases h; done) | (cases h; intro k v e; cases e)
  all_goals (repeat' (first | split at h | (rw [Option.map_eq_some_iff] at h; obtain ⟨y, hy, h⟩ := h)))
  all_goals first | (cases h; done) | (cases h; intro k v e; cases e)
/-- Which names a step turns. -/
theorem does_names {st : St} {o : Oper} {r : Out} (h : Does P G tb N o st r) : (∀ k c, r.bu = some (k, c) → (isStore o.op = true ∧ st.bx k ≠ none) ∨ (isStore o.op = false ∧ st.bx k = none)) ∧ ∀ k v, r.tu = some (k, v) → (isApp o.op = true ∧ ∃ old, st.τ k = some old ∧ old ≠ 0 ∧ v = old + 1) ∨ (st.τ k = none ∧ v ≤ 1) := by
  have calm : isStore o.op = false → (∃ c, aout tb (ev st N) (contOf st N o.op) (nmOf o) o.op = some (c, r) ∧ c ∧ fresh st r) → (∀ k c, r.bu = some (k, c) → (isStore o.op = true ∧ st.bx k ≠ none) ∨ (isStore o.op = false ∧ st.bx k = none)) ∧ ∀ k v, r.tu = some (k, v) → (isApp o.op = true ∧ ∃ old, st.τ k = some old ∧ old ≠ 0 ∧ v = old + 1) ∨ (st.τ k = none ∧ v ≤ 1) := fun hs ⟨_, h1, _, h3⟩ =>
    ⟨fun k c e => .inr ⟨hs, (h3.1 k c e).1⟩, fun k v e => .inr ⟨h3.2 k v e, aout_ver h1 k v e⟩⟩
  obtain ⟨dst, op, ty, pos, after, guard⟩ := o
  unfold Does at h
  cases op <;> simp only at h calm ⊢ <;> try (exact calm rfl h)
  case store T ad x =>
    obtain ⟨c, h1, -⟩ := h
    simp only [astore, contOf] at h1
    split at h1
    · rename_i k off T0 d c0 p y hk hcn hx hy
      split at h1
      · cases h1
        rw [hk] at hcn
        have hcn : st.bx k = some (T0, d) := hcn
        exact ⟨(fun k' c' e => by cases e; exact .inl ⟨rfl, by rw [hcn]; simp⟩), (fun _ _ e => by cases e)⟩
      · cases h1
    · cases h1
  case call cl =>
    obtain ⟨callee, xs, ts⟩ := cl
    cases callee with
    | invoke r m => exact calm rfl h
    | value fo =>
      obtain ⟨f, x, y, avs, res, -, -, -, -, h5, rfl⟩ := h
      exact ⟨(fun _ _ e => by cases e), (fun _ _ e => by cases e; exact .inr ⟨h5, by decide⟩)⟩
    | builtin b =>
      cases b <;> simp only at h ⊢ <;> try (exact calm rfl h)
      case append =>
        obtain ⟨c, h1, h2⟩ := h
        unfold aapp at h1
        split at h1
        · split at h1
          · split at h1
            · split at h1
              · cases h1
                exact ⟨(fun _ _ e => by cases e), (fun _ _ e => by cases e; exact .inr ⟨h2.2.2.2.2, by decide⟩)⟩
              · cases h1
                exact ⟨(fun _ _ e => by cases e), (fun _ _ e => by cases e; exact .inl ⟨rfl, _, h2.2.2.2.2.1, h2.2.2.2.2.2.2.2, rfl⟩)⟩
              · cases h1
            · cases h1
          · cases h1
        · cases h1
theorem doesG_names {st : St} {o : Oper} {r : Out} (h : DoesG P G tb N ops o st r) : (∀ k c, r.bu = some (k, c) → (isStore o.op = true ∧ st.bx k ≠ none) ∨ (isStore o.op = false ∧ st.bx k = none)) ∧ ∀ k v, r.tu = some (k, v) → (isApp o.op = true ∧ ∃ old, st.τ k = some old ∧ old ≠ 0 ∧ v = old + 1) ∨ (st.τ k = none ∧ v ≤ 1) := by
  unfold DoesG at h
  split at h
  · exact does_names h
  · obtain ⟨d, b, -, -, ⟨-, h⟩ | ⟨-, rfl⟩⟩ := h
    · exact does_names h
    · exact ⟨(fun _ _ e => by cases e), (fun _ _ e => by cases e)⟩
theorem doesG_congr {st st' st0 : St} {o : Oper} {r : Out} (h0 : ∀ x, (∀ d, x = .tmp d → d ∈ o.looksAt ops) → (ev st N x).ok st0.bx st0.τ) (hev : ∀ x, (∀ d, x = .tmp d → d ∈ o.looksAt ops) → ev st N x = ev st' N x) (hbx : looksIn o.op = true → ∀ k, st0.bx k ≠ none → st'.bx k = st.bx k) (hτ : isApp o.op = true → ∀ k, st0.τ k ≠ none → st'.τ k = st.τ k)
    (hf : ∀ k x, r.bu = some (k, x) → st.bx k = none → st'.bx k = none) (hg : ∀ k x, r.tu = some (k, x) → st.τ k = none → st'.τ k = none) (h : DoesG P G tb N ops o st r) : DoesG P G tb N ops o st' r := by
  have hop : ∀ x ∈ o.op.operands, ev st N x = ev st' N x := fun x hx => hev x fun d e => by
    subst e
    exact List.mem_append_left _ (List.mem_filterMap.2 ⟨.tmp d, by simpa using hx, rfl⟩)
  have hop0 : ∀ x ∈ o.op.operands, (ev st N x).ok st0.bx st0.τ := fun x hx => h0 x fun d e => by
    subst e
    exact List.mem_append_left _ (List.mem_filterMap.2 ⟨.tmp d, by simpa using hx, rfl⟩)
  unfold DoesG at h ⊢
  cases hgd : o.guard with
  | none =>
    rw [hgd] at h
    exact does_congr hop0 hop hbx hτ hf hg h
  | some q =>
    obtain ⟨j, want⟩ := q
    rw [hgd] at h
    obtain ⟨d, b, h1, h2, h3⟩ := h
    refine ⟨d, b, h1, ?_, ?_⟩
    · rw [← hev (.tmp d) fun d' e => by
        cases e
        exact List.mem_append_right _ (by simp [hgd, h1])]
      exact h2
    · rcases h3 with ⟨h3, h4⟩ | h3
      · exact .inl ⟨h3, does_congr hop0 hop hbx hτ hf hg h4⟩
      · exact .inr h3

/-- May they be done in either order? -/
def memOk (a b : Op) : Bool := !(isStore a && looksIn b) && !(isApp a && isApp b)
def indep (ops : Array Oper) (x y : Oper) : Bool := x.apart ops y && memOk x.op y.op && memOk y.op x.op
theorem updo_comm {α : Type} (f : Nat → Option α) {a b : Option (Nat × α)} (h : ∀ k x k' x', a = some (k, x) → b = some (k', x') → k ≠ k') : updo (updo f a) b = updo (updo f b) a := by
  cases a with
  | none => rfl
  | some a =>
    cases b with
    | none => rfl
    | some b =>
      have hn := h a.1 a.2 b.1 b.2 rfl rfl
      funext n
      show upd (upd f a.1 a.2) b.1 b.2 n = upd (upd f b.1 b.2) a.1 a.2 n
      unfold upd
      by_cases h1 : n = b.1
      · rw [if_pos h1, if_neg (fun e => hn (by omega)), if_pos h1]
      · rw [if_neg h1]
        by_cases h2 : n = a.1
        · rw [if_pos h2, if_pos h2]
        · rw [if_neg h2, if_neg h2, if_neg h1]
theorem ev_out {st : St} {o : Oper} {r : Out} {z : Operand} (h : ∀ d, o.dst = some d → z ≠ .tmp d) : ev (st.out o r) N z = ev st N z := by
  cases z with
  | tmp t =>
    show (if t < N then (st.out o r).env t else .junk) = if t < N then st.env t else .junk
    rw [out_env, if_neg (fun e => h t e rfl)]
  | _ => rfl
theorem swap {st : St} (hs : st.ok) {x y : Oper} {r r' : Out} (hi : indep ops x y = true) (h1 : DoesG P G tb N ops x st r) (h2 : DoesG P G tb N ops y (st.out x r) r') :
    DoesG P G tb N ops y st r' ∧ DoesG P G tb N ops x (st.out y r') r ∧ (st.out x r).out y r' = (st.out y r').out x r := by
  simp only [indep, Bool.and_eq_true] at hi
  obtain ⟨⟨hap, hm1⟩, hm2⟩ := hi
  obtain ⟨a1, a2, a3⟩ := Oper.apart_spec hap
  simp only [memOk, Bool.and_eq_true, Bool.not_eq_true', Bool.and_eq_false_iff] at hm1 hm2
  have n1 := doesG_names h1
  have n2 := doesG_names h2
  have hout := out_mono st x r
  have ey : ∀ z, (∀ d, z = .tmp d → d ∈ y.looksAt ops) → ev (st.out x r) N z = ev st N z := fun z hz => ev_out fun d e e2 => a1 d e (hz d e2)
  have ex : ∀ z, (∀ d, z = .tmp d → d ∈ x.looksAt ops) → ev st N z = ev (st.out y r') N z := fun z hz => (ev_out fun d e e2 => a3 d e (hz d e2)).symm
  have keep : ∀ (o : Oper) (q : Out), ((∀ k c, q.bu = some (k, c) → (isStore o.op = true ∧ st.bx k ≠ none) ∨ (isStore o.op = false ∧ st.bx k = none))) → isStore o.op = false → ∀ k, st.bx k ≠ none → (st.out o q).bx k = st.bx k := by
    intro o q hn hst k hk
    show updo st.bx q.bu k = _
    cases hb : q.bu with
    | none => rfl
    | some c =>
      rcases hn c.1 c.2 hb with ⟨e, -⟩ | ⟨-, e⟩
      · rw [hst] at e; cases e
      · exact upd_ne _ _ fun e2 => hk (by rw [e2]; exact e)
  have keepτ : ∀ (o : Oper) (q : Out), ((∀ k v, q.tu = some (k, v) → (isApp o.op = true ∧ ∃ old, st.τ k = some old ∧ old ≠ 0 ∧ v = old + 1) ∨ (st.τ k = none ∧ v ≤ 1))) → isApp o.op = false → ∀ k, st.τ k ≠ none → (st.out o q).τ k = st.τ k := by
    intro o q hn hst k hk
    show updo st.τ q.tu k = _
    cases hb : q.tu with
    | none => rfl
    | some c =>
      rcases hn c.1 c.2 hb with ⟨e, -⟩ | ⟨e, -⟩
      · rw [hst] at e; cases e
      · exact upd_ne _ _ fun e2 => hk (by rw [e2]; exact e)
  have hsx : looksIn y.op = true → isStore x.op = false := fun h => by
    rcases hm1.1 with h1 | h1
    · exact h1
    · rw [h] at h1; cases h1
  have hsy : looksIn x.op = true → isStore y.op = false := fun h => by
    rcases hm2.1 with h1 | h1
    · exact h1
    · rw [h] at h1; cases h1
  have hax : isApp y.op = true → isApp x.op = false := fun h => by
    rcases hm1.2 with h1 | h1
    · exact h1
    · rw [h] at h1; cases h1
  have hay : isApp x.op = true → isApp y.op = false := fun h => by
    rcases hm2.2 with h1 | h1
    · exact h1
    · rw [h] at h1; cases h1
  have none_of : ∀ (o : Oper) (q : Out) k, (st.out o q).bx k = none → st.bx k = none := fun o q k h => by
    cases hk : st.bx k with
    | none => rfl
    | some c => exact absurd h ((out_mono st o q).1 k (by rw [hk]; simp))
  have none_ofτ : ∀ (o : Oper) (q : Out) k, (st.out o q).τ k = none → st.τ k = none := fun o q k h => by
    cases hk : st.τ k with
    | none => rfl
    | some c => exact absurd h ((out_mono st o q).2 k (by rw [hk]; simp))
  have hyst : DoesG P G tb N ops y st r' :=
    doesG_congr (st := st.out x r) (st' := st) (st0 := st) (fun z hz => by rw [ey z hz]; exact ev_ok hs N z) ey (fun h k hk => (keep x r n1.1 (hsx h) k hk).symm) (fun h k hk => (keepτ x r n1.2 (hax h) k hk).symm)
      (fun k c _ h => none_of x r k h) (fun k v _ h => none_ofτ x r k h) h2
  have n3 := doesG_names hyst
  have hbb : ∀ k c k' c', r.bu = some (k, c) → r'.bu = some (k', c') → k ≠ k' := fun k c k' c' e e' hk => by
    subst hk
    have hsome : (st.out x r).bx k ≠ none := by
      show updo st.bx r.bu k ≠ none
      rw [e]
      show upd st.bx k c k ≠ none
      rw [upd_same]; simp
    rcases n2.1 k c' e' with ⟨h3, -⟩ | ⟨-, h3⟩
    · rcases n1.1 k c e with ⟨h4, -⟩ | ⟨-, h4⟩
      · have : looksIn y.op = true := by
          revert h3
          cases y.op <;> simp [isStore, looksIn]
        rw [hsx this] at h4; cases h4
      · rcases n3.1 k c' e' with ⟨-, h5⟩ | ⟨h5, -⟩
        · exact h5 h4
        · rw [h3] at h5; cases h5
    · exact hsome h3
  have htt : ∀ k c k' c', r.tu = some (k, c) → r'.tu = some (k', c') → k ≠ k' := fun k c k' c' e e' hk => by
    subst hk
    have hsome : (st.out x r).τ k ≠ none := by
      show updo st.τ r.tu k ≠ none
      rw [e]
      show upd st.τ k c k ≠ none
      rw [upd_same]; simp
    rcases n2.2 k c' e' with ⟨h3, old, h6, h7, h8⟩ | ⟨h3, -⟩
    · have hcv : (st.out x r).τ k = some c := by
        show updo st.τ r.tu k = some c
        rw [e]
        exact upd_same _ _ _
      rw [hcv] at h6
      cases h6
      rcases n1.2 k c e with ⟨h4, -⟩ | ⟨h4, h5⟩
      · rw [hax h3] at h4; cases h4
      · rcases n3.2 k c' e' with ⟨-, old', h9, -⟩ | ⟨-, h9⟩
        · rw [h4] at h9; cases h9
        · omega
    · exact hsome h3
  refine ⟨hyst, ?_, ?_⟩
  · refine doesG_congr (st := st) (st' := st.out y r') (st0 := st) (fun z _ => ev_ok hs N z) ex (fun h k hk => keep y r' n3.1 (hsy h) k hk) (fun h k hk => keepτ y r' n3.2 (hay h) k hk) (fun k c e h => ?_) (fun k v e h => ?_) h1
    · show updo st.bx r'.bu k = none
      cases hb : r'.bu with
      | none => exact h
      | some c' => exact (upd_ne _ _ (hbb k c c'.1 c'.2 e hb)).trans h
    · show updo st.τ r'.tu k = none
      cases hb : r'.tu with
      | none => exact h
      | some c' => exact (upd_ne _ _ (htt k v c'.1 c'.2 e hb)).trans h
  · have e1 : putE y.dst r'.av (putE x.dst r.av st.env) = putE x.dst r.av (putE y.dst r'.av st.env) := by
      unfold putE
      cases hx : x.dst with
      | none => cases y.dst <;> rfl
      | some d =>
        cases hy : y.dst with
        | none => rfl
        | some d' =>
          have hne : d ≠ d' := fun e => a2 d hx (by rw [hy, e])
          funext t
          by_cases h1 : t = d'
          · subst h1
            simp [Ne.symm hne]
          · simp [h1]
    show St.mk _ _ _ _ = St.mk _ _ _ _
    rw [show (st.out x r).env = putE x.dst r.av st.env from rfl, show (st.out y r').env = putE y.dst r'.av st.env from rfl, e1]
    congr 1
    · exact updo_comm st.bx hbb
    · exact updo_comm st.τ htt
    · funext t
      show fxE y.dst (fxE x.dst st.fx) t = fxE x.dst (fxE y.dst st.fx) t
      unfold fxE
      by_cases h1 : y.dst = some t <;> by_cases h2 : x.dst = some t <;> simp [h1, h2]
end Go.Proofs.YtkcmapimcgppmaaGreatDoor
