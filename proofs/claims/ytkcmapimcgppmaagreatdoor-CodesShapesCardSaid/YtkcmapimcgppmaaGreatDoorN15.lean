/-
  The steps again, with truths for conditions: what can be worked out. Calls worked out over data: what a function tells of data that are given. Conditions: the table of types is the program's; what is told by hand holds. Calls worked out, part two: code. Conditions: the table of types is the program's; what is told by hand holds. The worker for this program: what is known by hand. Conditions: those of what was shown before. Conditions: as each lemma states them.
-/
import Derived.Test.YtkcmapimcgppmaaGreatDoorN08
import Derived.Test.YtkcmapimcgppmaaGreatDoorN14
set_option linter.all false
set_option linter.unusedVariables false
set_option linter.unusedSimpArgs false
set_option linter.unnecessarySimpa false
section
namespace Go.Proofs.YtkcmapimcgppmaaGreatDoor
open Go.RowKit

def isNil : Value → Bool
  | .slice none 0 0 => true
  | _ => false
/-- The one tells the other. -/
def Rb {α : Type} (p : Option (Bool × α)) (q : Option (Prop × α)) : Prop := ∀ r, p = some (true, r) → ∃ c, q = some (c, r) ∧ c
theorem Rb.nil {α : Type} {q : Option (Prop × α)} : Rb none q := fun _ h => by cases h
theorem Rb.one {α : Type} {b : Bool} {c : Prop} {r : α} (h : b = true → c) : Rb (some (b, r)) (some (c, r)) := fun r' e => by
  cases e
  exact ⟨c, rfl, h rfl⟩
theorem Rb.map {α β : Type} {p : Option (Bool × α)} {q : Option (Prop × α)} {f : Bool → Bool} {g : Prop → Prop} {u : α → β} (h : Rb p q) (hf : ∀ b, f b = true → b = true) (hg : ∀ b c, f b = true → c → g c) : Rb (p.map fun r => (f r.1, u r.2)) (q.map fun r => (g r.1, u r.2)) := fun r e => by
  obtain ⟨⟨b, x⟩, e1, e2⟩ := Option.map_eq_some_iff.1 e
  cases e2' : f b
  · simp [e2'] at e2
  · simp only [Prod.mk.injEq] at e2
    obtain ⟨-, rfl⟩ := e2
    have := hf b e2'
    subst this
    obtain ⟨c, h1, h2⟩ := h x e1
    exact ⟨g c, by rw [h1]; rfl, hg true c e2' h2⟩

def asB (tb : TB) (T : Nat) : AV → Option (Bool × Dc)
  | .v x => match tb T with
    | some { sh := .sl e, .. } => match tb e with
      | some y => match x with
        | .slice none 0 0 => some (true, .nilr y.size e .nil)
        | .slice (some a) n c => some (true, .lit (.slice (some a) n c) .nil)
        | _ => none
      | none => none
    | _ => some (x.oneCell', .lit x .nil)
  | .c d => some (true, d)
  | .agg d => some (true, d)
  | _ => none
theorem asB_ok {tb : TB} {T : Nat} {a : AV} : Rb (asB tb T a) (asC tb T a) := by
  cases a <;> simp only [asB, asC]
  case c => exact .one fun _ => trivial
  case agg => exact .one fun _ => trivial
  case v =>
    cases hT : tb T with
    | none => exact .one id
    | some y =>
      obtain ⟨sh, _, _, _, _⟩ := y
      cases sh
      case sl e =>
        simp only
        cases tb e with
        | none => exact .nil
        | some y => simp only; split <;> first | exact .one fun _ => trivial | exact .nil
      all_goals exact .one id
  all_goals exact .nil
def fillB (tb : TB) (S : Nat) (ρ : Operand → AV) : List (Nat × Operand) → Dc → Option (Bool × Dc)
  | [], d => some (true, d)
  | (f, x) :: ps, d => match fieldOf tb S f with
    | some (o, T, y) => match asB tb T (ρ x) with
      | some (c, p) => match d.over o p with
        | some d' => (fillB tb S ρ ps d').map fun r => ((c && p.ln == y.size) && r.1, r.2)
        | none => none
      | none => none
    | none => none
theorem fillB_ok {tb : TB} {S : Nat} {ρ : Operand → AV} : ∀ {ps : List (Nat × Operand)} {d : Dc}, Rb (fillB tb S ρ ps d) (fillD tb S ρ ps d)
  | [], d => .one fun _ => trivial
  | (f, x) :: ps, d => by
    intro r h
    simp only [fillB] at h
    split at h
    · rename_i o T y hf
      split at h
      · rename_i c p hp
        split at h
        · rename_i d' hd
          obtain ⟨⟨b, r'⟩, e1, e2⟩ := Option.map_eq_some_iff.1 h
          simp only [Prod.mk.injEq, Bool.and_eq_true, beq_iff_eq] at e2
          obtain ⟨⟨⟨rfl, h1⟩, rfl⟩, rfl⟩ := e2
          obtain ⟨c1, h2, h3⟩ := asB_ok _ hp
          obtain ⟨c2, h4, h5⟩ := fillB_ok _ e1
          refine ⟨_, by simp only [fillD, hf, h2, hd, h4, Option.map_some]; rfl, ?_⟩
          exact ⟨⟨h3, h1⟩, h5⟩
        · cases h
      · cases h
    · cases h
def rowB (tb : TB) (e sz : Nat) (ρ : Operand → AV) : Nat → List (Nat × Operand) → Option (Bool × Dc)
  | _, [] => some (true, .nil)
  | i, (j, x) :: ps => if i = j then match asB tb e (ρ x) with
      | some (c, p) => (rowB tb e sz ρ (i + 1) ps).map fun r => ((c && p.ln == sz) && r.1, p.app r.2)
      | none => none
    else none
theorem rowB_ok {tb : TB} {e sz : Nat} {ρ : Operand → AV} : ∀ {ps : List (Nat × Operand)} {i : Nat}, Rb (rowB tb e sz ρ i ps) (rowD tb e sz ρ i ps)
  | [], i => .one fun _ => trivial
  | (j, x) :: ps, i => by
    intro r h
    simp only [rowB] at h
    split at h
    · rename_i hij
      split at h
      · rename_i c p hp
        obtain ⟨⟨b, r'⟩, e1, e2⟩ := Option.map_eq_some_iff.1 h
        simp only [Prod.mk.injEq, Bool.and_eq_true, beq_iff_eq] at e2
        obtain ⟨⟨⟨rfl, h1⟩, rfl⟩, rfl⟩ := e2
        obtain ⟨c1, h2, h3⟩ := asB_ok _ hp
        obtain ⟨c2, h4, h5⟩ := rowB_ok _ e1
        refine ⟨_, by simp only [rowD, if_pos hij, h2, h4, Option.map_some]; rfl, ?_⟩
        exact ⟨⟨h3, h1⟩, h5⟩
      · cases h
    · cases h
def loB : Option AV → Option Nat → Option (Bool × Nat)
  | none, some d => some (true, d)
  | some (.v (.int _ n)), _ => some (decide (0 ≤ n), n.toNat)
  | _, _ => none
theorem loB_ok {a : Option AV} {d : Option Nat} : Rb (loB a d) (lo? a d) := by
  unfold loB lo?
  split
  · exact .one fun _ => trivial
  · exact .one fun h => by simpa using h
  · exact .nil
def sliceB (tb : TB) (ρ : Operand → AV) (T : Nat) (x : Operand) (lo hi mx : Option Operand) : Option (Bool × Out) :=
  match mx with
  | some _ => none
  | none => match tb T with
    | some { sh := .sl e, .. } => match tb e with
      | some y => match lo, (ρ x).room with
        | none, some (sz, d, s) => match loB (hi.map ρ) (some (d.len / sz)) with
          | some (c, h) => some (c && (sz == y.size && (decide (0 < sz) && decide (h * sz ≤ d.len + s.len))), { av := .c (.seg none (.row sz e ((d.app s).tk (h * sz)) ((d.app s).dp (h * sz)) .nil) .nil) })
          | none => none
        | lo, _ => match (ρ x).cont with
          | some (sz, d) => match loB (lo.map ρ) (some 0), loB (hi.map ρ) (some (d.len / sz)) with
            | some (c1, l), some (c2, h) => some (c1 && (c2 && (sz == y.size && (decide (0 < sz) && (decide (l ≤ h) && decide (h * sz ≤ d.len))))), { av := .c (.row none sz e ((d.dp (l * sz)).tk ((h - l) * sz)) .nil) })
            | _, _ => none
          | none => none
      | none => none
    | _ => none
theorem sliceB_ok {tb : TB} {ρ : Operand → AV} {T : Nat} {x : Operand} {lo hi mx : Option Operand} : Rb (sliceB tb ρ T x lo hi mx) (aslice tb ρ T x lo hi mx) := by
  intro r h
  unfold sliceB at h
  split at h
  · cases h
  · split at h
    · rename_i e _ _ _ _ hT
      split at h
      · rename_i y hy
        split at h
        · rename_i sz d s hc
          split at h
          · rename_i c k h2
            simp only [Option.some.injEq, Prod.mk.injEq, Bool.and_eq_true, beq_iff_eq, decide_eq_true_eq] at h
            obtain ⟨⟨rfl, h3⟩, rfl⟩ := h
            obtain ⟨p2, h6, h7⟩ := loB_ok _ h2
            refine ⟨_, by simp only [aslice, hT, hy, hc, h6]; rfl, ?_⟩
            exact ⟨h7, h3⟩
          · cases h
        · rename_i lo _ _ hno
          split at h
          · rename_i sz d hc
            split at h
            · rename_i c1 l c2 k h1 h2
              simp only [Option.some.injEq, Prod.mk.injEq, Bool.and_eq_true, beq_iff_eq, decide_eq_true_eq] at h
              obtain ⟨⟨rfl, rfl, h3⟩, rfl⟩ := h
              obtain ⟨p1, h4, h5⟩ := loB_ok _ h1
              obtain ⟨p2, h6, h7⟩ := loB_ok _ h2
              have e0 : aslice tb ρ T x lo hi none = some (p1 ∧ p2 ∧ sz = y.size ∧ 0 < sz ∧ l ≤ k ∧ k * sz ≤ d.len, { av := .c (.row none sz e ((d.dp (l * sz)).tk ((k - l) * sz)) .nil) }) := by
                cases lo with
                | none =>
                  cases hr : (ρ x).room with
                  | none => simp only [aslice, hT, hy, hr, hc, h4, h6]
                  | some r => obtain ⟨_, _, _⟩ := r; exact (hno _ _ _ rfl hr).elim
                | some l => simp only [aslice, hT, hy, hc, h4, h6]
              exact ⟨_, e0, h5, h7, h3⟩
            · cases h
          · cases h
      · cases h
    · cases h
def builtB (tb : TB) (ρ : Operand → AV) (c : Call) : Option (Bool × Out) :=
  match c.callee with
  | .builtin .len => match c.args.toList, c.argTypes.toList with
    | [x], [T] => match tb T with
      | some { sh := .sl _, .. } => match ρ x with
        | .v (.slice none 0 0) => some (true, { av := .v (.int .i64 0) })
        | .v (.slice (some _) n _) => some (true, { av := .v (.int .i64 n) })
        | .c d => match d.cont with
          | some (sz, d) => some (decide (0 < sz), { av := .v (.int .i64 ((d.len / sz : Nat) : Int)) })
          | none => none
        | _ => none
      | _ => none
    | _, _ => none
  | .builtin .max => match c.args.toList with
    | [x, y] => match ρ x, ρ y with
      | .v (.int k a), .v (.int _ b) => some (true, { av := .v (.int k (if b > a then b else a)) })
      | _, _ => none
    | _ => none
  | _ => none
theorem builtB_ok {tb : TB} {ρ : Operand → AV} {c : Call} : Rb (builtB tb ρ c) (abuiltin tb ρ c) := by
  intro r h
  unfold builtB at h
  repeat' split at h
  all_goals first
    | cases h; done
    | skip
  · cases h
    exact ⟨_, by simp only [abuiltin, *], trivial⟩
  · cases h
    exact ⟨_, by simp only [abuiltin, *], trivial⟩
  · simp only [Option.some.injEq, Prod.mk.injEq, decide_eq_true_eq] at h
    obtain ⟨h1, rfl⟩ := h
    exact ⟨_, by simp only [abuiltin, *], h1⟩
  all_goals (cases h; exact ⟨True, by simp [abuiltin, *], trivial⟩)
def outB (tb : TB) (ρ : Operand → AV) (cont : Option (Nat × Dc)) (nm : Nat) : Op → Option (Bool × Out)
  | .move x => some (true, { av := ρ x })
  | .assign x => some (true, { av := ρ x })
  | .pick c a b => match ρ c with
    | .v (.bool t) => some (true, { av := if t then ρ a else ρ b })
    | _ => none
  | .alloc T => (tb T).map fun y => (true, { av := .bx nm 0, bu := some (nm, T, y.zero) })
  | .box T x => (asB tb T (ρ x)).map fun r => (r.1, { av := .bx nm 0, bu := some (nm, T, r.2) })
  | .build T ps => match tb T with
    | some { sh := .st fs, zero := z, .. } => (fillB tb T ρ ps.toList z).map fun r => ((fs.all fun f => (tb f.2).isSome) && r.1, { av := .agg r.2 })
    | _ => none
  | .buildSlice T n ps => match tb T with
    | some { sh := .sl e, .. } => match tb e with
      | some y => (rowB tb e y.size ρ 0 ps.toList).map fun r => ((decide (0 < y.size) && (decide (n * y.size ≤ 10000) && n == ps.toList.length)) && r.1, { av := .c (.blk nm 1 y.size e r.2 .nil), tu := some (nm, 1) })
      | none => none
    | _ => none
  | .load T a => match tb T with
    | some y => match ρ a with
      | .bx _ off => match cont with
        | some (_, d) => match d.dp off with
          | some d1 => match d1.tk y.size with
            | some d2 => match y.sh with
              | .st _ => some (true, { av := .agg d2 })
              | .arr => none
              | _ => some (y.size == 1, { av := d2.sing })
            | none => none
          | none => none
        | none => none
      | .el x => match x.hd y.size with
        | some d2 => match y.sh with
          | .st _ => some (true, { av := .agg d2 })
          | .arr => none
          | _ => some (y.size == 1, { av := d2.sing })
        | none => none
      | _ => none
    | none => none
  | .nilCheck x => match ρ x with
    | .bx k o => some (true, { av := .bx k o })
    | .el x => some (true, { av := .el x })
    | _ => none
  | .fieldAddr S x f => match fieldOf tb S f with
    | some (o, _, y) => match ρ x with
      | .bx k off => some (y.size != 0, { av := .bx k (off + o) })
      | .el x => some (y.size != 0, { av := .el (x.dp o) })
      | _ => none
    | none => none
  | .field S x f => match fieldOf tb S f with
    | some (o, _, y) => match ρ x with
      | .agg d => match d.dp o with
        | some d1 => match d1.tk y.size with
          | some d2 => match y.sh with
            | .st _ => some (true, { av := .agg d2 })
            | .arr => none
            | _ => some (y.size == 1, { av := d2.sing })
          | none => none
        | none => none
      | _ => none
    | none => none
  | .indexAddr T x i => match tb T with
    | some { sh := .sl e, .. } => match tb e with
      | some y => match (ρ x).cont, ρ i with
        | some (sz, d), .v (.int _ n) => some (sz == y.size && (decide (0 < sz) && (decide (0 ≤ n) && decide ((n.toNat + 1) * sz ≤ d.len))), { av := .el (d.dp (n.toNat * sz)) })
        | _, _ => none
      | none => none
    | _ => none
  | .extract t i => match ρ t with
    | .tup l => (l.nth i).map fun a => (true, { av := a })
    | _ => none
  | .binOp op T x y _ => match ρ x, ρ y with
    | .v a, .v b => match abin op a b with
      | some v => some (true, { av := .v v })
      | none => match aboolV op a b, tb T with
        | some t, some { sh := .bo, .. } => some (true, { av := .v (.bool t) })
        | _, _ => none
    | _, _ => none
  | .unOp op _ x => match op, ρ x with
    | .not, .v (.bool t) => some (true, { av := .v (.bool (!t)) })
    | .neg, .v (.int k n) => some (true, { av := .v (.int k (k.wrap (-n))) })
    | _, _ => none
  | .convert s t x => match tb t with
    | some { sh := .int k, .. } => match ρ x with
      | .v (.int _ n) => some ((tb s).isSome, { av := .v (.int k (k.wrap n)) })
      | _ => none
    | _ => none
  | .makeFunc f a c => some (true, { av := .fn f (.list (a.toList.map ρ)) (.list (c.toList.map ρ)) })
  | .slice T x lo hi mx => sliceB tb ρ T x lo hi mx
  | .call c => builtB tb ρ c
  | _ => none
theorem Rb.mp {α β : Type} {p : Option (Bool × α)} {q : Option (Prop × α)} {f : Bool × α → Bool × β} {g : Prop × α → Prop × β} (h : Rb p q) (hf : ∀ b x r, f (b, x) = (true, r) → b = true ∧ ∀ c, c → ∃ c', g (c, x) = (c', r) ∧ c') : Rb (p.map f) (q.map g) := fun r e => by
  obtain ⟨⟨b, x⟩, e1, e2⟩ := Option.map_eq_some_iff.1 e
  obtain ⟨rfl, h1⟩ := hf b x r e2
  obtain ⟨c, h2, h3⟩ := h x e1
  obtain ⟨c', h4, h5⟩ := h1 c h3
  exact ⟨c', by rw [h2, Option.map_some, h4], h5⟩
theorem outB_ok {tb : TB} {ρ : Operand → AV} {cont : Option (Nat × Dc)} {nm : Nat} {op : Op} : Rb (outB tb ρ cont nm op) (aout tb ρ cont nm op) := by
  intro r h
  cases op <;> simp only [outB] at h <;> first
    | exact sliceB_ok _ h
    | exact builtB_ok _ h
    | skip
  case box => exact asB_ok.mp (fun b x r e => by cases e; exact ⟨rfl, fun c hc => ⟨_, rfl, hc⟩⟩) _ h
  case build =>
    split at h
    · rename_i hT
      simp only [aout, hT]
      refine fillB_ok.mp (fun b x r e => ?_) _ h
      simp only [Prod.mk.injEq, Bool.and_eq_true] at e
      obtain ⟨⟨h1, rfl⟩, rfl⟩ := e
      exact ⟨rfl, fun c hc => ⟨_, rfl, h1, hc⟩⟩
    · cases h
  case buildSlice =>
    split at h
    · rename_i hT
      split at h
      · rename_i hy
        simp only [aout, hT, hy]
        refine rowB_ok.mp (fun b x r e => ?_) _ h
        simp only [Prod.mk.injEq, Bool.and_eq_true, decide_eq_true_eq, beq_iff_eq] at e
        obtain ⟨⟨h1, rfl⟩, rfl⟩ := e
        exact ⟨rfl, fun c hc => ⟨_, rfl, h1, hc⟩⟩
      · cases h
    · cases h
  case alloc =>
    obtain ⟨x, e1, e2⟩ := Option.map_eq_some_iff.1 h
    cases e2
    exact ⟨True, by simp only [aout, e1]; rfl, trivial⟩
  case extract =>
    split at h
    · rename_i hT
      obtain ⟨x, e1, e2⟩ := Option.map_eq_some_iff.1 h
      cases e2
      exact ⟨True, by simp only [aout, hT, e1]; rfl, trivial⟩
    · cases h
  case binOp =>
    split at h
    · rename_i h1 h2
      split at h
      · rename_i h3
        cases h
        exact ⟨True, by simp only [aout, h1, h2, h3], trivial⟩
      · rename_i h3
        split at h
        · rename_i h4 h5
          cases h
          exact ⟨True, by simp only [aout, h1, h2, h3, abool, h4, h5], trivial⟩
        · cases h
    · cases h
  case indexAddr =>
    split at h
    · rename_i hT
      split at h
      · rename_i hy
        split at h
        · rename_i hc hi
          simp only [Option.some.injEq, Prod.mk.injEq, Bool.and_eq_true, decide_eq_true_eq, beq_iff_eq] at h
          obtain ⟨h1, rfl⟩ := h
          exact ⟨_, by simp only [aout, hT, hy, hc, hi], h1⟩
        · cases h
      · cases h
    · cases h
  all_goals (repeat' split at h) <;> first
    | cases h; done
    | (simp only [Option.some.injEq, Prod.mk.injEq, Bool.and_eq_true, decide_eq_true_eq, beq_iff_eq, bne_iff_ne, ne_eq, true_and] at h; obtain ⟨h1, rfl⟩ := h; exact ⟨_, by simp only [aout, *]; rfl, by simpa using h1⟩)
    | (cases h; exact ⟨_, by simp only [aout, *]; rfl, trivial⟩)
    | skip
  all_goals (simp only [Option.some.injEq, Prod.mk.injEq, beq_iff_eq] at h; obtain ⟨h1, rfl⟩ := h; refine ⟨_, ?_, h1⟩; simp only [aout, *]; split <;> simp_all)
def storeB (tb : TB) (ρ : Operand → AV) (cont : Option (Nat × Dc)) : Op → Option (Bool × Out)
  | .store T ad x => match ρ ad, cont, asB tb T (ρ x), tb T with
    | .bx k off, some (T0, d), some (c, p), some y => match d.over off p with
      | some d' => some (c && p.ln == y.size, { av := .v undef, bu := some (k, T0, d') })
      | none => none
    | _, _, _, _ => none
  | _ => none
theorem storeB_ok {tb : TB} {ρ : Operand → AV} {cont : Option (Nat × Dc)} {op : Op} : Rb (storeB tb ρ cont op) (astore tb ρ cont op) := by
  intro r h
  unfold storeB at h
  split at h
  · split at h
    · rename_i h1 h2 h3
      split at h
      · rename_i h4
        simp only [Option.some.injEq, Prod.mk.injEq, Bool.and_eq_true, beq_iff_eq] at h
        obtain ⟨⟨rfl, h5⟩, rfl⟩ := h
        obtain ⟨c, h6, h7⟩ := asB_ok _ h2
        refine ⟨_, by simp only [astore, h1, h6, h3, h4]; rfl, ?_⟩
        exact ⟨h7, h5⟩
      · cases h
    · cases h
  · cases h
def elsB (τ : Nat → Option Nat) (sz : Nat) : AV → Option (Bool × Dc)
  | .v (.slice none 0 0) => some (true, .nil)
  | .c (.nilr _ _ .nil) => some (true, .nil)
  | .c (.row k s _ d .nil) => some (s == sz, .seg k d .nil)
  | .c (.blk k ver s _ x .nil) => some (s == sz && τ k == some ver, x)
  | _ => none
theorem elsB_ok {τ : Nat → Option Nat} {sz : Nat} {a : AV} : Rb (elsB τ sz a) (elsOf τ sz a) := by
  intro r h
  unfold elsB at h
  split at h
  · cases h; exact ⟨_, rfl, trivial⟩
  · cases h; exact ⟨_, rfl, trivial⟩
  · simp only [Option.some.injEq, Prod.mk.injEq, beq_iff_eq] at h
    obtain ⟨h1, rfl⟩ := h
    exact ⟨_, rfl, h1⟩
  · simp only [Option.some.injEq, Prod.mk.injEq, beq_iff_eq, Bool.and_eq_true] at h
    obtain ⟨h1, rfl⟩ := h
    exact ⟨_, rfl, h1⟩
  · cases h
def appB (tb : TB) (ρ : Operand → AV) (τ : Nat → Option Nat) (nm : Nat) (c : Call) : Option (Bool × Out) :=
  match c.args.toList, c.argTypes.toList with
  | [s, x], [T, T'] => match tb T with
    | some { sh := .sl e, .. } => match tb e with
      | some y => match srcOf (ρ s), elsB τ y.size (ρ x) with
        | some (none, d), some (c, p) => some (T == T' && (decide (0 < y.size) && (c && (decide (d.ln + p.ln ≤ 1000000000) && τ nm == none))), { av := .c (.blk nm 1 y.size e (d.app p) .nil), tu := some (nm, 1) })
        | some (some (k, ver, sz, e'), d), some (c, p) => some (T == T' && (decide (0 < y.size) && (c && (decide (d.ln + p.ln ≤ 1000000000) && (τ k == some ver && (sz == y.size && (e' == e && ver != 0)))))), { av := .c (.blk k (ver + 1) y.size e (d.app p) .nil), tu := some (k, ver + 1) })
        | _, _ => none
      | none => none
    | _ => none
  | _, _ => none
theorem appB_ok {tb : TB} {ρ : Operand → AV} {τ : Nat → Option Nat} {nm : Nat} {c : Call} : Rb (appB tb ρ τ nm c) (aapp tb ρ τ nm c) := by
  intro r h
  unfold appB at h
  split at h
  · rename_i ha ht
    split at h
    · rename_i hT
      split at h
      · rename_i hy
        split at h
        · rename_i hs he
          simp only [Option.some.injEq, Prod.mk.injEq, beq_iff_eq, Bool.and_eq_true, decide_eq_true_eq] at h
          obtain ⟨⟨h1, h2, rfl, h3⟩, rfl⟩ := h
          obtain ⟨c, h6, h7⟩ := elsB_ok _ he
          refine ⟨_, by simp only [aapp, ha, ht, hT, hy, hs, h6]; rfl, ?_⟩
          exact ⟨h1, h2, h7, h3⟩
        · rename_i hs he
          simp only [Option.some.injEq, Prod.mk.injEq, beq_iff_eq, Bool.and_eq_true, decide_eq_true_eq, bne_iff_ne] at h
          obtain ⟨⟨h1, h2, rfl, h3⟩, rfl⟩ := h
          obtain ⟨c, h6, h7⟩ := elsB_ok _ he
          refine ⟨_, by simp only [aapp, ha, ht, hT, hy, hs, h6]; rfl, ?_⟩
          exact ⟨h1, h2, h7, h3⟩
        · cases h
      · cases h
    · cases h
  · cases h
def freshB (st : St) (r : Out) : Bool := (match r.bu with
  | some (k, _) => (st.bx k).isNone && decide (k < K0)
  | none => true) && match r.tu with
  | some (k, _) => (st.τ k).isNone
  | none => true
theorem freshB_ok {st : St} {r : Out} (h : freshB st r = true) : freshC st r := by
  unfold freshB at h
  simp only [Bool.and_eq_true] at h
  refine ⟨?_, ?_⟩
  · have := h.1
    split at this
    · simp only [*]; simpa using this
    · simp only [*]
  · have := h.2
    split at this
    · simp only [*]; simpa using this
    · simp only [*]
def stepB (tb : TB) (N : Nat) (o : Oper) (st : St) : Option (Bool × Out) :=
  match o.op with
  | .store _ _ _ => storeB tb (ev st N) (contOf st N o.op) o.op
  | .call cl => match cl.callee with
    | .builtin .append => appB tb (ev st N) st.τ (nmOf o) cl
    | .value _ => none
    | _ => (outB tb (ev st N) (contOf st N o.op) (nmOf o) o.op).map fun q => (q.1 && freshB st q.2, q.2)
  | _ => (outB tb (ev st N) (contOf st N o.op) (nmOf o) o.op).map fun q => (q.1 && freshB st q.2, q.2)
theorem stepB_ok {tb : TB} {N : Nat} {o : Oper} {st : St} : Rb (stepB tb N o st) (vout tb N o st) := by
  have calm : Rb ((outB tb (ev st N) (contOf st N o.op) (nmOf o) o.op).map fun q => (q.1 && freshB st q.2, q.2)) ((aout tb (ev st N) (contOf st N o.op) (nmOf o) o.op).map fun q => (q.1 ∧ freshC st q.2, q.2)) := outB_ok.mp fun b x r e => by
    simp only [Prod.mk.injEq, Bool.and_eq_true] at e
    obtain ⟨⟨rfl, h1⟩, rfl⟩ := e
    exact ⟨rfl, fun c hc => ⟨_, rfl, hc, freshB_ok h1⟩⟩
  obtain ⟨dst, op, ty, pos, after, guard⟩ := o
  unfold stepB vout
  cases op <;> simp only at calm ⊢ <;> try (exact calm)
  case store T ad x => exact storeB_ok
  case call cl =>
    obtain ⟨callee, xs, ts⟩ := cl
    cases callee with
    | value f => exact .nil
    | invoke r m => exact calm
    | builtin b =>
      cases b <;> simp only at calm ⊢ <;> try (exact calm)
      case append => exact appB_ok
end Go.Proofs.YtkcmapimcgppmaaGreatDoor
end
section
namespace Go.Proofs.YtkcmapimcgppmaaGreatDoor
open Go.RowKit

/-- Nothing of it is the call's own. -/
def Dc.frz : Dc → Dc
  | .nil => .nil
  | .lit v r => .lit v r.frz
  | .nilr sz e r => .nilr sz e r.frz
  | .row _ sz e x r => .row none sz e x r.frz
  | .seg _ d r => .seg none (d.app r.ds) .nil
  | .blk _ _ sz e x r => .row none sz e x.ds r.frz
theorem Dc.frz_imp {τ τ' : Nat → Option Nat} {φ : Tk → List Tk} (d : Dc) : Dc.imp τ φ τ' d.frz d := by
  induction d with
  | nil => rfl
  | lit v r ih => exact ⟨rfl, ih⟩
  | nilr sz e r ih => exact ih
  | row k sz e x r ih => exact ⟨⟨rfl, rfl⟩, ih⟩
  | seg k d r _ => exact (rfl : (Dc.seg k d r).ds = _)
  | blk k ver sz e x r _ ih => exact ⟨⟨rfl, rfl⟩, ih⟩
theorem Dc.frz_noblk (d : Dc) : d.frz.noblk = true := by
  induction d with
  | seg k d r _ => rfl
  | nil => rfl
  | lit v r ih => exact ih
  | nilr sz e r ih => exact ih
  | row k sz e x r ih => exact ih
  | blk k ver sz e x r _ ih => exact ih
theorem Dc.frz_still (d : Dc) : d.frz.still = true := by
  induction d with
  | seg k d r _ => rfl
  | nil => rfl
  | lit v r ih => exact ih
  | nilr sz e r ih => exact ih
  | row k sz e x r ih => exact ih
  | blk k ver sz e x r _ ih => exact ih
theorem Dc.frz_ok {τ : Nat → Option Nat} (d : Dc) : d.frz.ok τ := by
  induction d with
  | seg k d r _ => trivial
  | nil => trivial
  | lit v r ih => exact ih
  | nilr sz e r ih => exact ih
  | row k sz e x r ih => exact ih
  | blk k ver sz e x r _ ih => exact ih
/-- Lent. -/
def Dc.lend : Dc → Dc
  | .nil => .nil
  | .lit v r => .lit v r.lend
  | .nilr sz e r => .row none sz e .nil r.lend
  | .row _ sz e x r => .row none sz e x r.lend
  | .seg _ d r => .seg none d r.lend
  | .blk _ _ sz e x r => .row none sz e x.ds r.lend
theorem Dc.lend_lent (d : Dc) : d.lend.lent = true := by
  induction d with
  | nil => rfl
  | lit v r ih => exact ih
  | nilr sz e r ih => exact ih
  | row k sz e x r ih => exact ih
  | seg k d r ih => exact ih
  | blk k ver sz e x r _ ih => exact ih
theorem Dc.lend_ds (d : Dc) : d.ds = d.lend.ds := by
  induction d with
  | nil => rfl
  | lit v r ih => simp [Dc.ds, Dc.lend, ← ih]
  | nilr sz e r ih => simp [Dc.ds, Dc.lend, ← ih]
  | row k sz e x r ih => simp [Dc.ds, Dc.lend, ← ih]
  | seg k d r ih => simp [Dc.ds, Dc.lend, ← ih]
  | blk k ver sz e x r _ ih => simp [Dc.ds, Dc.lend, ← ih]
def AV.frz : AV → AV
  | .v x => .v x
  | .c d => .c d.frz
  | .agg d => .agg d.frz
  | .nil => .nil
  | .cons a r => .cons a.frz r.frz
  | .tup l => .tup l.frz
  | .fn f a b => .fn f a.frz b.frz
  | _ => .junk
theorem AV.frz_imp {bx : Nat → Option (Nat × Dc)} {τ τ' : Nat → Option Nat} {φ : Tk → List Tk} (a : AV) : AV.imp bx τ φ τ' a.frz a := by
  induction a with
  | v x => rfl
  | c d => exact d.frz_imp
  | agg d => exact d.frz_imp
  | nil => rfl
  | cons a r iha ihr => exact ⟨iha, ihr⟩
  | tup l ih => exact ih
  | fn f a b iha ihb => exact ⟨rfl, iha, ihb⟩
  | _ => trivial
theorem AV.frz_plain (a : AV) : a.frz.plain = true ∧ a.frz.still = true ∧ a.frz.flat = true := by
  induction a with
  | c d => exact ⟨d.frz_noblk, d.frz_still, rfl⟩
  | agg d => exact ⟨d.frz_noblk, d.frz_still, rfl⟩
  | cons a r iha ihr => simp [AV.frz, AV.plain, AV.still, AV.flat, iha, ihr]
  | tup l ih => exact ih
  | fn f a b iha ihb => simp [AV.frz, AV.plain, AV.still, AV.flat, iha, ihb]
  | _ => exact ⟨rfl, rfl, rfl⟩
def AV.lend (bx : Nat → Option (Nat × Dc)) : AV → Option AV
  | .junk => some .junk
  | .v x => some (.v x)
  | .c d => some (.c d.lend)
  | .agg d => some (.agg d.lend)
  | .bx k off => match bx k with
    | some (_, d) => match d.dp off with
      | some d1 => some (.el d1.ds)
      | none => none
    | none => none
  | .el x => some (.el x)
  | .nil => some .nil
  | .cons a r => if r.isL then match a.lend bx, r.lend bx with
      | some b, some s => some (.cons b s)
      | _, _ => none
    else none
  | .tup a => if a.isL then (a.lend bx).map .tup else none
  | .fn f a p => if a.isL && p.isL then match a.lend bx, p.lend bx with
      | some b, some q => some (.fn f b q)
      | _, _ => none
    else none
theorem AV.lend_arg {bx : Nat → Option (Nat × Dc)} {a : AV} : ∀ {b : AV}, a.lend bx = some b → a.arg bx b := by
  induction a with
  | junk => intro b h; cases h; trivial
  | v x => intro b h; cases h; rfl
  | c d => intro b h; cases h; exact ⟨d.lend_lent, .inl d.lend_ds⟩
  | agg d => intro b h; cases h; exact ⟨d.lend_lent, .inl d.lend_ds⟩
  | bx k off =>
    intro b h
    simp only [AV.lend] at h
    split at h
    · rename_i T d hk
      split at h
      · rename_i d1 h1
        cases h
        exact ⟨T, d, d1, hk, h1, rfl⟩
      · cases h
    · cases h
  | el x => intro b h; cases h; rfl
  | nil => intro b h; cases h; trivial
  | cons a r iha ihr =>
    intro b h
    simp only [AV.lend] at h
    split at h
    · rename_i hr
      split at h
      · rename_i b' s h1 h2
        cases h
        exact ⟨iha h1, hr, ihr h2⟩
      · cases h
    · cases h
  | tup l ih =>
    intro b h
    simp only [AV.lend] at h
    split at h
    · rename_i hr
      obtain ⟨x, h1, rfl⟩ := Option.map_eq_some_iff.1 h
      exact ⟨hr, ih h1⟩
    · cases h
  | fn f a p iha ihp =>
    intro b h
    simp only [AV.lend] at h
    split at h
    · rename_i hr
      simp only [Bool.and_eq_true] at hr
      split at h
      · rename_i b' s h1 h2
        cases h
        exact ⟨rfl, ⟨hr.1, iha h1⟩, hr.2, ihp h2⟩
      · cases h
    · cases h

/-- Its rows alone stay the call's own. -/
def Dc.soft (keep : Nat → Nat → Bool) : Dc → Dc
  | .nil => .nil
  | .lit v r => .lit v (r.soft keep)
  | .nilr sz e r => .nilr sz e (r.soft keep)
  | .row _ sz e x r => .row none sz e x (r.soft keep)
  | .seg _ d r => .seg none (d.app r.ds) .nil
  | .blk k ver sz e x r => if keep k ver then .blk k ver sz e x.frz (r.soft keep) else .row none sz e x.ds (r.soft keep)
def AV.soft (keep : Nat → Nat → Bool) (has : Nat → Bool) : AV → AV
  | .c d => .c (d.soft keep)
  | .agg d => .agg (d.soft keep)
  | .bx k o => if has k then .bx k o else .junk
  | .cons a r => .cons (a.soft keep has) (r.soft keep has)
  | .tup l => .tup (l.soft keep has)
  | .fn f a b => .fn f (a.soft keep has) (b.soft keep has)
  | a => a
theorem Dc.soft_imp {τ τ' : Nat → Option Nat} {φ : Tk → List Tk} {keep : Nat → Nat → Bool} (hk : ∀ k v, keep k v = true → τ' k = some v ∧ v ≠ 0 ∧ τ k = some v ∧ (k, 0) ∈ φ (k, 0)) (d : Dc) : Dc.imp τ φ τ' (d.soft keep) d ∧ (d.soft keep).ok τ' := by
  induction d with
  | nil => exact ⟨rfl, trivial⟩
  | lit v r ih => exact ⟨⟨rfl, ih.1⟩, ih.2⟩
  | nilr sz e r ih => exact ih
  | row k sz e x r ih => exact ⟨⟨⟨rfl, rfl⟩, ih.1⟩, ih.2⟩
  | seg k d r _ => exact ⟨(rfl : (Dc.seg k d r).ds = _), trivial⟩
  | blk k ver sz e x r _ ih =>
    simp only [Dc.soft]
    split
    · rename_i h
      obtain ⟨h1, h2, h3, h4⟩ := hk k ver h
      exact ⟨⟨⟨h1, h2⟩, ⟨rfl, rfl, h3, h4, x.frz_imp⟩, ih.1⟩, ⟨by rw [h1]; simp, x.frz_ok, ih.2⟩⟩
    · exact ⟨⟨⟨rfl, rfl⟩, ih.1⟩, ih.2⟩
theorem AV.soft_imp {bx : Nat → Option (Nat × Dc)} {τ τ' : Nat → Option Nat} {φ : Tk → List Tk} {keep : Nat → Nat → Bool} {has : Nat → Bool} (hk : ∀ k v, keep k v = true → τ' k = some v ∧ v ≠ 0 ∧ τ k = some v ∧ (k, 0) ∈ φ (k, 0)) (hb : ∀ k, has k = true → bx k ≠ none) (a : AV) : AV.imp bx τ φ τ' (a.soft keep has) a ∧ (a.soft keep has).ok bx τ' := by
  induction a with
  | junk => exact ⟨trivial, trivial⟩
  | v x => exact ⟨rfl, trivial⟩
  | c d => exact d.soft_imp hk
  | agg d => exact d.soft_imp hk
  | bx k o =>
    simp only [AV.soft]
    split
    · rename_i h; exact ⟨⟨rfl, hb k h⟩, hb k h⟩
    · exact ⟨trivial, trivial⟩
  | el x => exact ⟨rfl, trivial⟩
  | nil => exact ⟨rfl, trivial⟩
  | cons a r iha ihr => exact ⟨⟨iha.1, ihr.1⟩, iha.2, ihr.2⟩
  | tup l ih => exact ih
  | fn f a b iha ihb => exact ⟨⟨rfl, iha.1, ihb.1⟩, iha.2, ihb.2⟩
def Dc.has (k : Nat) : Dc → Bool
  | .nil => false
  | .lit _ r => r.has k
  | .nilr _ _ r => r.has k
  | .row _ _ _ _ r => r.has k
  | .seg _ _ r => r.has k
  | .blk k' _ _ _ _ r => k' == k || r.has k
def AV.has (k : Nat) : AV → Bool
  | .c d => d.has k
  | .agg d => d.has k
  | .cons a r => a.has k || r.has k
  | .tup l => l.has k
  | .fn _ a b => a.has k || b.has k
  | _ => false
/-- A round is over: what was of the round alone goes. -/
def gcOf (N : Nat) (loc dropB dropT : Nat → Bool) (st : St) : Option St :=
  let t : List (Nat × Nat) := (List.range (N + 2)).filterMap fun k => match st.τ k with
    | some (v + 1) => if dropT k then none else if (List.range N).any (fun n => !loc n && (st.env n).has k) || (List.range (N + 2)).any (fun n => !dropB n && match st.bx n with
      | some (_, d) => d.has k
      | none => false) then some (k, v + 1) else none
    | _ => none
  let q : List (Tk × List Tk) := t.map fun p => ((p.1, 0), [(p.1, 0)])
  let keep := fun k ver => τOf t k == some ver && (ver != 0 && (st.τ k == some ver && (φOf q (k, 0)).contains (k, 0)))
  let b : List (Nat × Nat × Dc) := (List.range (N + 2)).filterMap fun k => if dropB k then none else match st.bx k with
    | some (T, d) => some (k, T, d.soft keep)
    | none => none
  let l : List (Nat × AV) := (List.range N).filterMap fun n => if loc n then none else match st.env n with
    | .junk => none
    | a => some (n, a.soft keep fun k => (bxOf b k).isSome)
  if List.Nodup (q.flatMap fun p : Tk × List Tk => p.2) then some (stOf l b t) else none
theorem gc_le {G : World → Prop} {N : Nat} {loc dropB dropT : Nat → Bool} {st s : St} (h : gcOf N loc dropB dropT st = some s) : Le G N st s := by
  simp only [gcOf] at h
  split at h
  · rename_i hq
    cases h
    refine le_of _ (fun p hp => ?_) (fun p hp => ?_) hq
    · obtain ⟨n, -, h1⟩ := List.mem_filterMap.1 hp
      split at h1
      · cases h1
      · split at h1
        · cases h1
        · cases h1
          exact AV.soft_imp (fun k v hk => by simpa [Bool.and_eq_true] using hk) (fun k hk => by simpa [Option.isSome_iff_ne_none] using hk) _
    · obtain ⟨n, -, h1⟩ := List.mem_filterMap.1 hp
      split at h1
      · cases h1
      · split at h1
        · rename_i T d hd
          cases h1
          simp only [hd]
          exact ⟨trivial, Dc.soft_imp (fun k v hk => by simpa [Bool.and_eq_true] using hk) _⟩
        · cases h1
  · cases h
end Go.Proofs.YtkcmapimcgppmaaGreatDoor
end
section
namespace Go.Proofs.YtkcmapimcgppmaaGreatDoor
open Go.RowKit

/-- The operations of code. -/
def opersOf : Code → List Oper
  | .region _ ops _ => ops.toList
  | .seq x y => opersOf x ++ opersOf y
  | .cond _ x y => opersOf x ++ opersOf y
  | .block _ c => opersOf c
  | .loop c => opersOf c
  | _ => []
def occ (l : List Oper) (t : Nat) : Nat := (l.filter fun o => o.dst == some t).length
/-- Slots of a loop alone. -/
def locOf (C c : Code) (np t : Nat) : Bool := np ≤ t && (occ (opersOf c) t != 0 && occ (opersOf c) t == occ (opersOf C) t)
def isBuild : Op → Bool
  | .buildSlice _ _ _ => true
  | _ => false
def isBox : Op → Bool
  | .alloc _ => true
  | .box _ _ => true
  | _ => false
def madeOf (p : Op → Bool) (c : Code) (k : Nat) : Bool := (opersOf c).any fun o => p o.op && nmOf o == k

variable {P : Program} {G : World → Prop} {tb : TB}
def opsB (call : Nat → AV → Option AV) (tb : TB) (N : Nat) (ops : Array Oper) : List Oper → St → Option St
  | [], st => some st
  | o :: os, st =>
    let go := match callOf o.op with
      | some (fo, xs) => match calleeOf (ev st N fo) with
        | some (f, x, y) => if x.isLL && y.isLL then match (x.app ((AV.list (xs.map (ev st N))).app y)).lend st.bx with
            | some avs => match call f avs with
              | some res => if st.τ (nmOf o) = none then opsB call tb N ops os (st.out o { av := res.ren (nmOf o), tu := some (nmOf o, 0) }) else none
              | none => none
            | none => none
          else none
        | none => none
      | none => match stepB tb N o st with
        | some (true, r) => opsB call tb N ops os (st.out o r)
        | _ => none
    match o.guard with
    | none => go
    | some (j, want) => match (ops[j]?).bind (·.dst) with
      | some d => match ev st N (.tmp d) with
        | .v (.bool b) => if b = want then go else opsB call tb N ops os (st.out o { av := .v undef })
        | _ => none
      | none => none
theorem opsB_ok {call : Nat → AV → Option AV} (hc : ∀ f a r, call f a = some r → Holds P G f a r) {N : Nat} {ops : Array Oper} {K : Exit → St → Prop} : ∀ {os : List Oper} {st s : St}, opsB call tb N ops os st = some s → K .normal s → vops P G tb N ops os K st
  | [], st, s, h, k => by cases h; exact k
  | o :: os, st, s, h, k => by
    have go : ((match callOf o.op with
      | some (fo, xs) => match calleeOf (ev st N fo) with
        | some (f, x, y) => if x.isLL && y.isLL then match (x.app ((AV.list (xs.map (ev st N))).app y)).lend st.bx with
            | some avs => match call f avs with
              | some res => if st.τ (nmOf o) = none then opsB call tb N ops os (st.out o { av := res.ren (nmOf o), tu := some (nmOf o, 0) }) else none
              | none => none
            | none => none
          else none
        | none => none
      | none => match stepB tb N o st with
        | some (true, r) => opsB call tb N ops os (st.out o r)
        | _ => none) = some s) → (match callOf o.op with
      | some (fo, xs) => match calleeOf (ev st N fo) with
        | some (f, x, y) => (x.isLL = true ∧ y.isLL = true) ∧ Ask P G o f (x.app ((AV.list (xs.map (ev st N))).app y)) (vops P G tb N ops os K) st
        | none => False
      | none => match vout tb N o st with
        | some (c, r) => c ∧ vops P G tb N ops os K (st.out o r)
        | none => False) := by
      intro h
      split at h
      · split at h
        · split at h
          · rename_i hl
            split at h
            · rename_i avs ha
              split at h
              · rename_i res hr
                split at h
                · rename_i hn
                  simp only [Bool.and_eq_true] at hl
                  exact ⟨hl, avs, res, hc _ _ _ hr, AV.lend_arg ha, hn, opsB_ok hc h k⟩
                · cases h
              · cases h
            · cases h
          · cases h
        · cases h
      · split at h
        · rename_i hs
          obtain ⟨c, h1, h2⟩ := stepB_ok _ hs
          rw [h1]
          exact ⟨h2, opsB_ok hc h k⟩
        · cases h
    simp only [opsB] at h
    simp only [vops]
    cases hg : o.guard with
    | none => rw [hg] at h; exact go h
    | some q =>
      obtain ⟨j, want⟩ := q
      rw [hg] at h
      simp only at h ⊢
      split at h
      · rename_i d hd
        simp only [hd]
        split at h
        · rename_i b hb
          simp only [hb]
          split at h
          · rename_i hw; rw [if_pos hw]; exact go h
          · rename_i hw; rw [if_neg hw]; exact opsB_ok hc h k
        · cases h
      · cases h
/-- One step into code. -/
def codeB (call : Nat → AV → Option AV) (self : Code → St → Option (Exit × St)) (tb : TB) (N np : Nat) (C : Code) : Code → St → Option (Exit × St)
  | .skip, st => some (.normal, st)
  | .label _, st => some (.normal, st)
  | .region _ ops draw, st => if !draw || ordOk ops then match opsB call tb N ops ops.toList st with
      | some s => some (.normal, s)
      | none => none
    else none
  | .seq x y, st => match self x st with
    | some (.normal, s) => self y s
    | r => r
  | .cond c x y, st => match ev st N c with
    | .v (.bool b) => if b then self x st else self y st
    | _ => none
  | .block id c, st => match self c st with
    | some (.exit id', s) => if id' = id then some (.normal, s) else some (.exit id', s)
    | r => r
  | .loop c, st => match self c st with
    | some (.normal, s) => match gcOf N (locOf C c np) (madeOf isBox c) (madeOf isBuild c) s with
      | some s => self (.loop c) s
      | none => none
    | r => r
  | .exit id, st => some (.exit id, st)
  | .ret, st => some (.ret, st)
  | _, _ => none
/-- The same, from within a loop on. -/
def InL (P : Program) (G : World → Prop) (N : Nat) (c : Code) (Q : Exit → St → Prop) (st : St) : Prop := ∀ F0 w0 a w, Sat G F0 w0 N st a w → ∀ b k cs, ∃ e a' w', Post G N F0 w0 Q e a' w' ∧ Arrives P (lone (b.at a (.inLoop c :: k)) cs w) b k cs e a' w'
/-- A round of a loop, and the others. -/
theorem around {N : Nat} {c : Code} {Q : Exit → St → Prop} {st : St} (hT : TbOk P tb) (hS : Stays G) (hm : P.follows .mixedOrders = true) (h : acode P G tb N c (thenK (fun s => ∃ s', Le G N s s' ∧ InL P G N c Q s') Q) st) : ALoop P G N c Q st ∧ InL P G N c Q st := by
  have key : ∀ F0 w0 a w, Sat G F0 w0 N st a w → ∀ b k cs, ∃ e a' w', Post G N F0 w0 Q e a' w' ∧ Arrives P (lone (b.at a (.code c :: .inLoop c :: k)) cs w) b k cs e a' w' := by
    intro F0 w0 a w hs b k cs
    obtain ⟨e, a1, w1, hq, harr⟩ := acode_sound hT hS hm h F0 w0 a w hs b (.inLoop c :: k) cs
    obtain ⟨s1, hq, hs1⟩ := hq
    cases e with
    | normal =>
      obtain ⟨s', hle, hl⟩ := hq
      obtain ⟨e2, a2, w2, hq2, harr2⟩ := hl F0 w0 a1 w1 (hle F0 w0 a1 w1 hs1) b k cs
      exact ⟨e2, a2, w2, hq2, .of_steps harr harr2⟩
    | exit id => exact ⟨_, a1, w1, ⟨s1, hq, hs1⟩, .pass (x := .inLoop c) rfl (fun _ _ => .inl (by simp)) harr⟩
    | goto l => exact ⟨_, a1, w1, ⟨s1, hq, hs1⟩, .pass (x := .inLoop c) rfl (fun _ _ => .inl (by simp)) harr⟩
    | ret => exact ⟨_, a1, w1, ⟨s1, hq, hs1⟩, .pass (x := .inLoop c) rfl (fun _ _ => .inl (by simp)) harr⟩
    | panic ch => exact ⟨_, a1, w1, ⟨s1, hq, hs1⟩, .pass (x := .inLoop c) rfl (fun _ _ => .inl (by simp)) harr⟩
    | outgrown => exact ⟨_, a1, w1, ⟨s1, hq, hs1⟩, .pass (x := .inLoop c) rfl (fun _ _ => .inl (by simp)) harr⟩
  refine ⟨fun F0 w0 a w hs b k cs => ?_, fun F0 w0 a w hs b k cs => ?_⟩
  · obtain ⟨e, a', w', hq, harr⟩ := key F0 w0 a w hs b k cs
    exact ⟨e, a', w', hq, .of_steps (.one step_loop) harr⟩
  · obtain ⟨e, a', w', hq, harr⟩ := key F0 w0 a w hs b k cs
    exact ⟨e, a', w', hq, .of_steps (.one step_inLoop) harr⟩
theorem codeB_ok {call : Nat → AV → Option AV} {N np : Nat} {C : Code} {self : Code → St → Option (Exit × St)} (hT : TbOk P tb) (hS : Stays G) (hm : P.follows .mixedOrders = true) (hc : ∀ f a r, call f a = some r → Holds P G f a r)
    (hs : ∀ c st e s (Q : Exit → St → Prop), self c st = some (e, s) → Q e s → acode P G tb N c Q st ∧ ∀ c', c = .loop c' → InL P G N c' Q st) (c : Code) (st : St) (e : Exit) (s : St) (Q : Exit → St → Prop) (h : codeB call self tb N np C c st = some (e, s)) (hq : Q e s) : acode P G tb N c Q st ∧ ∀ c', c = .loop c' → InL P G N c' Q st := by
  cases c with
  | skip => cases h; exact ⟨hq, fun _ e => by cases e⟩
  | label _ => cases h; exact ⟨hq, fun _ e => by cases e⟩
  | exit id => cases h; exact ⟨hq, fun _ e => by cases e⟩
  | ret => cases h; exact ⟨hq, fun _ e => by cases e⟩
  | region id ops draw =>
    refine ⟨?_, fun _ e => by cases e⟩
    simp only [codeB] at h
    split at h
    · rename_i hd
      split at h
      · rename_i s' h1
        cases h
        refine ⟨fun e => ?_, opsB_ok hc h1 hq⟩
        simpa [e] using hd
      · cases h
    · cases h
  | seq x y =>
    refine ⟨?_, fun _ e => by cases e⟩
    simp only [codeB] at h
    cases hx : self x st with
    | none => rw [hx] at h; cases h
    | some q =>
      obtain ⟨e1, s1⟩ := q
      rw [hx] at h
      refine (hs x st e1 s1 (thenK (acode P G tb N y Q) Q) hx ?_).1
      cases e1 with
      | normal => exact (hs y s1 e s Q h hq).1
      | _ => cases h; exact hq
  | cond c x y =>
    refine ⟨?_, fun _ e => by cases e⟩
    simp only [codeB] at h
    simp only [acode]
    split at h
    · rename_i b hb
      simp only [hb]
      split at h
      · rename_i hw; rw [if_pos hw]; exact (hs x st e s Q h hq).1
      · rename_i hw; rw [if_neg hw]; exact (hs y st e s Q h hq).1
    · cases h
  | block id c =>
    refine ⟨?_, fun _ e => by cases e⟩
    simp only [codeB] at h
    cases hx : self c st with
    | none => rw [hx] at h; cases h
    | some q =>
      obtain ⟨e1, s1⟩ := q
      rw [hx] at h
      refine (hs c st e1 s1 (blkK id Q) hx ?_).1
      cases e1 with
      | exit id' =>
        simp only at h
        show if id' = id then _ else _
        split at h
        · rename_i e; rw [if_pos e]; cases h; exact hq
        · rename_i e; rw [if_neg e]; cases h; exact hq
      | _ => cases h; exact hq
  | loop c =>
    have : acode P G tb N c (thenK (fun s => ∃ s', Le G N s s' ∧ InL P G N c Q s') Q) st := by
      simp only [codeB] at h
      cases hx : self c st with
      | none => rw [hx] at h; cases h
      | some q =>
        obtain ⟨e1, s1⟩ := q
        rw [hx] at h
        refine (hs c st e1 s1 _ hx ?_).1
        cases e1 with
        | normal =>
          simp only at h
          split at h
          · rename_i s2 hg
            exact ⟨s2, gc_le hg, (hs (.loop c) s2 e s Q h hq).2 c rfl⟩
          · cases h
        | _ => cases h; exact hq
    obtain ⟨h1, h2⟩ := around hT hS hm this
    exact ⟨h1, fun c' e => by cases e; exact h2⟩
  | _ => cases h

def AV.toL : AV → Option (List AV)
  | .nil => some []
  | .cons a r => r.toL.map (a :: ·)
  | _ => none
theorem AV.toL_ok {a : AV} : ∀ {l : List AV}, a.toL = some l → a = .list l := by
  induction a with
  | nil => intro l h; cases h; rfl
  | cons a r _ ih =>
    intro l h
    obtain ⟨l', h1, rfl⟩ := Option.map_eq_some_iff.1 h
    simp [AV.list, ih h1]
  | _ => intro l h; cases h
/-- No name in it. -/
def Dc.bareB : Dc → Bool
  | .nil => true
  | .lit _ r => r.bareB
  | .nilr _ _ r => r.bareB
  | .row _ _ _ _ r => r.bareB
  | .seg _ _ r => r.bareB
  | .blk _ _ _ _ _ _ => false
def AV.bareB : AV → Bool
  | .c d => d.bareB
  | .agg d => d.bareB
  | .bx _ _ => false
  | .cons a r => a.bareB && r.bareB
  | .tup l => l.bareB
  | .fn _ a b => a.bareB && b.bareB
  | _ => true
theorem Dc.bareB_ok {d : Dc} (h : d.bareB = true) (τ : Nat → Option Nat) : d.ok τ := by
  induction d with
  | nil => trivial
  | lit v r ih => exact ih h
  | nilr sz e r ih => exact ih h
  | row k sz e x r ih => exact ih h
  | seg k d r ih => exact ih h
  | blk k v sz e x r _ _ => cases h
theorem AV.bareB_ok {a : AV} (h : a.bareB = true) (bx : Nat → Option (Nat × Dc)) (τ : Nat → Option Nat) : a.ok bx τ := by
  induction a with
  | c d => exact Dc.bareB_ok h τ
  | agg d => exact Dc.bareB_ok h τ
  | bx k o => cases h
  | cons a r iha ihr => simp only [AV.bareB, Bool.and_eq_true] at h; exact ⟨iha h.1, ihr h.2⟩
  | tup l ih => exact ih h
  | fn f a b iha ihb => simp only [AV.bareB, Bool.and_eq_true] at h; exact ⟨iha h.1, ihb h.2⟩
  | _ => trivial
/-- What is known by hand of functions, of what they call. -/
abbrev Hand := Nat → Option ((Nat → AV → Option AV) → AV → Option AV)
def callB (P : Program) (tb : TB) (hand : Hand) (call : Nat → AV → Option AV) (code : Nat → Nat → Code → Code → St → Option (Exit × St)) (f : Nat) (avs : AV) : Option AV :=
  match hand f with
  | some g => g call avs
  | none => match P.funcs[f]? with
    | some fn => match fn.body, avs.toL with
      | some c, some l => if l.length ≤ fn.ntmps && l.all AV.bareB then match code fn.ntmps l.length c c (startSt l) with
          | some (.normal, s) => (fn.results.toList.mapM (resOf tb fn.ntmps s)).map fun l => (one1 l).frz
          | some (.ret, s) => (fn.results.toList.mapM (resOf tb fn.ntmps s)).map fun l => (one1 l).frz
          | _ => none
        else none
      | _, _ => none
    | none => none
/-- The worker: calls, code. -/
def mach (P : Program) (tb : TB) (hand : Hand) : Nat → (Nat → AV → Option AV) × (Nat → Nat → Code → Code → St → Option (Exit × St))
  | 0 => (fun _ _ => none, fun _ _ _ _ _ => none)
  | n + 1 => (callB P tb hand (mach P tb hand n).1 (mach P tb hand n).2, fun N np C c st => codeB (mach P tb hand n).1 ((mach P tb hand n).2 N np C) tb N np C c st)
theorem mach_ok (hT : TbOk P tb) (hS : Stays G) (hm : P.follows .mixedOrders = true) (hnm : ∀ (f : Nat) (fn : Func), P.funcs[f]? = some fn → fn.name ≠ "runtime.NumGoroutine") {hand : Hand}
    (hh : ∀ call, (∀ f a r, call f a = some r → Holds P G f a r) → ∀ f g, hand f = some g → ∀ a r, g call a = some r → Holds P G f a r) : ∀ n, (∀ f a r, (mach P tb hand n).1 f a = some r → Holds P G f a r) ∧
      ∀ N np C c st e s (Q : Exit → St → Prop), (mach P tb hand n).2 N np C c st = some (e, s) → Q e s → acode P G tb N c Q st ∧ ∀ c', c = .loop c' → InL P G N c' Q st
  | 0 => ⟨fun _ _ _ h => (by cases h), fun _ _ _ _ _ _ _ _ h => (by cases h)⟩
  | n + 1 => by
    obtain ⟨ih1, ih2⟩ := mach_ok hT hS hm hnm hh n
    refine ⟨fun f a r h => ?_, fun N np C c st e s Q h hq => codeB_ok hT hS hm ih1 (ih2 N np C) c st e s Q h hq⟩
    change callB P tb hand _ _ f a = some r at h
    unfold callB at h
    split at h
    · rename_i g hg
      exact hh _ ih1 f g hg a r h
    · split at h
      · rename_i fn hf
        split at h
        · rename_i c l hb hl
          have ha := AV.toL_ok hl
          subst ha
          split at h
          · rename_i hok
            simp only [Bool.and_eq_true, decide_eq_true_eq] at hok
            have fin : ∀ e s, (mach P tb hand n).2 fn.ntmps l.length c c (startSt l) = some (e, s) → (e = .normal ∨ e = .ret) → (fn.results.toList.mapM (resOf tb fn.ntmps s)).map (fun l => (one1 l).frz) = some r → Holds P G f (.list l) r := fun e s hc he hr => by
              obtain ⟨l', h1, rfl⟩ := Option.map_eq_some_iff.1 hr
              have hp := AV.frz_plain (one1 l')
              refine holds_of hT hS hm hf hb (hnm f fn hf) hok.1 (fun a ha => AV.bareB_ok (List.all_eq_true.1 hok.2 a ha) _ _) hp.1 hp.2.1 hp.2.2 (ih2 _ _ _ _ _ _ _ _ hc ?_).1
              rcases he with rfl | rfl
              · exact ⟨l', [], h1, AV.frz_imp _, by simp⟩
              · exact ⟨l', [], h1, AV.frz_imp _, by simp⟩
            split at h
            · rename_i s hc; exact fin _ s hc (.inl rfl) h
            · rename_i s hc; exact fin _ s hc (.inr rfl) h
            · cases h
          · cases h
        · cases h
      · cases h
end Go.Proofs.YtkcmapimcgppmaaGreatDoor
end
section
namespace Go.Proofs.YtkcmapimcgppmaaGreatDoor
open Go.RowKit

def ptOf : Ds → Lv
  | .lit (.int _ a) (.lit (.int _ b) r) => (a, b) :: ptOf r
  | _ => []
def lvOf : Ds → List Lv
  | .row _ _ p _ r => ptOf p :: lvOf r
  | _ => []
def tsOf : Ds → Ts
  | .lit (.int _ k) (.lit (.int _ n) (.lit (.int _ a) (.row _ _ l _ (.row _ _ x _ r)))) => .cons ⟨k, n, a, lvOf l⟩ (tsOf x) (tsOf r)
  | _ => .nil
def tmOf : Dc → Tm
  | .lit (.int _ k) (.lit (.int _ n) (.lit (.int _ a) (.row _ _ _ l (.row _ _ _ x _)))) => ⟨⟨k, n, a, lvOf l⟩, tsOf x⟩
  | _ => ⟨⟨0, 0, 0, []⟩, .nil⟩
def intEq : Value → Value → Bool
  | .int k a, .int k' b => decide (k = k') && decide (a = b)
  | _, _ => false
theorem intEq_ok {u v : Value} (h : intEq u v = true) : u = v := by
  unfold intEq at h
  split at h
  · simp only [Bool.and_eq_true, decide_eq_true_eq] at h
    rw [h.1, h.2]
  · cases h
def Ds.eqB : Ds → Ds → Bool
  | .nil, .nil => true
  | .lit u r, .lit v s => intEq u v && r.eqB s
  | .row sz e x p r, .row sz' e' x' p' r' => decide (sz = sz') && (decide (e = e') && (x.eqB x' && (p.eqB p' && r.eqB r')))
  | _, _ => false
theorem Ds.eqB_ok {x : Ds} : ∀ {y : Ds}, x.eqB y = true → x = y := by
  induction x with
  | nil => intro y h; cases y <;> first | rfl | cases h
  | lit u r ih =>
    intro y h
    cases y <;> simp only [Ds.eqB, Bool.and_eq_true] at h <;> try (cases h; done)
    rw [intEq_ok h.1, ih h.2]
  | row sz e x p r ihx ihp ihr =>
    intro y h
    cases y <;> simp only [Ds.eqB, Bool.and_eq_true, decide_eq_true_eq] at h <;> try (cases h; done)
    obtain ⟨rfl, rfl, h1, h2, h3⟩ := h
    rw [ihx h1, ihp h2, ihr h3]
def Dc.eqB : Dc → Dc → Bool
  | .nil, .nil => true
  | .lit u r, .lit v s => intEq u v && r.eqB s
  | .row none sz e x r, .row none sz' e' x' r' => decide (sz = sz') && (decide (e = e') && (x.eqB x' && r.eqB r'))
  | _, _ => false
theorem Dc.eqB_ok {x : Dc} : ∀ {y : Dc}, x.eqB y = true → x = y := by
  induction x with
  | nil => intro y h; cases y <;> first | rfl | cases h
  | lit u r ih =>
    intro y h
    cases y <;> simp only [Dc.eqB, Bool.and_eq_true] at h <;> try (cases h; done)
    rw [intEq_ok h.1, ih h.2]
  | row k sz e x r ihr =>
    intro y h
    cases k with
    | some _ => cases y <;> cases h
    | none =>
      cases y with
      | row k' sz' e' x' r' =>
        cases k' with
        | some _ => cases h
        | none =>
          simp only [Dc.eqB, Bool.and_eq_true, decide_eq_true_eq] at h
          obtain ⟨rfl, rfl, h1, h2⟩ := h
          rw [Ds.eqB_ok h1, ihr h2]
      | _ => cases h
  | nilr sz e r _ => intro y h; cases y <;> cases h
  | seg k d r _ => intro y h; cases y <;> cases h
  | blk k v sz e x r _ _ => intro y h; cases y <;> cases h
/-- A term, a row of terms that are lent. -/
def tmB (d : Dc) : Option Tm := let t := tmOf d; if d.eqB (tmC none none t.h t.x) then some t else none
theorem tmB_ok {d : Dc} {t : Tm} (h : tmB d = some t) : .agg d = tmL t := by
  simp only [tmB] at h
  split at h
  · rename_i h1; cases h; exact congrArg AV.agg (Dc.eqB_ok h1)
  · cases h
def tsB : Dc → Option Ts
  | .row none 5 26 x .nil => let t := tsOf x; if x.eqB (tDs ty t) then some t else none
  | _ => none
theorem tsB_ok {d : Dc} {t : Ts} (h : tsB d = some t) : .c d = tsA none t := by
  unfold tsB at h
  split at h
  · simp only at h
    split at h
    · rename_i h1; cases h; exact congrArg (fun x => AV.c (.row none 5 26 x .nil)) (Ds.eqB_ok h1)
    · cases h
  · cases h
def inB (n : Int) : Bool := decide (-9223372036854775808 ≤ n) && decide (n ≤ 9223372036854775807)
theorem inB_ok {n : Int} (h : inB n = true) : -9223372036854775808 ≤ n ∧ n ≤ 9223372036854775807 := by simpa [inB] using h
end Go.Proofs.YtkcmapimcgppmaaGreatDoor
end
