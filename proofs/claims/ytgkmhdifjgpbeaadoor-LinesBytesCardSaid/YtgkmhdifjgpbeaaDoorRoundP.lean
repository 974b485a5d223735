/-
  The law of one round of a range over a function whose body is one call, which may panic. Conditions: none.
-/
import Derived.RangeFuncLeaves
import Derived.RangeFuncRecord
namespace Go
variable {P : Program}

/-- What is asked behind the one call of a round. -/
def roundAfter (P : Program) (l : Nat) (R : Ending → World → Prop) : Ending → World → Prop
  | .returned _, w' => ∃ v w'', (Instr.endRound l none).run P w' = .ok v w'' ∧ R (.returned v) w''
  | .panicked c, w' => R (.panicked c) w'
  | .outgrown, _ => False

/-- What is asked ahead of the one call of a round. -/
def roundAhead (P : Program) (l : Nat) (ops : Array Oper) (o0 o1 o2 : Oper) (R : Ending → World → Prop) (a₁ : Act) (w₁ : World) : Prop :=
  a₁.defers = [] ∧ ∃ w₂ v0 v1 g args, (Instr.beginRound l).run P w₁ = .ok () w₂ ∧
    Region.wanted o0 (yielded ops a₁.tmps) = true ∧ (o0.semAt (some l) a₁.eval).run P w₂ = .ok (.value v0) w₂ ∧
    Region.wanted o1 (yielded ops (a₁.put o0.dst v0).tmps) = true ∧ (o1.semAt (some l) (a₁.put o0.dst v0).eval).run P w₂ = .ok (.value v1) w₂ ∧
    Region.wanted o2 (yielded ops ((a₁.put o0.dst v0).put o1.dst v1).tmps) = true ∧ (o2.semAt (some l) ((a₁.put o0.dst v0).put o1.dst v1).eval).run P w₂ = .ok (.enter g args) w₂ ∧
    CallsIn Fence.wide 0 P g args w₂ (roundAfter P l R)

theorem step_op_value {b : Frame} {a : Act} {k : List Item} {cs : List Frame} {w w' : World} {ops : Array Oper} {i : Nat} {rest : List Nat} {o : Oper} {v : Value} (ho : ops[i]? = some o)
    (hw : Region.wanted o (yielded ops a.tmps) = true) (hr : (o.semAt b.roundOf a.eval).run P w = .ok (.value v) w') :
    step P (lone (b.atR a (.inRegion ops (i :: rest) :: k)) cs w) = .next (lone (b.atR (a.put o.dst v) (.inRegion ops rest :: k)) cs w') := by
  have hfin : (b.atR a (.inRegion ops (i :: rest) :: k)).finish v = b.atR (a.put o.dst v) (.inRegion ops rest :: k) := by
    rw [Frame.finish_atR, ho]; rfl
  refine step_lone_go ?_
  rw [stepGR_op ho hw, ← hfin]
  simp [stepG.apply, hr]

theorem step_round_panicked {b c : Frame} {a : Act} {k : List Item} {cs : List Frame} {w : World} {ops : Array Oper} {is : List Nat} {chain : List PanicEntry} (hd : a.defers = []) :
    step P (lone { b.atR a (.inRegion ops is :: k) with mode := .panicking chain } (c :: cs) w) = .next (lone (c.raise chain) cs w) := by
  refine step_lone_go ?_
  have hc : Frame.catches P ({ b.atR a (.inRegion ops is :: k) with mode := .panicking chain } : Frame) = false := by
    unfold Frame.catches
    simp only [Frame.atR]
    cases P.funcs[b.fn]? <;> rfl
  simp [stepG, unwind, Frame.atR, hd] at hc ⊢
  simp [hc]

theorem roundIn_of_call {l : Nat} {f : FuncId} {tmps : Array Value} {assign : Code} {id id2 : Nat} {o0 o1 o2 : Oper} {w : World} {R : Ending → World → Prop}
    (h : assign.wpIn (Fence.wide.inRound l) 0 P (Exit.then (roundAhead P l #[o0, o1, o2] o0 o1 o2 R) (fun _ _ _ => False)) { tmps := tmps, defers := [] } w) :
    RoundIn Fence.wide 0 P l f tmps assign (.block id (.region id2 #[o0, o1, o2] false)) w R := by
  refine ⟨trivial, fun c cs hr => ?_⟩
  let b : Frame := { (default : Frame) with fn := f, kind := .normal, roundOf := some l }
  have hb0 : Frame.round l f tmps assign (.block id (.region id2 #[o0, o1, o2] false)) .normal = b.atR { tmps := tmps, defers := [] } [.code assign, .beginRound, .code (.block id (.region id2 #[o0, o1, o2] false))] := by
    simp [Frame.round, Frame.atR, b]
  obtain ⟨e, a₁, w₁, hq, harr⟩ := h b [.beginRound, .code (.block id (.region id2 #[o0, o1, o2] false))] (c :: cs) rfl trivial hr
  rw [← hb0] at harr
  have one : ∀ {m m' : Machine}, step P m = .next m' → StepsIn (Machine.fenced P Fence.wide) P m m' := fun h => .one (fenced_wide P _) h
  cases e with
  | normal =>
    obtain ⟨hd, w₂, v0, v1, g, args, hbr, q0, r0, q1, r1, q2, r2, hcall⟩ := hq
    have s1 := one (stepR_beginRound (b := b) (a := a₁) (k := [.code (.block id (.region id2 #[o0, o1, o2] false))]) (cs := c :: cs) rfl hbr)
    have s2 := one (stepR_block (P := P) (b := b) (a := a₁) (k := []) (cs := c :: cs) (w := w₂) (id := id) (c := .region id2 #[o0, o1, o2] false))
    have s3 := one (stepR_region (P := P) (b := b) (a := a₁) (k := [.inBlock id]) (cs := c :: cs) (w := w₂) (ops := #[o0, o1, o2]) (id := id2))
    have s4 := one (step_op_value (P := P) (b := b) (a := a₁) (k := [.inBlock id]) (cs := c :: cs) (w := w₂) (ops := #[o0, o1, o2]) (i := 0) (rest := [1, 2]) rfl q0 r0)
    have s5 := one (step_op_value (P := P) (b := b) (a := a₁.put o0.dst v0) (k := [.inBlock id]) (cs := c :: cs) (w := w₂) (ops := #[o0, o1, o2]) (i := 1) (rest := [2]) rfl q1 r1)
    have hg := stepGR_op (P := P) (b := b) (a := (a₁.put o0.dst v0).put o1.dst v1) (k := [.inBlock id]) (cs := c :: cs) (w := w₂) (ops := #[o0, o1, o2]) (i := 2) (rest := []) rfl q2
    have s6 : step P (lone (b.atR ((a₁.put o0.dst v0).put o1.dst v1) (.inRegion #[o0, o1, o2] [2] :: [.inBlock id])) (c :: cs) w₂) =
        .next (lone (Frame.enter P g args .normal) (b.atR ((a₁.put o0.dst v0).put o1.dst v1) (.inRegion #[o0, o1, o2] [2] :: [.inBlock id]) :: c :: cs) w₂) :=
      step_lone_go (by rw [hg]; simp [stepG.apply, b, r2, Frame.atR])
    have pre := (StepsIn.trans harr s1).trans (s2.trans (s3.trans (s4.trans (s5.trans (one s6)))))
    have hd2 : ((a₁.put o0.dst v0).put o1.dst v1).defers = [] := by
      have hp : ∀ (a : Act) (d : Option Tmp) (v : Value), (a.put d v).defers = a.defers := fun a d v => by cases d <;> rfl
      rw [hp, hp, hd]
    obtain ⟨e₂, w₃, fr, hR, hsteps, hfn, hleave⟩ := hcall.2 (b.atR ((a₁.put o0.dst v0).put o1.dst v1) (.inRegion #[o0, o1, o2] [2] :: [.inBlock id]) :: c :: cs) (room_wide _)
    cases e₂ with
    | returned v =>
      obtain ⟨u, w₄, hend, hR⟩ := hR
      have s7 := one (step_leave_returned (c := b.atR ((a₁.put o0.dst v0).put o1.dst v1) (.inRegion #[o0, o1, o2] [2] :: [.inBlock id])) (cs := c :: cs) hleave)
      have hfin : (b.atR ((a₁.put o0.dst v0).put o1.dst v1) (.inRegion #[o0, o1, o2] [2] :: [.inBlock id])).finish v = b.atR (((a₁.put o0.dst v0).put o1.dst v1).put o2.dst v) (.inRegion #[o0, o1, o2] [] :: [.inBlock id]) := by
        rw [Frame.finish_atR]; rfl
      rw [hfin] at s7
      have s8 := one (stepR_region_end (P := P) (b := b) (a := ((a₁.put o0.dst v0).put o1.dst v1).put o2.dst v) (k := [.inBlock id]) (cs := c :: cs) (w := w₃) (ops := #[o0, o1, o2]))
      have s9 := one (stepR_inBlock (P := P) (b := b) (a := ((a₁.put o0.dst v0).put o1.dst v1).put o2.dst v) (k := []) (cs := c :: cs) (w := w₃) (id := id))
      have s10 := one (stepR_round_end (P := P) (b := b) (a := ((a₁.put o0.dst v0).put o1.dst v1).put o2.dst v) (c := c) (cs := cs) (w := w₃) rfl rfl hend)
      exact ⟨.returned u, w₄, hR, pre.trans (StepsIn.trans hsteps (s7.trans (s8.trans (s9.trans s10))))⟩
    | panicked chain =>
      have s7 := one (step_leave_panicked (c := b.atR ((a₁.put o0.dst v0).put o1.dst v1) (.inRegion #[o0, o1, o2] [2] :: [.inBlock id])) (cs := c :: cs) hleave)
      rw [Frame.raise_atR] at s7
      have s8 := one (step_round_panicked (P := P) (b := b) (c := c) (a := (a₁.put o0.dst v0).put o1.dst v1) (k := [.inBlock id]) (cs := cs) (w := w₃) (ops := #[o0, o1, o2]) (is := [2]) (chain := chain) hd2)
      exact ⟨.panicked chain, w₃, hR, pre.trans (StepsIn.trans hsteps (s7.trans s8))⟩
    | outgrown => exact hR.elim
  | exit id => exact hq.elim
  | goto t => exact hq.elim
  | ret => exact hq.elim
  | panic chain => exact hq.elim
  | outgrown => exact hq.elim

#print axioms roundIn_of_call
end Go
