/-
  Whole functions walked over states: what is left to show. Conditions: the table of types is the program's. The table of types. slices.Clone of parts, of levels. Conditions: no more than 2000000 of them. Conditions: as each lemma states them.
-/
import Derived.Test.YtkcmapimcgppmaaGreatDoorN07
import Derived.Test.YtkcmapimcgppmaaGreatDoorProg
import Derived.KernelRfl
import Derived.Test.YtkcmapimcgppmaaGreatDoorN02
set_option linter.all false
set_option linter.unusedVariables false
set_option linter.unusedSimpArgs false
set_option linter.unnecessarySimpa false
section
namespace Go.Proofs.YtkcmapimcgppmaaGreatDoor
open Go.RowKit

variable {P : Program} {G : World → Prop} {tb : TB} {N : Nat} {ops : Array Oper}
def freshC (st : St) (r : Out) : Prop := (match r.bu with
  | some (k, _) => st.bx k = none ∧ k < K0
  | none => True) ∧ match r.tu with
  | some (k, _) => st.τ k = none
  | none => True
theorem fresh_of {st : St} {r : Out} (h : freshC st r) : fresh st r := by
  obtain ⟨h1, h2⟩ := h
  refine ⟨fun k x e => ?_, fun k x e => ?_⟩
  · rw [e] at h1; exact h1
  · rw [e] at h2; exact h2
/-- A step that is no call of a function. -/
def vout (tb : TB) (N : Nat) (o : Oper) (st : St) : Option (Prop × Out) :=
  match o.op with
  | .store _ _ _ => astore tb (ev st N) (contOf st N o.op) o.op
  | .call cl => match cl.callee with
    | .builtin .append => aapp tb (ev st N) st.τ (nmOf o) cl
    | .value _ => none
    | _ => (aout tb (ev st N) (contOf st N o.op) (nmOf o) o.op).map fun q => (q.1 ∧ freshC st q.2, q.2)
  | _ => (aout tb (ev st N) (contOf st N o.op) (nmOf o) o.op).map fun q => (q.1 ∧ freshC st q.2, q.2)
theorem vout_does {o : Oper} {st : St} {c : Prop} {r : Out} (h : vout tb N o st = some (c, r)) (hc : c) : Does P G tb N o st r := by
  have calm : (aout tb (ev st N) (contOf st N o.op) (nmOf o) o.op).map (fun q => (q.1 ∧ freshC st q.2, q.2)) = some (c, r) → ∃ c, aout tb (ev st N) (contOf st N o.op) (nmOf o) o.op = some (c, r) ∧ c ∧ fresh st r := fun h => by
    obtain ⟨⟨c', r'⟩, h1, h2⟩ := Option.map_eq_some_iff.1 h
    cases h2
    exact ⟨c', h1, hc.1, fresh_of hc.2⟩
  obtain ⟨dst, op, ty, pos, after, guard⟩ := o
  unfold vout at h
  unfold Does
  cases op <;> simp only at h calm ⊢ <;> try (exact calm h)
  case store T ad x => exact ⟨c, h, hc⟩
  case call cl =>
    obtain ⟨callee, xs, ts⟩ := cl
    cases callee with
    | value f => cases h
    | invoke r m => exact calm h
    | builtin b =>
      cases b <;> simp only at h ⊢ <;> try (exact calm h)
      case append => exact ⟨c, h, hc⟩
def callOf : Op → Option (Operand × List Operand)
  | .call { callee := .value f, args := xs, .. } => some (f, xs.toList)
  | _ => none
/-- What is left to show at a call: a contract (to be given by 'ask'). -/
def Ask (P : Program) (G : World → Prop) (o : Oper) (f : Nat) (args : AV) (R : St → Prop) (st : St) : Prop := ∃ avs res, Holds P G f avs res ∧ args.arg st.bx avs ∧ st.τ (nmOf o) = none ∧ R (st.out o { av := res.ren (nmOf o), tu := some (nmOf o, 0) })
/-- What is left to show of operations. -/
def vops (P : Program) (G : World → Prop) (tb : TB) (N : Nat) (ops : Array Oper) : List Oper → (Exit → St → Prop) → St → Prop
  | [], K, st => K .normal st
  | o :: os, K, st =>
    let go := match callOf o.op with
      | some (fo, xs) => match calleeOf (ev st N fo) with
        | some (f, x, y) => (x.isLL = true ∧ y.isLL = true) ∧ Ask P G o f (x.app ((AV.list (xs.map (ev st N))).app y)) (vops P G tb N ops os K) st
        | none => False
      | none => match vout tb N o st with
        | some (c, r) => c ∧ vops P G tb N ops os K (st.out o r)
        | none => False
    match o.guard with
    | none => go
    | some (j, want) => match (ops[j]?).bind (·.dst) with
      | some d => match ev st N (.tmp d) with
        | .v (.bool b) => if b = want then go else vops P G tb N ops os K (st.out o { av := .v undef })
        | _ => False
      | none => False
theorem ask {P : Program} {G : World → Prop} {o : Oper} {f : Nat} {args : AV} {R : St → Prop} {st : St} {ps res : AV} (h : Holds P G f ps res) (ha : args.arg st.bx ps) (hn : st.τ (nmOf o) = none) (k : R (st.out o { av := res.ren (nmOf o), tu := some (nmOf o, 0) })) : Ask P G o f args R st := ⟨ps, res, h, ha, hn, k⟩
theorem callOf_op {op : Op} {fo : Operand} {xs : List Operand} (h : callOf op = some (fo, xs)) : ∃ cl : Call, op = .call cl ∧ cl.callee = .value fo ∧ cl.args.toList = xs := by
  unfold callOf at h
  split at h
  · cases h; exact ⟨_, rfl, rfl, rfl⟩
  · cases h
theorem vops_run {K : Exit → St → Prop} : ∀ {os : List Oper} {n : Nat} {st : St}, ops.toList.drop n = os → vops P G tb N ops os K st → ∃ st', Run P G tb N ops (List.range' n os.length) st st' ∧ K .normal st'
  | [], n, st, _, h => ⟨st, rfl, h⟩
  | o :: os, n, st, hd, h => by
    have hn : ops[n]? = some o := by
      have : (ops.toList.drop n)[0]? = some o := by rw [hd]; rfl
      rw [List.getElem?_drop] at this
      simpa using this
    have hd' : ops.toList.drop (n + 1) = os := by
      have := congrArg (List.drop 1) hd
      rw [List.drop_drop] at this
      simpa using this
    have go : ∀ Q : Prop, ((match callOf o.op with
      | some (fo, xs) => match calleeOf (ev st N fo) with
        | some (f, x, y) => (x.isLL = true ∧ y.isLL = true) ∧ Ask P G o f (x.app ((AV.list (xs.map (ev st N))).app y)) (vops P G tb N ops os K) st
        | none => False
      | none => match vout tb N o st with
        | some (c, r) => c ∧ vops P G tb N ops os K (st.out o r)
        | none => False)) → (∀ r, Does P G tb N o st r → vops P G tb N ops os K (st.out o r) → Q) → Q := by
      intro Q h hq
      split at h
      · rename_i fo xs hcl
        split at h
        · rename_i f x y k1
          obtain ⟨k2, avs, res, k3, k4, k5, k6⟩ := h
          obtain ⟨cl, e1, e2, e3⟩ := callOf_op hcl
          refine hq _ ?_ k6
          unfold Does
          rw [e1]
          simp only [e2]
          exact ⟨f, x, y, avs, res, k1, k2, k3, by rw [e3]; exact k4, k5, rfl⟩
        · exact h.elim
      · split at h
        · rename_i hv
          exact hq _ (vout_does hv h.1) h.2
        · exact h.elim
    simp only [vops] at h
    rw [List.length_cons, List.range'_succ]
    cases hg : o.guard with
    | none =>
      rw [hg] at h
      refine go _ h fun r h1 h2 => ?_
      obtain ⟨st', h3, h4⟩ := vops_run hd' h2
      exact ⟨st', ⟨o, r, hn, by unfold DoesG; rw [hg]; exact h1, h3⟩, h4⟩
    | some q =>
      obtain ⟨j, want⟩ := q
      rw [hg] at h
      simp only at h
      split at h
      · rename_i d hd1
        split at h
        · rename_i b hb
          split at h
          · rename_i hbw
            refine go _ h fun r h1 h2 => ?_
            obtain ⟨st', h3, h4⟩ := vops_run hd' h2
            exact ⟨st', ⟨o, r, hn, by unfold DoesG; rw [hg]; exact ⟨d, b, hd1, hb, .inl ⟨hbw, h1⟩⟩, h3⟩, h4⟩
          · rename_i hbw
            obtain ⟨st', h3, h4⟩ := vops_run hd' h
            exact ⟨st', ⟨o, _, hn, by unfold DoesG; rw [hg]; exact ⟨d, b, hd1, hb, .inr ⟨hbw, rfl⟩⟩, h3⟩, h4⟩
        · exact h.elim
      · exact h.elim

/-- What an ending leaves. -/
def Post (G : World → Prop) (N : Nat) (F0 : Mem) (w0 : World) (Q : Exit → St → Prop) : Exit → Act → World → Prop := fun e a w => ∃ st, Q e st ∧ Sat G F0 w0 N st a w
def thenK (f : St → Prop) (Q : Exit → St → Prop) : Exit → St → Prop
  | .normal, s => f s
  | e, s => Q e s
def blkK (id : Nat) (Q : Exit → St → Prop) : Exit → St → Prop
  | .exit id', s => if id' = id then Q .normal s else Q (.exit id') s
  | e, s => Q e s
/-- What is left to show of a loop: to be given by 'aloop'. -/
def ALoop (P : Program) (G : World → Prop) (N : Nat) (c : Code) (Q : Exit → St → Prop) (st : St) : Prop := ∀ F0 w0 a w, Sat G F0 w0 N st a w → (Code.loop c).wp P (Post G N F0 w0 Q) a w
/-- What is left to show of code. -/
def acode (P : Program) (G : World → Prop) (tb : TB) (N : Nat) : Code → (Exit → St → Prop) → St → Prop
  | .skip, Q, st => Q .normal st
  | .label _, Q, st => Q .normal st
  | .region _ ops draw, Q, st => (draw = true → ordOk ops = true) ∧ vops P G tb N ops ops.toList Q st
  | .seq x y, Q, st => acode P G tb N x (thenK (acode P G tb N y Q) Q) st
  | .cond c x y, Q, st => match ev st N c with
    | .v (.bool b) => if b = true then acode P G tb N x Q st else acode P G tb N y Q st
    | _ => False
  | .block id c, Q, st => acode P G tb N c (blkK id Q) st
  | .loop c, Q, st => ALoop P G N c Q st
  | .exit id, Q, st => Q (.exit id) st
  | .ret, Q, st => Q .ret st
  | _, _, _ => False
theorem acode_sound (hT : TbOk P tb) (hS : Stays G) (hm : P.follows .mixedOrders = true) {c : Code} : ∀ {Q : Exit → St → Prop} {st : St}, acode P G tb N c Q st → ∀ F0 w0 a w, Sat G F0 w0 N st a w → c.wp P (Post G N F0 w0 Q) a w := by
  induction c with
  | skip => intro Q st h F0 w0 a w hs; exact wp_skip ⟨st, h, hs⟩
  | label l => intro Q st h F0 w0 a w hs; exact wp_label ⟨st, h, hs⟩
  | region id ops draw =>
    intro Q st h F0 w0 a w hs
    obtain ⟨h1, h2⟩ := h
    obtain ⟨st', h3, h4⟩ := vops_run (n := 0) rfl h2
    refine wp_region_run hT hS hm (fun a w hs' => ⟨st', h4, hs'⟩) h1 ?_ hs
    rw [List.range_eq_range']
    simpa using h3
  | seq x y ihx ihy =>
    intro Q st h F0 w0 a w hs
    refine wp_seq (wp_mono (ihx h F0 w0 a w hs) ?_)
    rintro e a' w' ⟨st', hq, hs'⟩
    cases e with
    | normal => exact ihy hq F0 w0 a' w' hs'
    | _ => exact ⟨st', hq, hs'⟩
  | cond c x y ihx ihy =>
    intro Q st h F0 w0 a w hs
    simp only [acode] at h
    split at h
    · rename_i b hb
      obtain ⟨g, rfl, -, -, -, -, -, hsl⟩ := hs.gh
      have hr := ev_rep (N := N) hsl c
      rw [hb] at hr
      refine wp_cond (t := b) (by simpa [RepV] using hr) ?_
      cases b
      · exact ihy (by simpa using h) F0 w0 a _ hs
      · exact ihx (by simpa using h) F0 w0 a _ hs
    · exact h.elim
  | block id c ih =>
    intro Q st h F0 w0 a w hs
    refine wp_block (wp_mono (ih h F0 w0 a w hs) ?_)
    rintro e a' w' ⟨st', hq, hs'⟩
    cases e with
    | exit id' =>
      show if id' = id then _ else _
      change if id' = id then _ else _ at hq
      split
      · rename_i e; rw [if_pos e] at hq; exact ⟨st', hq, hs'⟩
      · rename_i e; rw [if_neg e] at hq; exact ⟨st', hq, hs'⟩
    | _ => exact ⟨st', hq, hs'⟩
  | loop c _ => intro Q st h F0 w0 a w hs; exact h F0 w0 a w hs
  | exit id => intro Q st h F0 w0 a w hs; exact wp_exit ⟨st, h, hs⟩
  | ret => intro Q st h F0 w0 a w hs; exact wp_ret ⟨st, h, hs⟩
  | rangeFunc _ _ _ _ => intro Q st h; exact h.elim
  | scope _ => intro Q st h; exact h.elim
  | goto _ => intro Q st h; exact h.elim
  | refuse _ => intro Q st h; exact h.elim
/-- What a round must leave. -/
def loopK {α : Type} (G : World → Prop) (N : Nat) (I : α → St) (μ : α → Nat) (x : α) (Q : Exit → St → Prop) : Exit → St → Prop
  | .normal, s => ∃ y, μ y < μ x ∧ Le G N s (I y)
  | e, s => Q e s
theorem aloop {α : Type} (hT : TbOk P tb) (hS : Stays G) (hm : P.follows .mixedOrders = true) (I : α → St) (μ : α → Nat) (x0 : α) {c : Code} {Q : Exit → St → Prop} {st : St} (h0 : Le G N st (I x0)) (hr : ∀ x, acode P G tb N c (loopK G N I μ x Q) (I x)) : ALoop P G N c Q st := by
  intro F0 w0 a w hs
  intro b k cs
  have key : ∀ n x a w, μ x = n → Sat G F0 w0 N (I x) a w → ∃ e a' w', Post G N F0 w0 Q e a' w' ∧ Arrives P (lone (b.at a (.code c :: .inLoop c :: k)) cs w) b k cs e a' w' := by
    intro n
    induction n using Nat.strongRecOn with
    | _ n ih =>
      intro x a w hx hs
      obtain ⟨e, a1, w1, hq, harr⟩ := acode_sound hT hS hm (hr x) F0 w0 a w hs b (.inLoop c :: k) cs
      obtain ⟨s1, hq, hs1⟩ := hq
      cases e with
      | normal =>
        obtain ⟨y, hy, hle⟩ := hq
        obtain ⟨e2, a2, w2, hq2, harr2⟩ := ih (μ y) (by omega) y a1 w1 rfl (hle F0 w0 a1 w1 hs1)
        exact ⟨e2, a2, w2, hq2, .of_steps (Steps.trans harr (.one step_inLoop)) harr2⟩
      | exit id => exact ⟨_, a1, w1, ⟨s1, hq, hs1⟩, .pass (x := .inLoop c) rfl (fun _ _ => .inl (by simp)) harr⟩
      | goto l => exact ⟨_, a1, w1, ⟨s1, hq, hs1⟩, .pass (x := .inLoop c) rfl (fun _ _ => .inl (by simp)) harr⟩
      | ret => exact ⟨_, a1, w1, ⟨s1, hq, hs1⟩, .pass (x := .inLoop c) rfl (fun _ _ => .inl (by simp)) harr⟩
      | panic ch => exact ⟨_, a1, w1, ⟨s1, hq, hs1⟩, .pass (x := .inLoop c) rfl (fun _ _ => .inl (by simp)) harr⟩
      | outgrown => exact ⟨_, a1, w1, ⟨s1, hq, hs1⟩, .pass (x := .inLoop c) rfl (fun _ _ => .inl (by simp)) harr⟩
  obtain ⟨e, a', w', hq, harr⟩ := key _ x0 a w rfl (h0 F0 w0 a w hs)
  exact ⟨e, a', w', hq, .of_steps (.one step_loop) harr⟩

/-- The value that a function hands back, in a state. -/
def resOf (tb : TB) (N : Nat) (st : St) : ResultVar → Option AV
  | .tmp t => some (ev st N (.tmp t))
  | .cell t T => match ev st N (.tmp t), tb T with
    | .bx k 0, some y => match st.bx k with
      | some (_, d) => if d.ln = y.size then (match y.sh with
        | .st _ => some (.agg d)
        | .arr => none
        | _ => if y.size = 1 then some d.sing else none) else none
      | none => none
    | _, _ => none
def one1 : List AV → AV
  | [a] => a
  | l => .tup (.list l)
/-- What must hold where a function ends. -/
def retK (tb : TB) (N : Nat) (rs : List ResultVar) (r : AV) : Exit → St → Prop
  | .normal, st | .ret, st => ∃ l q, rs.mapM (resOf tb N st) = some l ∧ AV.imp (fun _ => none) st.τ (φOf q) (fun k => if k = 0 then some 0 else none) r (one1 l) ∧ (q.flatMap (·.2)).Nodup
  | _, _ => False
def startSt (l : List AV) : St := ⟨fun t => l.getD t .junk, fun _ => none, fun _ => none, fun _ => none⟩
theorem res_run (hT : TbOk P tb) {g : Gh} (hI : Inv g) {st : St} {a : Act} (hbx : g.st.bx = st.bx) (hsl : ∀ t, t < N → RepV g (st.env t) [a.tmps.getD t undef]) : ∀ {rs : List ResultVar} {l : List AV}, rs.mapM (resOf tb N st) = some l →
    ∃ vs : List Value, (rs.mapM fun (x : ResultVar) => (match x with
      | .tmp t => pure (a.tmps.getD t undef)
      | .cell t T => do loadVar T (← asAddr (a.tmps.getD t undef)) : Sem Value)).run P g.w = .ok vs g.w ∧ RepV g (.list l) vs ∧ vs.length = l.length
  | [], l, h => by
    simp at h
    subst h
    exact ⟨[], rfl, rfl, rfl⟩
  | x :: rs, l, h => by
    simp only [List.mapM_cons, Option.bind_eq_bind, Option.pure_def] at h
    cases h1 : resOf tb N st x with
    | none => simp [h1] at h
    | some b =>
      cases h2 : rs.mapM (resOf tb N st) with
      | none => simp [h1, h2] at h
      | some l' =>
        simp [h1, h2] at h
        subst h
        obtain ⟨vs, h3, h4, h5⟩ := res_run hT hI hbx hsl h2
        have one : ∃ v, ((match x with
            | .tmp t => pure (a.tmps.getD t undef)
            | .cell t T => do loadVar T (← asAddr (a.tmps.getD t undef)) : Sem Value)).run P g.w = .ok v g.w ∧ RepV g b [v] := by
          cases x with
          | tmp t =>
            cases h1
            exact ⟨_, rfl, ev_rep hsl (.tmp t)⟩
          | cell t T =>
            simp only [resOf] at h1
            have hr := ev_rep (N := N) hsl (.tmp t)
            split at h1
            · rename_i k y hk hy
              rw [hk] at hr
              have e : a.tmps.getD t undef = .pointer (some ⟨g.B k, 0, none⟩) := by simpa [Act.eval] using hr.1
              split at h1
              · rename_i T0 d hd
                obtain ⟨-, -, xs, k3, k4⟩ := hI.box k T0 d (by rw [hbx]; exact hd)
                split at h1
                · rename_i hln
                  have hl := load_rep hT hy (b := g.B k) (q := 0) (cs := xs) (fun j u hu => by rw [cell_of_row _ _ _ _ _ _ k3]; simpa using hu) k4 hln
                  have conv : ∀ v, (Instr.loadAt T (.pointer (some ⟨g.B k, 0, none⟩))).run P g.w = .ok v g.w → (do loadVar T (← asAddr (a.tmps.getD t undef)) : Sem Value).run P g.w = .ok v g.w := fun v hv => by
                    rw [e]
                    simpa [Instr.loadAt, Instr.sureAddr, asAddr] using hv
                  split at h1
                  · rename_i fs hs
                    cases h1
                    obtain ⟨v, e1, e2⟩ := hl.1 fs hs
                    exact ⟨v, conv v e1, e2⟩
                  · cases h1
                  · rename_i hs1 hs2
                    split at h1
                    · rename_i hs3
                      cases h1
                      obtain ⟨v, e1, e2⟩ := hl.2 (fun fs e => hs1 fs e) hs2 hs3
                      exact ⟨v, conv v e1, e2⟩
                    · cases h1
                · cases h1
              · cases h1
            · cases h1
        obtain ⟨v, h6, h7⟩ := one
        refine ⟨v :: vs, ?_, ⟨v, vs, rfl, h7, h4⟩, by simp [h5]⟩
        rw [List.mapM_cons]
        simp only [Sem.run_bind, h6, Result.andThen_ok, h3, Sem.run_pure]
theorem results_run {fn : Func} {tmps : Array Value} {w : World} {vs : List Value} (h : (fn.results.toList.mapM fun (x : ResultVar) => (match x with
      | .tmp t => pure (tmps.getD t undef)
      | .cell t T => do loadVar T (← asAddr (tmps.getD t undef)) : Sem Value)).run P w = .ok vs w) : (results fn tmps).run P w = .ok (if h : vs.toArray.size = 1 then vs.toArray[0] else .tuple vs.toArray) w := by
  have e : results fn tmps = (do
      let vs ← (List.toArray <$> fn.results.toList.mapM fun (x : ResultVar) => (match x with
        | .tmp t => pure (tmps.getD t undef)
        | .cell t T => do loadVar T (← asAddr (tmps.getD t undef)) : Sem Value))
      pure (if h : vs.size = 1 then vs[0] else .tuple vs)) := by
    unfold results
    rw [Array.mapM_eq_mapM_toList]
    rfl
  rw [e]
  simp only [Sem.run_bind, Sem.run_map, h, Result.andThen_ok, Sem.run_pure]
/-- A function's contract, by what is left to show of its code. -/
theorem holds_of (hT : TbOk P tb) (hS : Stays G) (hm : P.follows .mixedOrders = true) {f : Nat} {fn : Func} {c : Code} {l : List AV} {r : AV} (hf : P.funcs[f]? = some fn) (hb : fn.body = some c) (hname : fn.name ≠ "runtime.NumGoroutine")
    (hN : l.length ≤ fn.ntmps) (hl : ∀ a ∈ l, a.ok (fun _ => none) (fun _ => none)) (hr : r.plain = true) (hr2 : r.still = true) (hr3 : r.flat = true) (h : acode P G tb fn.ntmps c (retK tb fn.ntmps fn.results.toList r) (startSt l)) : Holds P G f (.list l) r := by
  refine ⟨⟨fn, hf, hname, by rw [hb]; simp⟩, hr, fun F w vs hF hG hv => ?_⟩
  have hlen : ∀ (l : List AV) (vs : List Value), RepV (argGh F w) (.list l) vs → vs.length = l.length ∧ ∀ t, RepV (argGh F w) (l.getD t .junk) [vs.getD t undef] := by
    intro l
    induction l with
    | nil => intro vs h; rw [show vs = [] from h]; exact ⟨rfl, fun t => trivial⟩
    | cons a l ih =>
      rintro vs ⟨y, ys, rfl, h1, h2⟩
      obtain ⟨h3, h4⟩ := ih ys h2
      refine ⟨by simp [h3], fun t => ?_⟩
      cases t with
      | zero => exact h1
      | succ t => exact h4 t
  obtain ⟨hvl, hvs⟩ := hlen l vs hv
  have hsat : Sat G F w fn.ntmps (startSt l) { tmps := vs.toArray ++ Array.replicate (fn.ntmps - vs.toArray.size) undef, defers := [] } w := by
    refine ⟨⟨fun t => ?_, fun k T d e => by cases e⟩, ⟨argGh F w, rfl, ⟨hF, Nat.le_refl _, fun k T d e => (by cases e), fun k k' h1 => (absurd rfl h1), fun k j b h1 => (absurd rfl h1), fun k k' b h1 => (absurd rfl h1)⟩, rfl, rfl, rfl, fun _ _ _ => rfl, fun t ht => ?_⟩, Below.refl _ _, hG, ?_, rfl, fun t x e => by cases e⟩
    · show (l.getD t .junk).ok _ _
      rw [List.getD_eq_getElem?_getD]
      cases ht : l[t]? with
      | none => trivial
      | some x => exact hl x (List.mem_of_getElem? ht)
    · have := hvs t
      have e : (vs.toArray ++ Array.replicate (fn.ntmps - vs.toArray.size) undef).getD t undef = vs.getD t undef := by
        rw [Array.getD_eq_getD_getElem?, Array.getElem?_append, List.getD_eq_getElem?_getD]
        by_cases h1 : t < vs.length
        · simp [h1]
        · have h2 : vs[t]? = none := List.getElem?_eq_none (by omega)
          simp only [List.size_toArray, h1, if_false, h2, Option.getD_none]
          rw [Array.getElem?_replicate]
          split <;> rfl
      show RepV _ (l.getD t .junk) [(vs.toArray ++ Array.replicate (fn.ntmps - vs.toArray.size) undef).getD t undef]
      rw [e]
      exact this
    · simp; omega
  refine calls_of_wp hf hb (wp_mono (acode_sound hT hS hm h F w _ _ hsat) ?_)
  rintro e a' w' ⟨st, hq, hs⟩
  have fin : (∃ l q, fn.results.toList.mapM (resOf tb fn.ntmps st) = some l ∧ AV.imp (fun _ => none) st.τ (φOf q) (fun k => if k = 0 then some 0 else none) r (one1 l) ∧ (q.flatMap (·.2)).Nodup) →
      a'.defers = [] ∧ ∃ v, (results fn a'.tmps).run P w' = .ok v w' ∧ ∃ v1 fp, Ending.returned v = .returned v1 ∧ Below w.heap.size w w' ∧ RepV (resGh F w w' fp) r [v1] ∧ (∀ k b, b ∈ fp k → w.heap.size ≤ b ∧ b < w'.heap.size) ∧ ∀ k k' b, b ∈ fp k → b ∈ fp k' → k = k' := by
    rintro ⟨l', q, h1, h2, h3⟩
    obtain ⟨g, rfl, hI, hbx, hτ, hbase, hF0, hsl⟩ := hs.gh
    obtain ⟨vs', h4, h5, h6⟩ := res_run hT hI hbx hsl h1
    have hres : ∃ v, (results fn a'.tmps).run P g.w = .ok v g.w ∧ RepV g (one1 l') [v] := by
      have h7 := results_run h4
      match l', vs', h5, h6, h7 with
      | [x], [v], ⟨_, _, e, h8, _⟩, _, h7 =>
        cases e
        exact ⟨v, h7, h8⟩
      | [], [], h5, _, h7 => exact ⟨.tuple #[], h7, [], rfl, h5⟩
      | x :: y :: l', u :: v :: vs', h5, _, h7 => exact ⟨.tuple (u :: v :: vs').toArray, by rw [h7]; simp, _, rfl, h5⟩
    obtain ⟨v, h7, h8⟩ := hres
    have hw : Weak g (resGh F w g.w (fpOf g (φOf q))) (φOf q) := ⟨fun b o u hu => by
        show (if b < w.heap.size then F b o else U g.w b o) = some u
        split
        · rename_i hb
          rw [← hF0 b o (by rw [hbase]; exact hb)]
          exact hu
        · exact hI.F _ _ _ hu, rfl, hbase.symm, fun k b h => mem_fpOf.2 h⟩
    have h9 : RepV (resGh F w g.w (fpOf g (φOf q))) r [v] := RepV.imp hI hw (.inl hr2) (.inl hr3) (by rw [hτ]; exact h2) h8
    refine ⟨hs.defers, v, h7, v, fpOf g (φOf q), rfl, hs.below, h9, fun k b hb => ?_, fun k k' b hb hb' => ?_⟩
    · obtain ⟨u, -, h10, h11⟩ := mem_fpOf.1 hb
      obtain ⟨h12, h13, -⟩ := hI.fpb u.1 u.2 b h10 h11
      rw [hbase] at h12
      exact ⟨h12, h13⟩
    · obtain ⟨u, hu, h10, h11⟩ := mem_fpOf.1 hb
      obtain ⟨u', hu', h12, h13⟩ := mem_fpOf.1 hb'
      have := hI.fpd u u' b h10 h12 h11 h13
      subst this
      exact φ_disj h3 hu hu'
  cases e with
  | normal => exact fin hq
  | ret => exact fin hq
  | _ => exact hq.elim
end Go.Proofs.YtkcmapimcgppmaaGreatDoor
end
section
namespace Go.Proofs.YtkcmapimcgppmaaGreatDoor
open Go.RowKit
def tb : TB
  | 2 => some ⟨.int .i64, 1, 8, .int .i64 0, .lit (.int .i64 0) .nil⟩
  | 3 => some ⟨.int .i64, 1, 8, .int .i64 0, .lit (.int .i64 0) .nil⟩
  | 4 => some ⟨.bo, 1, 1, .bool false, .lit (.bool false) .nil⟩
  | 5 => some ⟨.int .u8, 1, 1, .int .u8 0, .lit (.int .u8 0) .nil⟩
  | 9 => some ⟨.str, 1, 16, .string ⟨#[]⟩, .lit (.string ⟨#[]⟩) .nil⟩
  | 22 => some ⟨.sl 26, 1, 24, .slice none 0 0, .nilr 5 26 .nil⟩
  | 23 => some ⟨.int .i64, 1, 8, .int .i64 0, .lit (.int .i64 0) .nil⟩
  | 24 => some ⟨.sl 43, 1, 24, .slice none 0 0, .nilr 1 43 .nil⟩
  | 26 => some ⟨.st [(0, 23), (1, 3), (2, 3), (3, 24), (4, 22)], 5, 72, .agg #[.int .i64 0, .int .i64 0, .int .i64 0, .slice none 0 0, .slice none 0 0], .lit (.int .i64 0) (.lit (.int .i64 0) (.lit (.int .i64 0) (.nilr 1 43 (.nilr 5 26 .nil))))⟩
  | 32 => some ⟨.oth, 1, 8, .nilFunc, .lit (.nilFunc) .nil⟩
  | 38 => some ⟨.sl 22, 1, 24, .slice none 0 0, .nilr 1 22 .nil⟩
  | 40 => some ⟨.int .i64, 1, 8, .int .i64 0, .lit (.int .i64 0) .nil⟩
  | 41 => some ⟨.sl 77, 1, 24, .slice none 0 0, .nilr 2 77 .nil⟩
  | 43 => some ⟨.st [(0, 41)], 1, 24, .agg #[.slice none 0 0], .nilr 2 77 .nil⟩
  | 44 => some ⟨.sl 80, 1, 24, .slice none 0 0, .nilr 1 80 .nil⟩
  | 45 => some ⟨.sl 85, 1, 24, .slice none 0 0, .nilr 6 85 .nil⟩
  | 47 => some ⟨.st [(0, 40), (1, 3), (2, 26), (7, 26), (12, 22), (13, 43), (14, 44), (15, 45)], 16, 256, .agg #[.int .i64 0, .int .i64 0, .int .i64 0, .int .i64 0, .int .i64 0, .slice none 0 0, .slice none 0 0, .int .i64 0, .int .i64 0, .int .i64 0, .slice none 0 0, .slice none 0 0, .slice none 0 0, .slice none 0 0, .slice none 0 0, .slice none 0 0], .lit (.int .i64 0) (.lit (.int .i64 0) (.lit (.int .i64 0) (.lit (.int .i64 0) (.lit (.int .i64 0) (.nilr 1 43 (.nilr 5 26 (.lit (.int .i64 0) (.lit (.int .i64 0) (.lit (.int .i64 0) (.nilr 1 43 (.nilr 5 26 (.nilr 5 26 (.nilr 2 77 (.nilr 1 80 (.nilr 6 85 .nil)))))))))))))))⟩
  | 48 => some ⟨.sl 65, 1, 24, .slice none 0 0, .nilr 3 65 .nil⟩
  | 56 => some ⟨.sl 89, 1, 24, .slice none 0 0, .nilr 12 89 .nil⟩
  | 62 => some ⟨.sl 56, 1, 24, .slice none 0 0, .nilr 1 56 .nil⟩
  | 63 => some ⟨.sl 82, 1, 24, .slice none 0 0, .nilr 9 82 .nil⟩
  | 65 => some ⟨.st [(0, 3), (1, 63), (2, 22)], 3, 56, .agg #[.int .i64 0, .slice none 0 0, .slice none 0 0], .lit (.int .i64 0) (.nilr 9 82 (.nilr 5 26 .nil))⟩
  | 72 => some ⟨.sl 3, 1, 24, .slice none 0 0, .nilr 1 3 .nil⟩
  | 77 => some ⟨.st [(0, 3), (1, 3)], 2, 16, .agg #[.int .i64 0, .int .i64 0], .lit (.int .i64 0) (.lit (.int .i64 0) .nil)⟩
  | 80 => some ⟨.st [(0, 22)], 1, 24, .agg #[.slice none 0 0], .nilr 5 26 .nil⟩
  | 82 => some ⟨.st [(0, 4), (1, 26), (6, 22), (7, 3), (8, 22)], 9, 136, .agg #[.bool false, .int .i64 0, .int .i64 0, .int .i64 0, .slice none 0 0, .slice none 0 0, .slice none 0 0, .int .i64 0, .slice none 0 0], .lit (.bool false) (.lit (.int .i64 0) (.lit (.int .i64 0) (.lit (.int .i64 0) (.nilr 1 43 (.nilr 5 26 (.nilr 5 26 (.lit (.int .i64 0) (.nilr 5 26 .nil))))))))⟩
  | 85 => some ⟨.st [(0, 3), (1, 26)], 6, 80, .agg #[.int .i64 0, .int .i64 0, .int .i64 0, .int .i64 0, .slice none 0 0, .slice none 0 0], .lit (.int .i64 0) (.lit (.int .i64 0) (.lit (.int .i64 0) (.lit (.int .i64 0) (.nilr 1 43 (.nilr 5 26 .nil)))))⟩
  | 89 => some ⟨.st [(0, 3), (1, 26), (6, 4), (7, 26)], 12, 160, .agg #[.int .i64 0, .int .i64 0, .int .i64 0, .int .i64 0, .slice none 0 0, .slice none 0 0, .bool false, .int .i64 0, .int .i64 0, .int .i64 0, .slice none 0 0, .slice none 0 0], .lit (.int .i64 0) (.lit (.int .i64 0) (.lit (.int .i64 0) (.lit (.int .i64 0) (.nilr 1 43 (.nilr 5 26 (.lit (.bool false) (.lit (.int .i64 0) (.lit (.int .i64 0) (.lit (.int .i64 0) (.nilr 1 43 (.nilr 5 26 .nil)))))))))))⟩
  | 98 => some ⟨.sl 228, 1, 24, .slice none 0 0, .nilr 1 228 .nil⟩
  | 99 => some ⟨.sl 230, 1, 24, .slice none 0 0, .nilr 1 230 .nil⟩
  | 100 => some ⟨.sl 72, 1, 24, .slice none 0 0, .nilr 1 72 .nil⟩
  | 101 => some ⟨.sl 232, 1, 24, .slice none 0 0, .nilr 1 232 .nil⟩
  | 102 => some ⟨.sl 233, 1, 24, .slice none 0 0, .nilr 1 233 .nil⟩
  | 103 => some ⟨.sl 235, 1, 24, .slice none 0 0, .nilr 1 235 .nil⟩
  | 104 => some ⟨.sl 237, 1, 24, .slice none 0 0, .nilr 1 237 .nil⟩
  | 105 => some ⟨.sl 41, 1, 24, .slice none 0 0, .nilr 1 41 .nil⟩
  | 106 => some ⟨.sl 24, 1, 24, .slice none 0 0, .nilr 1 24 .nil⟩
  | 107 => some ⟨.sl 44, 1, 24, .slice none 0 0, .nilr 1 44 .nil⟩
  | 108 => some ⟨.sl 45, 1, 24, .slice none 0 0, .nilr 1 45 .nil⟩
  | 109 => some ⟨.sl 239, 1, 24, .slice none 0 0, .nilr 1 239 .nil⟩
  | 110 => some ⟨.sl 63, 1, 24, .slice none 0 0, .nilr 1 63 .nil⟩
  | 111 => some ⟨.sl 48, 1, 24, .slice none 0 0, .nilr 1 48 .nil⟩
  | 112 => some ⟨.sl 242, 1, 24, .slice none 0 0, .nilr 1 242 .nil⟩
  | 114 => some ⟨.st [(0, 98), (1, 99), (2, 100), (3, 101), (4, 102), (5, 103), (6, 104), (7, 105), (8, 106), (9, 38), (10, 107), (11, 108), (12, 109), (13, 110), (14, 111), (15, 62), (16, 112)], 17, 408, .agg #[.slice none 0 0, .slice none 0 0, .slice none 0 0, .slice none 0 0, .slice none 0 0, .slice none 0 0, .slice none 0 0, .slice none 0 0, .slice none 0 0, .slice none 0 0, .slice none 0 0, .slice none 0 0, .slice none 0 0, .slice none 0 0, .slice none 0 0, .slice none 0 0, .slice none 0 0], .nilr 1 228 (.nilr 1 230 (.nilr 1 72 (.nilr 1 232 (.nilr 1 233 (.nilr 1 235 (.nilr 1 237 (.nilr 1 41 (.nilr 1 24 (.nilr 1 22 (.nilr 1 44 (.nilr 1 45 (.nilr 1 239 (.nilr 1 63 (.nilr 1 48 (.nilr 1 56 (.nilr 1 242 .nil))))))))))))))))⟩
  | 128 => some ⟨.st [], 0, 0, .agg #[], .nil⟩
  | 130 => some ⟨.st [(0, 47), (16, 48), (17, 3)], 18, 288, .agg #[.int .i64 0, .int .i64 0, .int .i64 0, .int .i64 0, .int .i64 0, .slice none 0 0, .slice none 0 0, .int .i64 0, .int .i64 0, .int .i64 0, .slice none 0 0, .slice none 0 0, .slice none 0 0, .slice none 0 0, .slice none 0 0, .slice none 0 0, .slice none 0 0, .int .i64 0], .lit (.int .i64 0) (.lit (.int .i64 0) (.lit (.int .i64 0) (.lit (.int .i64 0) (.lit (.int .i64 0) (.nilr 1 43 (.nilr 5 26 (.lit (.int .i64 0) (.lit (.int .i64 0) (.lit (.int .i64 0) (.nilr 1 43 (.nilr 5 26 (.nilr 5 26 (.nilr 2 77 (.nilr 1 80 (.nilr 6 85 (.nilr 3 65 (.lit (.int .i64 0) .nil)))))))))))))))))⟩
  | 150 => some ⟨.st [(0, 65), (3, 22), (4, 3)], 5, 88, .agg #[.int .i64 0, .slice none 0 0, .slice none 0 0, .slice none 0 0, .int .i64 0], .lit (.int .i64 0) (.nilr 9 82 (.nilr 5 26 (.nilr 5 26 (.lit (.int .i64 0) .nil))))⟩
  | 163 => some ⟨.st [(0, 3)], 1, 8, .agg #[.int .i64 0], .lit (.int .i64 0) .nil⟩
  | 164 => some ⟨.oth, 1, 8, .nilFunc, .lit (.nilFunc) .nil⟩
  | 166 => some ⟨.st [(0, 163), (1, 164)], 2, 16, .agg #[.int .i64 0, .nilFunc], .lit (.int .i64 0) (.lit (.nilFunc) .nil)⟩
  | 228 => some ⟨.sl 229, 1, 24, .slice none 0 0, .nilr 1 229 .nil⟩
  | 229 => some ⟨.int .u32, 1, 4, .int .u32 0, .lit (.int .u32 0) .nil⟩
  | 230 => some ⟨.sl 231, 1, 24, .slice none 0 0, .nilr 1 231 .nil⟩
  | 231 => some ⟨.int .u64, 1, 8, .int .u64 0, .lit (.int .u64 0) .nil⟩
  | 232 => some ⟨.sl 2, 1, 24, .slice none 0 0, .nilr 1 2 .nil⟩
  | 233 => some ⟨.sl 9, 1, 24, .slice none 0 0, .nilr 1 9 .nil⟩
  | 235 => some ⟨.sl 5, 1, 24, .slice none 0 0, .nilr 1 5 .nil⟩
  | 237 => some ⟨.sl 4, 1, 24, .slice none 0 0, .nilr 1 4 .nil⟩
  | 239 => some ⟨.sl 47, 1, 24, .slice none 0 0, .nilr 16 47 .nil⟩
  | 242 => some ⟨.sl 244, 1, 24, .slice none 0 0, .nilr 3 244 .nil⟩
  | 244 => some ⟨.st [(0, 239), (1, 56), (2, 72)], 3, 72, .agg #[.slice none 0 0, .slice none 0 0, .slice none 0 0], .nilr 16 47 (.nilr 12 89 (.nilr 1 3 .nil))⟩
  | 250 => some ⟨.st [(0, 22)], 1, 24, .agg #[.slice none 0 0], .nilr 5 26 .nil⟩
  | 252 => some ⟨.st [(0, 250)], 1, 24, .agg #[.slice none 0 0], .nilr 5 26 .nil⟩
  | 265 => some ⟨.st [(0, 4), (1, 4), (2, 3), (3, 3), (4, 3)], 5, 32, .agg #[.bool false, .bool false, .int .i64 0, .int .i64 0, .int .i64 0], .lit (.bool false) (.lit (.bool false) (.lit (.int .i64 0) (.lit (.int .i64 0) (.lit (.int .i64 0) .nil))))⟩
  | _ => none
theorem tyOk2 : ∀ y, tb 2 = some y → TyOk Tryz.prog 2 y := fun y h => by cases h; exact ⟨by kernel_rfl, by kernel_rfl, by kernel_rfl, by kernel_rfl, by decide⟩
theorem tyOk3 : ∀ y, tb 3 = some y → TyOk Tryz.prog 3 y := fun y h => by cases h; exact ⟨by kernel_rfl, by kernel_rfl, by kernel_rfl, by kernel_rfl, by decide⟩
theorem tyOk4 : ∀ y, tb 4 = some y → TyOk Tryz.prog 4 y := fun y h => by cases h; exact ⟨by kernel_rfl, by kernel_rfl, by kernel_rfl, by kernel_rfl, by decide⟩
theorem tyOk5 : ∀ y, tb 5 = some y → TyOk Tryz.prog 5 y := fun y h => by cases h; exact ⟨by kernel_rfl, by kernel_rfl, by kernel_rfl, by kernel_rfl, by decide⟩
theorem tyOk9 : ∀ y, tb 9 = some y → TyOk Tryz.prog 9 y := fun y h => by cases h; exact ⟨by kernel_rfl, by kernel_rfl, by kernel_rfl, by kernel_rfl, by decide⟩
theorem tyOk22 : ∀ y, tb 22 = some y → TyOk Tryz.prog 22 y := fun y h => by cases h; exact ⟨by kernel_rfl, by kernel_rfl, by kernel_rfl, by kernel_rfl, by decide⟩
theorem tyOk23 : ∀ y, tb 23 = some y → TyOk Tryz.prog 23 y := fun y h => by cases h; exact ⟨by kernel_rfl, by kernel_rfl, by kernel_rfl, by kernel_rfl, by decide⟩
theorem tyOk24 : ∀ y, tb 24 = some y → TyOk Tryz.prog 24 y := fun y h => by cases h; exact ⟨by kernel_rfl, by kernel_rfl, by kernel_rfl, by kernel_rfl, by decide⟩
theorem tyOk26 : ∀ y, tb 26 = some y → TyOk Tryz.prog 26 y := fun y h => by cases h; exact ⟨by kernel_rfl, by kernel_rfl, by kernel_rfl, by kernel_rfl, by decide⟩
theorem tyOk32 : ∀ y, tb 32 = some y → TyOk Tryz.prog 32 y := fun y h => by cases h; exact ⟨by kernel_rfl, by kernel_rfl, by kernel_rfl, by kernel_rfl, by decide⟩
theorem tyOk38 : ∀ y, tb 38 = some y → TyOk Tryz.prog 38 y := fun y h => by cases h; exact ⟨by kernel_rfl, by kernel_rfl, by kernel_rfl, by kernel_rfl, by decide⟩
theorem tyOk40 : ∀ y, tb 40 = some y → TyOk Tryz.prog 40 y := fun y h => by cases h; exact ⟨by kernel_rfl, by kernel_rfl, by kernel_rfl, by kernel_rfl, by decide⟩
theorem tyOk41 : ∀ y, tb 41 = some y → TyOk Tryz.prog 41 y := fun y h => by cases h; exact ⟨by kernel_rfl, by kernel_rfl, by kernel_rfl, by kernel_rfl, by decide⟩
theorem tyOk43 : ∀ y, tb 43 = some y → TyOk Tryz.prog 43 y := fun y h => by cases h; exact ⟨by kernel_rfl, by kernel_rfl, by kernel_rfl, by kernel_rfl, by decide⟩
theorem tyOk44 : ∀ y, tb 44 = some y → TyOk Tryz.prog 44 y := fun y h => by cases h; exact ⟨by kernel_rfl, by kernel_rfl, by kernel_rfl, by kernel_rfl, by decide⟩
theorem tyOk45 : ∀ y, tb 45 = some y → TyOk Tryz.prog 45 y := fun y h => by cases h; exact ⟨by kernel_rfl, by kernel_rfl, by kernel_rfl, by kernel_rfl, by decide⟩
theorem tyOk47 : ∀ y, tb 47 = some y → TyOk Tryz.prog 47 y := fun y h => by cases h; exact ⟨by kernel_rfl, by kernel_rfl, by kernel_rfl, by kernel_rfl, by decide⟩
theorem tyOk48 : ∀ y, tb 48 = some y → TyOk Tryz.prog 48 y := fun y h => by cases h; exact ⟨by kernel_rfl, by kernel_rfl, by kernel_rfl, by kernel_rfl, by decide⟩
theorem tyOk56 : ∀ y, tb 56 = some y → TyOk Tryz.prog 56 y := fun y h => by cases h; exact ⟨by kernel_rfl, by kernel_rfl, by kernel_rfl, by kernel_rfl, by decide⟩
theorem tyOk62 : ∀ y, tb 62 = some y → TyOk Tryz.prog 62 y := fun y h => by cases h; exact ⟨by kernel_rfl, by kernel_rfl, by kernel_rfl, by kernel_rfl, by decide⟩
theorem tyOk63 : ∀ y, tb 63 = some y → TyOk Tryz.prog 63 y := fun y h => by cases h; exact ⟨by kernel_rfl, by kernel_rfl, by kernel_rfl, by kernel_rfl, by decide⟩
theorem tyOk65 : ∀ y, tb 65 = some y → TyOk Tryz.prog 65 y := fun y h => by cases h; exact ⟨by kernel_rfl, by kernel_rfl, by kernel_rfl, by kernel_rfl, by decide⟩
theorem tyOk72 : ∀ y, tb 72 = some y → TyOk Tryz.prog 72 y := fun y h => by cases h; exact ⟨by kernel_rfl, by kernel_rfl, by kernel_rfl, by kernel_rfl, by decide⟩
theorem tyOk77 : ∀ y, tb 77 = some y → TyOk Tryz.prog 77 y := fun y h => by cases h; exact ⟨by kernel_rfl, by kernel_rfl, by kernel_rfl, by kernel_rfl, by decide⟩
theorem tyOk80 : ∀ y, tb 80 = some y → TyOk Tryz.prog 80 y := fun y h => by cases h; exact ⟨by kernel_rfl, by kernel_rfl, by kernel_rfl, by kernel_rfl, by decide⟩
theorem tyOk82 : ∀ y, tb 82 = some y → TyOk Tryz.prog 82 y := fun y h => by cases h; exact ⟨by kernel_rfl, by kernel_rfl, by kernel_rfl, by kernel_rfl, by decide⟩
theorem tyOk85 : ∀ y, tb 85 = some y → TyOk Tryz.prog 85 y := fun y h => by cases h; exact ⟨by kernel_rfl, by kernel_rfl, by kernel_rfl, by kernel_rfl, by decide⟩
theorem tyOk89 : ∀ y, tb 89 = some y → TyOk Tryz.prog 89 y := fun y h => by cases h; exact ⟨by kernel_rfl, by kernel_rfl, by kernel_rfl, by kernel_rfl, by decide⟩
theorem tyOk98 : ∀ y, tb 98 = some y → TyOk Tryz.prog 98 y := fun y h => by cases h; exact ⟨by kernel_rfl, by kernel_rfl, by kernel_rfl, by kernel_rfl, by decide⟩
theorem tyOk99 : ∀ y, tb 99 = some y → TyOk Tryz.prog 99 y := fun y h => by cases h; exact ⟨by kernel_rfl, by kernel_rfl, by kernel_rfl, by kernel_rfl, by decide⟩
theorem tyOk100 : ∀ y, tb 100 = some y → TyOk Tryz.prog 100 y := fun y h => by cases h; exact ⟨by kernel_rfl, by kernel_rfl, by kernel_rfl, by kernel_rfl, by decide⟩
theorem tyOk101 : ∀ y, tb 101 = some y → TyOk Tryz.prog 101 y := fun y h => by cases h; exact ⟨by kernel_rfl, by kernel_rfl, by kernel_rfl, by kernel_rfl, by decide⟩
theorem tyOk102 : ∀ y, tb 102 = some y → TyOk Tryz.prog 102 y := fun y h => by cases h; exact ⟨by kernel_rfl, by kernel_rfl, by kernel_rfl, by kernel_rfl, by decide⟩
theorem tyOk103 : ∀ y, tb 103 = some y → TyOk Tryz.prog 103 y := fun y h => by cases h; exact ⟨by kernel_rfl, by kernel_rfl, by kernel_rfl, by kernel_rfl, by decide⟩
theorem tyOk104 : ∀ y, tb 104 = some y → TyOk Tryz.prog 104 y := fun y h => by cases h; exact ⟨by kernel_rfl, by kernel_rfl, by kernel_rfl, by kernel_rfl, by decide⟩
theorem tyOk105 : ∀ y, tb 105 = some y → TyOk Tryz.prog 105 y := fun y h => by cases h; exact ⟨by kernel_rfl, by kernel_rfl, by kernel_rfl, by kernel_rfl, by decide⟩
theorem tyOk106 : ∀ y, tb 106 = some y → TyOk Tryz.prog 106 y := fun y h => by cases h; exact ⟨by kernel_rfl, by kernel_rfl, by kernel_rfl, by kernel_rfl, by decide⟩
theorem tyOk107 : ∀ y, tb 107 = some y → TyOk Tryz.prog 107 y := fun y h => by cases h; exact ⟨by kernel_rfl, by kernel_rfl, by kernel_rfl, by kernel_rfl, by decide⟩
theorem tyOk108 : ∀ y, tb 108 = some y → TyOk Tryz.prog 108 y := fun y h => by cases h; exact ⟨by kernel_rfl, by kernel_rfl, by kernel_rfl, by kernel_rfl, by decide⟩
theorem tyOk109 : ∀ y, tb 109 = some y → TyOk Tryz.prog 109 y := fun y h => by cases h; exact ⟨by kernel_rfl, by kernel_rfl, by kernel_rfl, by kernel_rfl, by decide⟩
theorem tyOk110 : ∀ y, tb 110 = some y → TyOk Tryz.prog 110 y := fun y h => by cases h; exact ⟨by kernel_rfl, by kernel_rfl, by kernel_rfl, by kernel_rfl, by decide⟩
theorem tyOk111 : ∀ y, tb 111 = some y → TyOk Tryz.prog 111 y := fun y h => by cases h; exact ⟨by kernel_rfl, by kernel_rfl, by kernel_rfl, by kernel_rfl, by decide⟩
theorem tyOk112 : ∀ y, tb 112 = some y → TyOk Tryz.prog 112 y := fun y h => by cases h; exact ⟨by kernel_rfl, by kernel_rfl, by kernel_rfl, by kernel_rfl, by decide⟩
theorem tyOk114 : ∀ y, tb 114 = some y → TyOk Tryz.prog 114 y := fun y h => by cases h; exact ⟨by kernel_rfl, by kernel_rfl, by kernel_rfl, by kernel_rfl, by decide⟩
theorem tyOk128 : ∀ y, tb 128 = some y → TyOk Tryz.prog 128 y := fun y h => by cases h; exact ⟨by kernel_rfl, by kernel_rfl, by kernel_rfl, by kernel_rfl, by decide⟩
theorem tyOk130 : ∀ y, tb 130 = some y → TyOk Tryz.prog 130 y := fun y h => by cases h; exact ⟨by kernel_rfl, by kernel_rfl, by kernel_rfl, by kernel_rfl, by decide⟩
theorem tyOk150 : ∀ y, tb 150 = some y → TyOk Tryz.prog 150 y := fun y h => by cases h; exact ⟨by kernel_rfl, by kernel_rfl, by kernel_rfl, by kernel_rfl, by decide⟩
theorem tyOk163 : ∀ y, tb 163 = some y → TyOk Tryz.prog 163 y := fun y h => by cases h; exact ⟨by kernel_rfl, by kernel_rfl, by kernel_rfl, by kernel_rfl, by decide⟩
theorem tyOk164 : ∀ y, tb 164 = some y → TyOk Tryz.prog 164 y := fun y h => by cases h; exact ⟨by kernel_rfl, by kernel_rfl, by kernel_rfl, by kernel_rfl, by decide⟩
theorem tyOk166 : ∀ y, tb 166 = some y → TyOk Tryz.prog 166 y := fun y h => by cases h; exact ⟨by kernel_rfl, by kernel_rfl, by kernel_rfl, by kernel_rfl, by decide⟩
theorem tyOk228 : ∀ y, tb 228 = some y → TyOk Tryz.prog 228 y := fun y h => by cases h; exact ⟨by kernel_rfl, by kernel_rfl, by kernel_rfl, by kernel_rfl, by decide⟩
theorem tyOk229 : ∀ y, tb 229 = some y → TyOk Tryz.prog 229 y := fun y h => by cases h; exact ⟨by kernel_rfl, by kernel_rfl, by kernel_rfl, by kernel_rfl, by decide⟩
theorem tyOk230 : ∀ y, tb 230 = some y → TyOk Tryz.prog 230 y := fun y h => by cases h; exact ⟨by kernel_rfl, by kernel_rfl, by kernel_rfl, by kernel_rfl, by decide⟩
theorem tyOk231 : ∀ y, tb 231 = some y → TyOk Tryz.prog 231 y := fun y h => by cases h; exact ⟨by kernel_rfl, by kernel_rfl, by kernel_rfl, by kernel_rfl, by decide⟩
theorem tyOk232 : ∀ y, tb 232 = some y → TyOk Tryz.prog 232 y := fun y h => by cases h; exact ⟨by kernel_rfl, by kernel_rfl, by kernel_rfl, by kernel_rfl, by decide⟩
theorem tyOk233 : ∀ y, tb 233 = some y → TyOk Tryz.prog 233 y := fun y h => by cases h; exact ⟨by kernel_rfl, by kernel_rfl, by kernel_rfl, by kernel_rfl, by decide⟩
theorem tyOk235 : ∀ y, tb 235 = some y → TyOk Tryz.prog 235 y := fun y h => by cases h; exact ⟨by kernel_rfl, by kernel_rfl, by kernel_rfl, by kernel_rfl, by decide⟩
theorem tyOk237 : ∀ y, tb 237 = some y → TyOk Tryz.prog 237 y := fun y h => by cases h; exact ⟨by kernel_rfl, by kernel_rfl, by kernel_rfl, by kernel_rfl, by decide⟩
theorem tyOk239 : ∀ y, tb 239 = some y → TyOk Tryz.prog 239 y := fun y h => by cases h; exact ⟨by kernel_rfl, by kernel_rfl, by kernel_rfl, by kernel_rfl, by decide⟩
theorem tyOk242 : ∀ y, tb 242 = some y → TyOk Tryz.prog 242 y := fun y h => by cases h; exact ⟨by kernel_rfl, by kernel_rfl, by kernel_rfl, by kernel_rfl, by decide⟩
theorem tyOk244 : ∀ y, tb 244 = some y → TyOk Tryz.prog 244 y := fun y h => by cases h; exact ⟨by kernel_rfl, by kernel_rfl, by kernel_rfl, by kernel_rfl, by decide⟩
theorem tyOk250 : ∀ y, tb 250 = some y → TyOk Tryz.prog 250 y := fun y h => by cases h; exact ⟨by kernel_rfl, by kernel_rfl, by kernel_rfl, by kernel_rfl, by decide⟩
theorem tyOk252 : ∀ y, tb 252 = some y → TyOk Tryz.prog 252 y := fun y h => by cases h; exact ⟨by kernel_rfl, by kernel_rfl, by kernel_rfl, by kernel_rfl, by decide⟩
theorem tyOk265 : ∀ y, tb 265 = some y → TyOk Tryz.prog 265 y := fun y h => by cases h; exact ⟨by kernel_rfl, by kernel_rfl, by kernel_rfl, by kernel_rfl, by decide⟩
theorem tbOk : TbOk Tryz.prog tb := by
  intro T y h
  unfold tb at h
  split at h
  · exact tyOk2 y h
  · exact tyOk3 y h
  · exact tyOk4 y h
  · exact tyOk5 y h
  · exact tyOk9 y h
  · exact tyOk22 y h
  · exact tyOk23 y h
  · exact tyOk24 y h
  · exact tyOk26 y h
  · exact tyOk32 y h
  · exact tyOk38 y h
  · exact tyOk40 y h
  · exact tyOk41 y h
  · exact tyOk43 y h
  · exact tyOk44 y h
  · exact tyOk45 y h
  · exact tyOk47 y h
  · exact tyOk48 y h
  · exact tyOk56 y h
  · exact tyOk62 y h
  · exact tyOk63 y h
  · exact tyOk65 y h
  · exact tyOk72 y h
  · exact tyOk77 y h
  · exact tyOk80 y h
  · exact tyOk82 y h
  · exact tyOk85 y h
  · exact tyOk89 y h
  · exact tyOk98 y h
  · exact tyOk99 y h
  · exact tyOk100 y h
  · exact tyOk101 y h
  · exact tyOk102 y h
  · exact tyOk103 y h
  · exact tyOk104 y h
  · exact tyOk105 y h
  · exact tyOk106 y h
  · exact tyOk107 y h
  · exact tyOk108 y h
  · exact tyOk109 y h
  · exact tyOk110 y h
  · exact tyOk111 y h
  · exact tyOk112 y h
  · exact tyOk114 y h
  · exact tyOk128 y h
  · exact tyOk130 y h
  · exact tyOk150 y h
  · exact tyOk163 y h
  · exact tyOk164 y h
  · exact tyOk166 y h
  · exact tyOk228 y h
  · exact tyOk229 y h
  · exact tyOk230 y h
  · exact tyOk231 y h
  · exact tyOk232 y h
  · exact tyOk233 y h
  · exact tyOk235 y h
  · exact tyOk237 y h
  · exact tyOk239 y h
  · exact tyOk242 y h
  · exact tyOk244 y h
  · exact tyOk250 y h
  · exact tyOk252 y h
  · exact tyOk265 y h
  · cases h
theorem mixed : Tryz.prog.follows .mixedOrders = true := by kernel_rfl
end Go.Proofs.YtkcmapimcgppmaaGreatDoor
end
section
namespace Go.Proofs.YtkcmapimcgppmaaGreatDoor
open Go.RowKit

theorem ownsRow_set {w : World} {base e n g cap k : Nat} {xs : List Value} (h : w.ownsRow base e 1 (.slice (some ⟨g, 0, none⟩) n cap) n xs) (u : Value) : (w.setCell ⟨g, k, none⟩ u).ownsRow base e 1 (.slice (some ⟨g, 0, none⟩) n cap) n (xs.set k u) := by
  refine ⟨by rw [List.length_set]; exact h.1, ?_⟩
  rcases h.2 with ⟨h1, -⟩ | ⟨g', cap', cur, h1, h2, h3, h4, h5, h6, h7⟩
  · cases h1
  · cases h1
    refine .inr ⟨g, cap, cur.setIfInBounds k u, rfl, h2, Go.heap_setCell_same w g k cur e u h3, h4, h5, by rw [Array.size_setIfInBounds]; exact h6, ?_⟩
    rw [Array.toList_setIfInBounds, List.take_set, h7]

set_option maxRecDepth 100000 in
set_option maxHeartbeats 1000000 in
theorem cloneParts_any (p : Lv) (va : Value) (w : World) (ha : RP w va p) (hn : p.length ≤ 2000000) : Calls Tryz.prog 202 #[va] w (MakesV (.row 2 77 (ptDs p) .nil .nil) w) := by
  obtain ⟨q, c, rfl, hc1, hc2, hc3⟩ := ha.slice
  unfold maxLen at hc2
  cases q with
  | none =>
    obtain rfl : c = 0 := hc3 rfl
    have hp : p = [] := List.length_eq_zero_iff.1 (by omega)
    subst hp
    clear ha
    have he : ∀ W : World, (binOp .eql 41 (.slice none 0 0) (.slice none 0 0)).run Tryz.prog W = .ok (.bool true) W := fun _ => rfl
    go_enter Tryz.func202, Tryz.ntmps202
    go_wp2_with fail
    go_ret
    exact ⟨_, [], rfl, Below.refl _ _, (RowG.nil w w.heap.size 2 77).own, by simp⟩
  | some ad =>
    obtain ⟨v1, w2, hrun1, hR2, hB2⟩ := lent_copy (w := w) (RowG.empty w 2 77) (ha.on (below_alloc _ _)) hn (by simp) (below_alloc _ _)
    obtain ⟨n, hpn⟩ : ∃ n, p.length = n := ⟨_, rfl⟩
    have HR := Lib.hid hR2
    have HB := Lib.hid hB2
    rw [hpn] at hrun1 hc1 ⊢
    clear ha hR2 hB2 hpn hn hc3
    have he : ∀ W : World, (binOp .eql 41 (.slice (some ad) n c) (.slice none 0 0)).run Tryz.prog W = .ok (.bool false) W := fun _ => rfl
    go_enter Tryz.func202, Tryz.ntmps202
    go_wp2_with (at_builtin; refine wpList_append_run rfl _ _ 41 rfl _ _ _ rfl rfl hrun1 ?_)
    go_ret
    exact ⟨_, _, rfl, HB.out, HR.out.own, HR.out.nodup⟩

/-- A row of levels of its own; each level's parts still where they lay. -/
def RawL (l : List Lv) (w0 w : World) (e : Ending) (w' : World) : Prop :=
  ∃ v xs, e = .returned v ∧ Below w.heap.size w w' ∧ w'.ownsRow w.heap.size 43 1 v l.length xs ∧ Vs (U w0) w0.heap.size (lvDs ty l) xs
theorem At.vs {F : Nat → Nat → Option Value} {hi : Nat} {x : Ds} : ∀ {b o : Nat}, At F hi x b o → ∃ xs, Vs F hi x xs ∧ ∀ j u, xs[j]? = some u → F b (o + j) = some u := by
  induction x with
  | nil => intro b o _; exact ⟨[], rfl, fun j u hu => by simp at hu⟩
  | lit v r ih =>
    rintro b o ⟨h1, h2⟩
    obtain ⟨xs, h3, h4⟩ := ih h2
    refine ⟨v :: xs, ⟨xs, rfl, h3⟩, fun j u hu => ?_⟩
    cases j with
    | zero => simp at hu; subst hu; exact h1
    | succ j =>
      have := h4 j u (by simpa using hu)
      rw [show o + (j + 1) = o + 1 + j by omega]; exact this
  | row sz e x s r _ _ ih =>
    intro b o h
    obtain ⟨⟨v, h1, h2⟩, h3⟩ := At_row.1 h
    obtain ⟨xs, h4, h5⟩ := ih h3
    refine ⟨v :: xs, ⟨v, xs, rfl, h2, h4⟩, fun j u hu => ?_⟩
    cases j with
    | zero => simp at hu; subst hu; exact h1
    | succ j =>
      have := h5 j u (by simpa using hu)
      rw [show o + (j + 1) = o + 1 + j by omega]; exact this
theorem Vs.one {F : Nat → Nat → Option Value} {hi : Nat} {x : Ds} : ∀ {xs : List Value}, x.ones → Vs F hi x xs → ∀ u ∈ xs, u.oneCell' = true := by
  induction x with
  | nil => intro xs _ h u hu; simp [Vs] at h; subst h; cases hu
  | lit v r ih =>
    rintro xs ⟨h1, h2⟩ ⟨ys, rfl, h⟩ u hu
    rcases List.mem_cons.1 hu with rfl | hu
    · exact h1
    · exact ih h2 h u hu
  | row sz e x s r _ _ ih =>
    rintro xs h1 ⟨v, ys, rfl, h2, h3⟩ u hu
    rcases List.mem_cons.1 hu with rfl | hu
    · obtain ⟨p, n, c, rfl, -⟩ := h2; rfl
    · exact ih h1 h3 u hu

set_option maxRecDepth 100000 in
set_option maxHeartbeats 1000000 in
theorem cloneLevels_any (l : List Lv) (va : Value) (w0 w : World) (ha : RL ty w0 va l) (hb0 : Below w0.heap.size w0 w) (hn : l.length ≤ 2000000) : Calls Tryz.prog 201 #[va] w (RawL l w0 w) := by
  obtain ⟨q, c, rfl, hc1, hc2, hc3⟩ := ha.slice
  unfold maxLen at hc2
  cases q with
  | none =>
    obtain rfl : c = 0 := hc3 rfl
    have hp : l = [] := List.length_eq_zero_iff.1 (by omega)
    subst hp
    clear ha hb0
    have he : ∀ W : World, (binOp .eql 24 (.slice none 0 0) (.slice none 0 0)).run Tryz.prog W = .ok (.bool true) W := fun _ => rfl
    go_enter Tryz.func201, Tryz.ntmps201
    go_wp2_with fail
    go_ret
    exact ⟨_, [], rfl, Below.refl _ _, World.ownsRow_nil _ _ _ _, rfl⟩
  | some ad =>
    obtain ⟨i0, hi0, hz0, hz1, hz2⟩ := info_parts info43
    have hown0 : (w.alloc (.cells #[] 43)).ownsRow w.heap.size 43 1 (.slice (some ⟨w.heap.size, 0, none⟩) 0 0) 0 [] := by
      obtain ⟨xs, h1, h2, -⟩ := RowG.empty w 1 43
      obtain ⟨rfl, -⟩ := h2
      exact h1
    have cells : ∃ xs, Vs (U w0) w0.heap.size (lvDs ty l) xs ∧ ∀ j u, xs[j]? = some u → (w.alloc (.cells #[] 43)).cell? (ad.add j) = some u := by
      obtain ⟨q', n', c', e1, h2, h3, h4, h5, h6⟩ := ha
      cases e1
      rcases h6 with ⟨h6, -⟩ | ⟨h6, -, -⟩ | ⟨b', o', e2, hl, hA, -⟩
      · cases h6
      · have hp : l = [] := List.length_eq_zero_iff.1 h6
        subst hp
        exact ⟨[], rfl, fun j u hu => by simp at hu⟩
      · cases e2
        obtain ⟨xs, h8, h9⟩ := hA.vs
        refine ⟨xs, h8, fun j u hu => ?_⟩
        have e1 : ((⟨b', o', none⟩ : Addr).add j) = ⟨b', o' + j, none⟩ := by
          unfold Addr.add; split
          · rename_i hj; subst hj; rfl
          · rfl
        rw [e1]
        exact U_cell (U_below (below_step hb0 (below_alloc w (.cells #[] 43))) _ _ _ hl (h9 j u hu))
    obtain ⟨xs, hvs, hcs⟩ := cells
    obtain ⟨v', w2, hrun, h2, h3, -, h5⟩ := run_append_own_at (P := Tryz.prog) (w.alloc (.cells #[] 43)) w.heap.size 24 24 43 i0 _ 1 24 Tryz.underlying24 hi0 hz0 hz1 hz2 rfl (by decide) _ 0 [] hown0 ad l.length c xs (by rw [hvs.len, lvDs_len, Nat.mul_one]) hcs (hvs.one (lvDs_ones _ _)) (by unfold maxLen; omega) (by omega) (by simp)
    have HB : Hid (Below w.heap.size w w2) := Lib.hid ((below_alloc w (.cells #[] 43)).grown h3 (by simp) (fun g hg => by cases hg; exact Nat.le_refl _))
    have HO : Hid (w2.ownsRow w.heap.size 43 1 v' l.length xs) := Lib.hid (by simpa using h2)
    have HV := Lib.hid hvs
    obtain ⟨n, hpn⟩ : ∃ n, l.length = n := ⟨_, rfl⟩
    have HPN := Lib.hid hpn
    rw [hpn] at hrun hc1 ⊢
    clear ha h2 h3 h5 hvs hcs hown0 hpn hn hc3 hb0
    have he : ∀ W : World, (binOp .eql 24 (.slice (some ad) n c) (.slice none 0 0)).run Tryz.prog W = .ok (.bool false) W := fun _ => rfl
    go_enter Tryz.func201, Tryz.ntmps201
    go_wp2_with (at_builtin; refine wpList_append_run rfl _ _ 24 rfl _ _ _ rfl rfl hrun ?_)
    go_ret
    exact ⟨_, xs, rfl, HB.out, HO.out, HV.out⟩
end Go.Proofs.YtkcmapimcgppmaaGreatDoor
end
