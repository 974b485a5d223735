/-
  Regions, in their order and in any. Conditions: the table of types is the program's. What a state says may be said more weakly: groups joined, slots forgotten. Conditions: as each lemma states them.
-/
import Derived.Test.YtkcmapimcgppmaaGreatDoorN06
set_option linter.all false
set_option linter.unusedVariables false
set_option linter.unusedSimpArgs false
set_option linter.unnecessarySimpa false
section
namespace Go.Proofs.YtkcmapimcgppmaaGreatDoor
open Go.RowKit

variable {P : Program} {G : World → Prop} {tb : TB} {N : Nat} {ops : Array Oper}

/-- What stands behind a state (F0: what the caller says stays; w0: the world in which the call began). -/
structure Sat (G : World → Prop) (F0 : Mem) (w0 : World) (N : Nat) (st : St) (a : Act) (w : World) : Prop where
  ok : st.ok
  gh : ∃ g : Gh, g.w = w ∧ Inv g ∧ g.st.bx = st.bx ∧ g.st.τ = st.τ ∧ g.base = w0.heap.size ∧ (∀ b o, b < g.base → g.F b o = F0 b o) ∧ ∀ t, t < N → RepV g (st.env t) [a.tmps.getD t undef]
  below : Below w0.heap.size w0 w
  G : G w0
  size : a.tmps.size = N
  defers : a.defers = []
  fix : ∀ t x, st.fx t = some x → a.tmps.getD t undef = x
variable {F0 : Mem} {w0 : World}
/-- What stays if what lay stays. -/
def Stays (G : World → Prop) : Prop := ∀ w w', Below w.heap.size w w' → G w → G w'

theorem ev_rep {g : Gh} {st : St} {a : Act} (h : ∀ t, t < N → RepV g (st.env t) [a.tmps.getD t undef]) (x : Operand) : RepV g (ev st N x) [a.eval x] := by
  cases x with
  | tmp t =>
    show RepV g (if t < N then st.env t else .junk) _
    split
    · rename_i ht; exact h t ht
    · trivial
  | const v => rfl
  | global q => rfl
  | func f => rfl
theorem fix_put {a : Act} {fx : Nat → Option Value} {dst : Option Tmp} {v : Value} (h : ∀ t x, fx t = some x → a.tmps.getD t undef = x) : ∀ t x, fxE dst fx t = some x → (a.put dst v).tmps.getD t undef = x := by
  intro t x hx3
  unfold fxE at hx3
  split at hx3
  · cases hx3
  · rename_i hne
    cases dst with
    | none => exact h t x hx3
    | some d =>
      have hd2 : d ≠ t := fun e => hne (by rw [e])
      have : (a.tmps.setIfInBounds d v).getD t undef = a.tmps.getD t undef := by simp [hd2]
      show (a.tmps.setIfInBounds d v).getD t undef = x
      rw [this]
      exact h t x hx3
theorem does_step (hT : TbOk P tb) (hS : Stays G) {st : St} {a : Act} {w : World} (hs : Sat G F0 w0 N st a w) {o : Oper} {r : Out} (h : Does P G tb N o st r) {next : Act → World → Prop} {Q : Exit → Act → World → Prop} (hn : ∀ a' w', Sat G F0 w0 N (st.out o r) a' w' → next a' w') : o.wp P a w next Q := by
  obtain ⟨g, rfl, hI, hbx, hτ, hbase, hF0, hsl⟩ := hs.gh
  have hρ := ev_rep (N := N) hsl
  have hok := does_ok hT hs.ok h
  have fin : StepOk P g a o r → o.wp P a g.w next Q := fun hk => hk next Q fun v g' hx hv => by
    refine hn _ _ ⟨St.ok_out hs.ok hok, ⟨g', rfl, hx.inv, by rw [hx.bx, hbx]; rfl, by rw [hx.τ, hτ]; rfl, by rw [hx.tr.base, hbase], fun b o hb => ?_, fun t ht => ?_⟩, ?_, ?_, ?_, ?_, ?_⟩
    · rw [hx.tr.base] at hb
      rw [hx.tr.Fo b o hb]
      exact hF0 b o hb
    · rw [out_env]
      have hsz := hs.size
      cases hd : o.dst with
      | none =>
        simp only [Act.put, reduceCtorEq, if_false]
        exact (hsl t ht).tr hx.tr
      | some d =>
        simp only [Option.some.injEq, Act.put]
        by_cases e : d = t
        · subst e
          rw [if_pos rfl]
          have : (a.tmps.setIfInBounds d v).getD d undef = v := by simp [hsz, ht]
          rw [this]
          exact hv
        · rw [if_neg e]
          have : (a.tmps.setIfInBounds d v).getD t undef = a.tmps.getD t undef := by simp [e]
          rw [this]
          exact (hsl t ht).tr hx.tr
    · have hb := hx.below
      rw [hbase] at hb
      exact hs.below.trans hb
    · exact hs.G
    · cases hd : o.dst <;> simp [Act.put, hs.size]
    · cases hd : o.dst <;> simp [Act.put, hs.defers]
    · exact fix_put hs.fix
  have hGw : G g.w := hS w0 g.w hs.below hs.G
  have hcont : ∀ T ad k off, o.op = .load T ad → ev st N ad = .bx k off → contOf st N o.op = g.st.bx k := fun T ad k off e1 e2 => by
    rw [e1, hbx]
    simp only [contOf, e2]
  have hcont2 : ∀ T ad x k off, o.op = .store T ad x → ev st N ad = .bx k off → contOf st N o.op = g.st.bx k := fun T ad x k off e1 e2 => by
    rw [e1, hbx]
    simp only [contOf, e2]
  have calm : (∃ c, aout tb (ev st N) (contOf st N o.op) (nmOf o) o.op = some (c, r) ∧ c ∧ fresh st r) → o.wp P a g.w next Q := fun ⟨c, h1, h2, h3⟩ =>
    fin (aout_sound hT hI hρ hcont h1 h2 (by rw [hbx]; exact fun k x e => (h3.1 k x e).1) (by rw [hτ]; exact h3.2)).step
  have h' := h
  unfold Does at h
  split at h
  · obtain ⟨c, h1, h2⟩ := h
    exact fin (store_step hT hI hρ hcont2 h1 h2)
  · rename_i cl hop
    split at h
    · rename_i hcl
      obtain ⟨c, h1, h2⟩ := h
      rw [← hτ] at h1
      exact fin (app_step hT hI hρ hop hcl h1 h2)
    · rename_i fo hcl
      obtain ⟨f, x, y, avs, res, k1, k2, k3, k4, k5, rfl⟩ := h
      obtain ⟨callee, xs, ts⟩ := cl
      simp only at hcl k4
      subst hcl
      exact fin (call_step hI hGw hρ hop k1 k2.1 k2.2 k3 (by rw [hbx]; exact k4) (by rw [hτ]; exact k5))
    · exact calm h
  · exact calm h
theorem doesG_step (hT : TbOk P tb) (hS : Stays G) {st : St} {a : Act} {w : World} (hs : Sat G F0 w0 N st a w) {i : Nat} {o : Oper} (hi : ops[i]? = some o) {r : Out} (h : DoesG P G tb N ops o st r) {K : Act → World → Prop} {Q : Exit → Act → World → Prop} (hn : ∀ a' w', Sat G F0 w0 N (st.out o r) a' w' → K a' w') : wpOp P ops Q i K a w := by
  unfold wpOp
  rw [hi]
  simp only
  unfold DoesG at h
  cases hg : o.guard with
  | none =>
    rw [hg] at h
    have hw : Region.wanted o (yielded ops a.tmps) = true := by unfold Region.wanted; rw [hg]
    rw [if_pos hw]
    exact .inl (does_step hT hS hs h hn)
  | some q =>
    obtain ⟨j, want⟩ := q
    rw [hg] at h
    obtain ⟨d, b, h1, h2, h3⟩ := h
    obtain ⟨g, rfl, hI, hbx, hτ, hbase, hF0, hsl⟩ := hs.gh
    have hrd := ev_rep (N := N) hsl (.tmp d)
    rw [h2] at hrd
    have hd : a.tmps.getD d undef = .bool b := by simpa [RepV, Act.eval] using hrd
    have hdn : d < a.tmps.size := by
      apply Nat.lt_of_not_le
      intro hle
      have : a.tmps.getD d undef = undef := by simp [Array.getD, Nat.not_lt.2 hle]
      rw [this] at hd
      cases hd
    have hy : yielded ops a.tmps j = some b := by
      unfold yielded
      rw [h1]
      have : a.tmps[d]? = some (.bool b) := by
        rw [← hd]
        simp [Array.getD, hdn]
      simp [this]
    have hw : Region.wanted o (yielded ops a.tmps) = (some b == some want) := by unfold Region.wanted; rw [hg]; simp only [hy]
    rcases h3 with ⟨rfl, h3⟩ | ⟨h3, rfl⟩
    · rw [if_pos (by rw [hw]; simp)]
      exact .inl (does_step hT hS hs h3 hn)
    · rw [if_neg (by rw [hw]; simpa using h3)]
      refine hn _ _ ⟨St.ok_out hs.ok ⟨trivial, fun k T d e => by cases e⟩, ⟨g, rfl, hI, hbx, hτ, hbase, hF0, fun t ht => ?_⟩, hs.below, hs.G, by cases hd : o.dst <;> simp [Act.put, hs.size], by cases hd : o.dst <;> simp [Act.put, hs.defers], fix_put hs.fix⟩
      rw [out_env]
      have hsz := hs.size
      cases hd : o.dst with
      | none =>
        simp only [Act.put, reduceCtorEq, if_false]
        exact hsl t ht
      | some d =>
        simp only [Option.some.injEq, Act.put]
        by_cases e : d = t
        · subst e
          rw [if_pos rfl]
          have : (a.tmps.setIfInBounds d undef).getD d undef = undef := by simp [hsz, ht]
          rw [this]
          rfl
        · rw [if_neg e]
          have : (a.tmps.setIfInBounds d undef).getD t undef = a.tmps.getD t undef := by simp [e]
          rw [this]
          exact hsl t ht
/-- A region in its own order. -/
theorem run_ops (hT : TbOk P tb) (hS : Stays G) {st' : St} {Q : Exit → Act → World → Prop} (hQ : ∀ a w, Sat G F0 w0 N st' a w → Q .normal a w) : ∀ {l : List Nat} {st : St} {a : Act} {w : World}, Run P G tb N ops l st st' → Sat G F0 w0 N st a w → wpOps P ops Q l a w
  | [], st, a, w, h, hs => by
    cases h
    exact hQ a w hs
  | i :: l, st, a, w, ⟨o, r, h1, h2, h3⟩, hs => by
    rw [wpOps_cons]
    exact doesG_step hT hS hs h1 h2 fun a' w' hs' => run_ops hT hS hQ h3 hs'

/-! ### In any order -/
/-- An operation that nothing ahead of it stands behind may be taken first. -/
theorem run_take (hT : TbOk P tb) {st' : St} {i : Nat} {oi : Oper} (hi : ops[i]? = some oi) : ∀ {pre post : List Nat} {st : St}, st.ok → (∀ j ∈ pre, ∀ oj, ops[j]? = some oj → indep ops oj oi = true) → Run P G tb N ops (pre ++ i :: post) st st' →
    ∃ r, DoesG P G tb N ops oi st r ∧ Run P G tb N ops (pre ++ post) (st.out oi r) st'
  | [], post, st, _, _, ⟨o, r, h1, h2, h3⟩ => by
    rw [hi] at h1
    cases h1
    exact ⟨r, h2, h3⟩
  | j :: pre, post, st, hs, hind, ⟨oj, rj, h1, h2, h3⟩ => by
    obtain ⟨r, h4, h5⟩ := run_take hT hi (St.ok_out hs (doesG_ok hT hs h2)) (fun k hk => hind k (by simp [hk])) h3
    obtain ⟨h6, h7, h8⟩ := swap hs (hind j (by simp) oj h1) h2 h4
    refine ⟨r, h6, oj, rj, h1, h7, ?_⟩
    rw [← h8]
    exact h5
/-- Does an operation stand behind another, by the region's edges? -/
def ordOk (ops : Array Oper) : Bool :=
  let M := Region.before ops
  (List.range ops.size).all fun i => match ops[i]? with
    | some o => (o.after.all fun e => !Region.binds .any e || decide (e.on < i)) && (List.range i).all fun j =>
        if (M.getD i 0).testBit j then o.after.toList.any fun e => Region.binds .any e && (e.on == j || (decide (j < e.on) && (M.getD e.on 0).testBit j))
        else match ops[j]? with
          | some oj => indep ops oj o
          | none => false
    | none => false
structure OrdOk (ops : Array Oper) (M : Array Nat) : Prop where
  on : ∀ i o, ops[i]? = some o → ∀ e ∈ o.after, Region.binds .any e = true → e.on < i
  bit : ∀ i o j, ops[i]? = some o → j < i → (M.getD i 0).testBit j = true → ∃ e ∈ o.after, Region.binds .any e = true ∧ (e.on = j ∨ j < e.on ∧ (M.getD e.on 0).testBit j = true)
  ind : ∀ i o j oj, ops[i]? = some o → j < i → ops[j]? = some oj → (M.getD i 0).testBit j = false → indep ops oj o = true
theorem ordOk_spec (h : ordOk ops = true) : OrdOk ops (Region.before ops) := by
  unfold ordOk at h
  simp only [List.all_eq_true, List.mem_range] at h
  have key : ∀ i o, ops[i]? = some o → _ := fun i o hi => by
    have hlt : i < ops.size := (Array.getElem?_eq_some_iff.1 hi).1
    have := h i hlt
    rw [hi] at this
    exact this
  refine ⟨fun i o hi e he hb => ?_, fun i o j hi hj hbit => ?_, fun i o j oj hi hj hoj hbit => ?_⟩
  · have := key i o hi
    simp only [Bool.and_eq_true, Array.all_eq_true_iff_forall_mem] at this
    have := this.1 e he
    simpa [hb] using this
  · have := key i o hi
    simp only [Bool.and_eq_true, List.all_eq_true, List.mem_range] at this
    have := this.2 j hj
    rw [if_pos hbit] at this
    simp only [List.any_eq_true, Bool.and_eq_true, Bool.or_eq_true, beq_iff_eq, decide_eq_true_eq] at this
    obtain ⟨e, he, h1, h2⟩ := this
    exact ⟨e, by simpa using he, h1, h2⟩
  · have := key i o hi
    simp only [Bool.and_eq_true, List.all_eq_true, List.mem_range] at this
    have := this.2 j hj
    rw [if_neg (by rw [hbit]; simp), hoj] at this
    exact this
/-- Whoever is behind an operation that is done is done. -/
theorem closed_bit {M : Array Nat} (hO : OrdOk ops M) {D : Nat → Prop} (hD : ∀ i o, D i → ops[i]? = some o → ∀ e ∈ o.after, Region.binds .any e = true → D e.on) : ∀ (i : Nat) (o : Oper) (j : Nat), ops[i]? = some o → (∀ e ∈ o.after, Region.binds .any e = true → D e.on) → j < i → (M.getD i 0).testBit j = true → D j := by
  intro i
  induction i using Nat.strongRecOn with
  | _ i ih =>
    intro o j hi hpre hj hbit
    obtain ⟨e, he, hb, h⟩ := hO.bit i o j hi hj hbit
    have hon := hO.on i o hi e he hb
    rcases h with rfl | ⟨hje, h⟩
    · exact hpre e he hb
    · have hDe := hpre e he hb
      have hlt : i < ops.size := (Array.getElem?_eq_some_iff.1 hi).1
      have hoe : ops[e.on]? = some ops[e.on] := by simp
      exact ih e.on hon _ j hoe (hD e.on _ hDe hoe) hje h
/-- What is still to be done, in the text's order. -/
def left (ops : Array Oper) (listed : Array Bool) : List Nat := (List.range ops.size).filter fun i => !listed.getD i true
theorem mem_left {listed : Array Bool} {i : Nat} : i ∈ left ops listed ↔ i < ops.size ∧ listed.getD i true = false := by
  unfold left
  simp [List.mem_filter]
theorem getD_set {l : Array Bool} {i k : Nat} (hi : i < l.size) : (l.setIfInBounds i true).getD k true = if k = i then true else l.getD k true := by
  by_cases h : k = i
  · subst h; simp [hi]
  · simp [Array.getD_eq_getD_getElem?, Array.getElem?_setIfInBounds_ne (Ne.symm h), h]
theorem ready_spec {listed : Array Bool} {i : Nat} (h : i ∈ Region.ready .any ops listed) : i ∈ left ops listed ∧ ∀ o, ops[i]? = some o → ∀ e ∈ o.after, Region.binds .any e = true → listed.getD e.on false = true := by
  unfold Region.ready at h
  simp only [List.mem_filter, List.mem_range, Bool.and_eq_true, Bool.not_eq_true'] at h
  obtain ⟨h1, h2, h3⟩ := h
  refine ⟨mem_left.2 ⟨h1, h2⟩, fun o ho e he hb => ?_⟩
  rw [ho] at h3
  simp only [Option.map_some, Option.getD_some, Array.all_eq_true_iff_forall_mem] at h3
  have := h3 e he
  simpa [hb] using this
theorem ready_of {listed : Array Bool} {i : Nat} (h : i ∈ left ops listed) (h2 : ∀ o, ops[i]? = some o → ∀ e ∈ o.after, Region.binds .any e = true → listed.getD e.on false = true) : i ∈ Region.ready .any ops listed := by
  obtain ⟨h1, h3⟩ := mem_left.1 h
  unfold Region.ready
  simp only [List.mem_filter, List.mem_range, Bool.and_eq_true, Bool.not_eq_true']
  refine ⟨h1, h3, ?_⟩
  have ho : ops[i]? = some ops[i] := by simp [h1]
  rw [ho]
  simp only [Option.map_some, Option.getD_some, Array.all_eq_true_iff_forall_mem]
  intro e he
  by_cases hb : Region.binds .any e = true
  · simp [h2 _ ho e he hb]
  · simp [hb]
theorem left_set {listed : Array Bool} {i : Nat} (hi : i < listed.size) : left ops (listed.setIfInBounds i true) = (left ops listed).filter fun k => decide (k ≠ i) := by
  unfold left
  rw [List.filter_filter]
  apply List.filter_congr
  intro k _
  rw [getD_set hi]
  by_cases h : k = i <;> simp [h]
theorem left_sorted (listed : Array Bool) : (left ops listed).Pairwise (· < ·) := List.Pairwise.filter _ List.pairwise_lt_range
theorem getD_two {l : Array Bool} {i : Nat} (h : i < l.size) : l.getD i true = l.getD i false := by simp [Array.getD, h]
theorem run_any (hT : TbOk P tb) (hS : Stays G) (hO : OrdOk ops (Region.before ops)) {st' : St} {Q : Exit → Act → World → Prop} (hQ : ∀ a w, Sat G F0 w0 N st' a w → Q .normal a w) :
    ∀ (fuel : Nat) (listed : Array Bool) {st : St} {a : Act} {w : World}, listed.size = ops.size → (left ops listed).length ≤ fuel →
      (∀ i o, listed.getD i true = true → ops[i]? = some o → ∀ e ∈ o.after, Region.binds .any e = true → listed.getD e.on true = true) →
      Run P G tb N ops (left ops listed) st st' → Sat G F0 w0 N st a w → wpAny P .any ops Q fuel listed a w := by
  intro fuel
  induction fuel with
  | zero =>
    intro listed st a w _ hlen _ hrun hs
    have hl : left ops listed = [] := List.eq_nil_of_length_eq_zero (Nat.le_zero.1 hlen)
    rw [hl] at hrun
    cases hrun
    refine ⟨List.eq_nil_iff_forall_not_mem.2 fun i hi => ?_, hQ a w hs⟩
    have := (ready_spec hi).1
    rw [hl] at this
    cases this
  | succ fuel ih =>
    intro listed st a w hsz hlen hcl hrun hs
    refine ⟨fun hr => ?_, fun i hi => ?_⟩
    · have hl : left ops listed = [] := by
        refine List.eq_nil_iff_forall_not_mem.2 fun i => ?_
        induction i using Nat.strongRecOn with
        | _ i ih =>
          intro hi
          have : i ∈ Region.ready .any ops listed := ready_of hi fun o ho e he hb => by
            have hon := hO.on i o ho e he hb
            have hi2 := (mem_left.1 hi).1
            have hnot := ih e.on hon
            rw [← getD_two (by omega)]
            cases hg : listed.getD e.on true with
            | true => rfl
            | false => exact absurd (mem_left.2 ⟨by omega, hg⟩) hnot
          rw [hr] at this
          cases this
      rw [hl] at hrun
      cases hrun
      exact hQ a w hs
    · obtain ⟨hil, hpre⟩ := ready_spec hi
      have hisz := (mem_left.1 hil).1
      have hoi : ops[i]? = some ops[i] := by simp [hisz]
      obtain ⟨pre, post, hpp⟩ := List.append_of_mem hil
      have hsorted := left_sorted (ops := ops) listed
      rw [hpp] at hsorted
      have hlt : ∀ j ∈ pre, j < i := fun j hj => (List.pairwise_append.1 hsorted).2.2 j hj i (by simp)
      have hgt : ∀ j ∈ post, i < j := fun j hj => (List.pairwise_cons.1 (List.pairwise_append.1 hsorted).2.1).1 j hj
      have hind : ∀ j ∈ pre, ∀ oj, ops[j]? = some oj → indep ops oj ops[i] = true := fun j hj oj hoj => by
        have hjl : j ∈ left ops listed := by rw [hpp]; simp [hj]
        have hjn := (mem_left.1 hjl).2
        cases hb : ((Region.before ops).getD i 0).testBit j with
        | false => exact hO.ind i _ j oj hoi (hlt j hj) hoj hb
        | true =>
          have := closed_bit hO (D := fun k => listed.getD k true = true) hcl i ops[i] j hoi (fun e he hbd => by
            have hon := hO.on i _ hoi e he hbd
            rw [getD_two (by omega)]
            exact hpre _ hoi e he hbd) (hlt j hj) hb
          skip
          rw [this] at hjn
          cases hjn
      rw [hpp] at hrun
      obtain ⟨r, hd, hrun'⟩ := run_take hT hoi hs.ok hind hrun
      have hleft : left ops (listed.setIfInBounds i true) = pre ++ post := by
        rw [left_set (by omega), hpp]
        rw [List.filter_append, List.filter_cons_of_neg (by simp)]
        congr 1
        · exact List.filter_eq_self.2 fun j hj => by have := hlt j hj; simp; omega
        · exact List.filter_eq_self.2 fun j hj => by have := hgt j hj; simp; omega
      refine doesG_step hT hS hs hoi hd fun a' w' hs' => ih _ (by simp [hsz]) ?_ ?_ (by rw [hleft]; exact hrun') hs'
      · rw [hleft]
        rw [hpp] at hlen
        simp at hlen ⊢
        omega
      · intro k o hk ho e he hb
        have hks : k < ops.size := (Array.getElem?_eq_some_iff.1 ho).1
        have hon := hO.on k o ho e he hb
        rw [getD_set (by omega)] at hk ⊢
        split
        · rfl
        · by_cases hki : k = i
          · subst hki
            rw [getD_two (by omega)]
            exact hpre o ho e he hb
          · rw [if_neg hki] at hk
            exact hcl k o hk ho e he hb
theorem left_all : left ops (Array.replicate ops.size false) = List.range ops.size := by
  unfold left
  refine List.filter_eq_self.2 fun i hi => ?_
  have := List.mem_range.1 hi
  simp [this]
/-- A region, whether it draws its order or not. -/
theorem wp_region_run (hT : TbOk P tb) (hS : Stays G) (hm : P.follows .mixedOrders = true) {id : Nat} {draw : Bool} {st st' : St} {a : Act} {w : World} {Q : Exit → Act → World → Prop} (hQ : ∀ a w, Sat G F0 w0 N st' a w → Q .normal a w)
    (hO : draw = true → ordOk ops = true) (hr : Run P G tb N ops (List.range ops.size) st st') (hs : Sat G F0 w0 N st a w) : (Code.region id ops draw).wp P Q a w := by
  cases draw with
  | false => exact wp_region (run_ops hT hS hQ hr hs)
  | true =>
    refine wp_region_any hm (run_any hT hS (ordOk_spec (hO rfl)) hQ ops.size _ (by simp) (by rw [left_all]; simp) ?_ (by rw [left_all]; exact hr) ?_)
    · intro i o hi ho
      have hlt : i < ops.size := (Array.getElem?_eq_some_iff.1 ho).1
      simp [hlt] at hi
    · obtain ⟨g, rfl, hI, hbx, hτ, hbase, hF0, hsl⟩ := hs.gh
      refine ⟨hs.ok, ⟨{ g with w := { g.w with drawn := g.w.drawn + 1 } }, rfl, ?_, hbx, hτ, hbase, hF0, ?_⟩, hs.below.drew, hs.G, hs.size, hs.defers, hs.fix⟩
      · have ht : Tr g { g with w := { g.w with drawn := g.w.drawn + 1 } } := ⟨fun _ _ _ _ h => h, Nat.le_refl _, rfl, fun _ _ => rfl, fun _ _ _ => rfl, fun k hk => ⟨hk, rfl⟩, fun k ver hv => .inl ⟨hv, fun j b hb => ⟨hb, rfl, fun _ h => h⟩⟩⟩
        exact ⟨hI.F, hI.base, fun k T d e => ⟨(hI.box k T d e).1, (hI.box k T d e).2.1, (hI.box k T d e).2.2.imp fun xs h => ⟨h.1, h.2.tr ht⟩⟩, hI.inj, hI.fpb, hI.fpd⟩
      · have ht : Tr g { g with w := { g.w with drawn := g.w.drawn + 1 } } := ⟨fun _ _ _ _ h => h, Nat.le_refl _, rfl, fun _ _ => rfl, fun _ _ _ => rfl, fun k hk => ⟨hk, rfl⟩, fun k ver hv => .inl ⟨hv, fun j b hb => ⟨hb, rfl, fun _ h => h⟩⟩⟩
        exact fun t ht' => (hsl t ht').tr ht
end Go.Proofs.YtkcmapimcgppmaaGreatDoor
end
section
namespace Go.Proofs.YtkcmapimcgppmaaGreatDoor
open Go.RowKit

/-- All of it is owned. -/
def Dc.own (τ : Nat → Option Nat) : Dc → Prop
  | .nil => True
  | .lit _ r => r.own τ
  | .nilr _ _ r => r.own τ
  | .row k _ _ _ r => k.isSome = true ∧ r.own τ
  | .seg k _ r => k.isSome = true ∧ r.own τ
  | .blk k ver _ _ x r => τ k = some ver ∧ x.own τ ∧ r.own τ
/-- The names in it. -/
def Dc.toks : Dc → List Tk
  | .nil => []
  | .lit _ r => r.toks
  | .nilr _ _ r => r.toks
  | .row k _ _ _ r => k.toList ++ r.toks
  | .seg k _ r => k.toList ++ r.toks
  | .blk k _ _ _ x r => (k, 0) :: (x.toks ++ r.toks)
theorem own_join {g : Gh} (hI : Inv g) {T1 T2 : List Tk} {S1 S2 : List Nat} (h1 : S1.Nodup) (h2 : S2.Nodup) (hS1 : ∀ b ∈ S1, ∃ t ∈ T1, g.st.τ t.1 ≠ none ∧ b ∈ g.fp t) (hS2 : ∀ b ∈ S2, ∃ t ∈ T2, g.st.τ t.1 ≠ none ∧ b ∈ g.fp t) (hT : (T1 ++ T2).Nodup) : (S1 ++ S2).Nodup :=
  List.nodup_append.2 ⟨h1, h2, fun a ha b hb e => by
    subst e
    obtain ⟨t, ht, k1, k2⟩ := hS1 a ha
    obtain ⟨t', ht', k3, k4⟩ := hS2 a hb
    have := hI.fpd t t' a k1 k3 k2 k4
    exact (List.nodup_append.1 hT).2.2 t ht t' ht' this⟩
theorem own_of {g : Gh} (hI : Inv g) {d : Dc} : ∀ {xs : List Value}, RepC g d xs → d.own g.st.τ → d.toks.Nodup → ∃ S, Own g.w g.base d.ds xs S ∧ S.Nodup ∧ ∀ b ∈ S, ∃ t ∈ d.toks, g.st.τ t.1 ≠ none ∧ b ∈ g.fp t := by
  induction d with
  | nil => rintro xs rfl _ _; exact ⟨[], ⟨rfl, rfl⟩, by simp, fun b hb => by cases hb⟩
  | lit v r ih =>
    rintro xs ⟨-, ys, rfl, h⟩ ho hn
    obtain ⟨S, h1, h2, h3⟩ := ih h ho hn
    exact ⟨S, ⟨ys, rfl, h1⟩, h2, h3⟩
  | nilr sz e r ih =>
    rintro xs ⟨ys, rfl, h⟩ ho hn
    obtain ⟨S, h1, h2, h3⟩ := ih h ho hn
    exact ⟨S, ⟨_, ys, [], [], [], [], [], S, rfl, .inl ⟨none, rfl, rfl, rfl, rfl⟩, ⟨rfl, rfl⟩, ⟨rfl, rfl⟩, h1, rfl⟩, h2, h3⟩
  | row k sz e x r ih =>
    rintro xs ⟨-, v, ys, rfl, -, how, h⟩ ho hn
    cases k with
    | none => cases ho.1
    | some k =>
      obtain ⟨S, h1, h2, h3⟩ := ih h ho.2 (List.nodup_append.1 hn).2.1
      obtain ⟨k0, S0, k1, k2, k3⟩ := how k rfl
      have hS0 : ∀ b ∈ S0, ∃ t ∈ [k], g.st.τ t.1 ≠ none ∧ b ∈ g.fp t := fun b hb => ⟨k, by simp, by rw [k0]; simp, k3 b hb⟩
      refine ⟨S0 ++ S, Own.app h1 k1, own_join hI k2 h2 hS0 h3 hn, fun b hb => ?_⟩
      rcases List.mem_append.1 hb with hb | hb
      · obtain ⟨t, ht, h⟩ := hS0 b hb
        exact ⟨t, List.mem_append_left _ ht, h⟩
      · obtain ⟨t, ht, h⟩ := h3 b hb
        exact ⟨t, List.mem_append_right _ ht, h⟩
  | seg k d r ih =>
    rintro xs ⟨-, ys, zs, rfl, -, how, h⟩ ho hn
    cases k with
    | none => cases ho.1
    | some k =>
      obtain ⟨S, h1, h2, h3⟩ := ih h ho.2 (List.nodup_append.1 hn).2.1
      obtain ⟨k0, S0, k1, k2, k3⟩ := how k rfl
      have hS0 : ∀ b ∈ S0, ∃ t ∈ [k], g.st.τ t.1 ≠ none ∧ b ∈ g.fp t := fun b hb => ⟨k, by simp, by rw [k0]; simp, k3 b hb⟩
      refine ⟨S0 ++ S, Own.app h1 k1, own_join hI k2 h2 hS0 h3 hn, fun b hb => ?_⟩
      rcases List.mem_append.1 hb with hb | hb
      · obtain ⟨t, ht, h⟩ := hS0 b hb
        exact ⟨t, List.mem_append_left _ ht, h⟩
      · obtain ⟨t, ht, h⟩ := h3 b hb
        exact ⟨t, List.mem_append_right _ ht, h⟩
  | blk k ver sz e x r ihx ih =>
    rintro xs ⟨-, -, v, ys, rfl, -, ⟨cur, c1, -, c3⟩, h⟩ ho hn
    obtain ⟨o1, o2, o3⟩ := ho
    rw [o1] at c1
    cases c1
    obtain ⟨n, zs, r1, r2, r3⟩ := c3 rfl
    have hn' : ([((k, 0) : Tk)] ++ (x.toks ++ r.toks)).Nodup := hn
    have hnx := List.nodup_append.1 (List.nodup_append.1 hn').2.1
    obtain ⟨S, h1, h2, h3⟩ := ih h o3 hnx.2.1
    obtain ⟨S0, k1, k2, k3⟩ := ihx r2 o2 hnx.1
    have hB : ∀ b ∈ v.ownBlock.toList, ∃ t ∈ [((k, 0) : Tk)], g.st.τ t.1 ≠ none ∧ b ∈ g.fp t := fun b hb => ⟨(k, 0), by simp, by show g.st.τ k ≠ none; rw [o1]; simp, (r3 b (by simpa using hb)).1⟩
    have hnB : v.ownBlock.toList.Nodup := by cases v.ownBlock <;> simp
    have h4 := own_join hI hnB k2 hB k3 (List.nodup_append.2 ⟨by simp, hnx.1, fun a ha b hb => (List.nodup_append.1 hn').2.2 a ha b (List.mem_append_left _ hb)⟩)
    have hBx : ∀ b ∈ v.ownBlock.toList ++ S0, ∃ t ∈ ((k, 0) : Tk) :: x.toks, g.st.τ t.1 ≠ none ∧ b ∈ g.fp t := fun b hb => by
      rcases List.mem_append.1 hb with hb | hb
      · obtain ⟨t, ht, h⟩ := hB b hb
        exact ⟨t, by simp at ht; simp [ht], h⟩
      · obtain ⟨t, ht, h⟩ := k3 b hb
        exact ⟨t, List.mem_cons_of_mem _ ht, h⟩
    refine ⟨v.ownBlock.toList ++ (S0 ++ ([] ++ S)), ⟨v, ys, zs, [], v.ownBlock.toList, S0, [], S, rfl, ?_, k1, ⟨rfl, rfl⟩, h1, rfl⟩, ?_, fun b hb => ?_⟩
    · rw [List.append_nil, ← k1.len, r1.1]
      exact RowO.of r1
    · have := own_join hI h4 h2 hBx h3 (by simpa [Dc.toks] using hn)
      simpa using this
    · rw [List.nil_append, ← List.append_assoc] at hb
      rcases List.mem_append.1 hb with hb | hb
      · obtain ⟨t, ht, h⟩ := hBx b hb
        exact ⟨t, by show t ∈ (k, 0) :: (x.toks ++ r.toks); rw [← List.cons_append]; exact List.mem_append_left _ ht, h⟩
      · obtain ⟨t, ht, h⟩ := h3 b hb
        exact ⟨t, by show t ∈ (k, 0) :: (x.toks ++ r.toks); rw [← List.cons_append]; exact List.mem_append_right _ ht, h⟩

/-- No cells. -/
@[simp] def Dc.emp (τ' : Nat → Option Nat) : Dc → Prop
  | .nil => True
  | .seg k x r => x = .nil ∧ r = .nil ∧ ∀ j, k = some j → τ' j.1 = some 0
  | _ => False
theorem Dc.emp_rep {g : Gh} {x : Dc} (h : x.emp g.st.τ) : x.ds = .nil ∧ RepC g x [] := by
  cases x with
  | nil => exact ⟨rfl, rfl⟩
  | seg k x r =>
    obtain ⟨rfl, rfl, h⟩ := h
    exact ⟨rfl, trivial, [], [], rfl, rfl, fun j e => ⟨h j e, [], ⟨rfl, rfl⟩, by simp, fun b hb => by cases hb⟩, rfl⟩
  | _ => exact h.elim
@[simp] def Dc.isNil : Dc → Bool
  | .nil => true
  | _ => false
/-- Said more weakly: cells, the weaker first (φ: which names become one; τ': the names of the weaker). -/
def Dc.imp (τ : Nat → Option Nat) (φ : Tk → List Tk) (τ' : Nat → Option Nat) : Dc → Dc → Prop
  | .nil, d => d = .nil
  | .lit v r, d => match d with
    | .lit v0 r0 => v0 = v ∧ Dc.imp τ φ τ' r r0
    | _ => False
  | .nilr _ _ r, d => match d with
    | .nilr _ _ r0 => Dc.imp τ φ τ' r r0
    | _ => False
  | .row none sz _ x r, d => match d with
    | .nilr _ _ r0 => x = .nil ∧ Dc.imp τ φ τ' r r0
    | .row _ sz0 _ x0 r0 => (sz0 = sz ∧ x0 = x) ∧ Dc.imp τ φ τ' r r0
    | .blk _ _ sz0 _ x0 r0 => (sz0 = sz ∧ x0.ds = x) ∧ Dc.imp τ φ τ' r r0
    | .seg none (.row sz0 _ x0 _ .nil) r0 => (sz0 = sz ∧ x0 = x) ∧ Dc.imp τ φ τ' r r0
    | _ => False
  | .row (some k) sz e x r, d => τ' k.1 = some 0 ∧ match d with
    | .nilr _ _ r0 => x = .nil ∧ Dc.imp τ φ τ' r r0
    | .row (some k0) sz0 e0 x0 r0 => (sz0 = sz ∧ e0 = e ∧ x0 = x ∧ k0 ∈ φ k) ∧ Dc.imp τ φ τ' r r0
    | .blk k0 ver sz0 e0 x0 r0 => (sz0 = sz ∧ e0 = e ∧ x0.ds = x ∧ τ k0 = some ver ∧ x0.own τ ∧ ((k0, 0) :: x0.toks).Nodup ∧ ∀ t ∈ (k0, 0) :: x0.toks, t ∈ φ k) ∧ Dc.imp τ φ τ' r r0
    | _ => False
  | .seg none x r, d => if r.isNil then d.ds = x else match d with
    | .seg none x0 r0 => x0 = x ∧ Dc.imp τ φ τ' r r0
    | _ => False
  | .seg (some k) x r, d => r = .nil ∧ d.ds = x ∧ τ' k.1 = some 0 ∧ d.own τ ∧ d.toks.Nodup ∧ ∀ t ∈ d.toks, t ∈ φ k
  | .blk k ver sz e x r, d => (τ' k = some ver ∧ ver ≠ 0) ∧ match d with
    | .nilr _ _ r0 => x.emp τ' ∧ Dc.imp τ φ τ' r r0
    | .blk k0 ver0 sz0 e0 x0 r0 => (sz0 = sz ∧ e0 = e ∧ τ k0 = some ver0 ∧ (k0, 0) ∈ φ (k, 0) ∧ Dc.imp τ φ τ' x x0) ∧ Dc.imp τ φ τ' r r0
    | _ => False
/-- What the weaker says of: the same memory. -/
structure Weak (g g' : Gh) (φ : Tk → List Tk) : Prop where
  F : ∀ b o v, g.F b o = some v → g'.F b o = some v
  w : g'.w = g.w
  base : g'.base = g.base
  fp : ∀ k b, (∃ t ∈ φ k, g.st.τ t.1 ≠ none ∧ b ∈ g.fp t) → b ∈ g'.fp k
/-- No row to append to. -/
def Dc.still : Dc → Bool
  | .blk _ _ _ _ _ _ => false
  | .nil => true
  | .lit _ r => r.still
  | .nilr _ _ r => r.still
  | .row _ _ _ _ r => r.still
  | .seg _ _ r => r.still
theorem Rd.to {g g' : Gh} {φ : Tk → List Tk} (hw : Weak g g' φ) {v : Value} {sz : Nat} {x : Ds} (h : Rd g.F g.w.heap.size v sz x .nil) : Rd g'.F g'.w.heap.size v sz x .nil := by
  rw [hw.w]
  exact h.mono (fun b o v _ hv => hw.F b o v hv) (Nat.le_refl _)
theorem RepC.imp {g g' : Gh} {φ : Tk → List Tk} (hI : Inv g) (hw : Weak g g' φ) {d' : Dc} (hn : d'.still = true ∨ ∀ b o, g.F b o = none → g'.F b o = none) : ∀ {d : Dc} {xs : List Value}, Dc.imp g.st.τ φ g'.st.τ d' d → RepC g d xs → RepC g' d' xs := by
  induction d' with
  | nil => intro d xs h hd; subst h; exact hd
  | lit v r ih =>
    intro d xs h hd
    cases d <;> simp only [Dc.imp] at h
    obtain ⟨h0, ys, rfl, hd⟩ := hd
    obtain ⟨rfl, h⟩ := h
    exact ⟨h0, ys, rfl, ih hn h hd⟩
  | nilr sz e r ih =>
    intro d xs h hd
    cases d <;> simp only [Dc.imp] at h
    obtain ⟨ys, rfl, hd⟩ := hd
    exact ⟨ys, rfl, ih hn h hd⟩
  | row k sz e x r ih =>
    intro d xs h hd
    cases k with
    | none =>
      cases d with
      | nil => exact h.elim
      | lit _ _ => exact h.elim
      | nilr _ _ _ =>
        obtain ⟨rfl, h⟩ := h
        obtain ⟨ys, rfl, hd⟩ := hd
        exact ⟨trivial, _, ys, rfl, Rd.none_ _ _ _, (fun _ e => by cases e), ih hn h hd⟩
      | row _ _ _ _ _ =>
        obtain ⟨⟨rfl, rfl⟩, h⟩ := h
        obtain ⟨h0, v, ys, rfl, h1, -, hd⟩ := hd
        exact ⟨h0, v, ys, rfl, h1.to hw, (fun _ e => by cases e), ih hn h hd⟩
      | blk _ _ _ _ _ _ =>
        obtain ⟨⟨rfl, rfl⟩, h⟩ := h
        obtain ⟨h0, -, v, ys, rfl, h1, -, hd⟩ := hd
        exact ⟨h0, v, ys, rfl, h1.to hw, (fun _ e => by cases e), ih hn h hd⟩
      | seg k0 d0 r0 =>
        cases k0 with
        | some _ => exact h.elim
        | none =>
          cases d0 with
          | row sz0 e0 x0 s0 t0 =>
            cases t0 with
            | nil =>
              obtain ⟨⟨rfl, rfl⟩, h⟩ := h
              obtain ⟨h0, ys, zs, rfl, ⟨v, us, rfl, h1, e9⟩, -, hd⟩ := hd
              cases e9
              exact ⟨h0.1, v, zs, rfl, h1.noRoom.to hw, (fun _ e => by cases e), ih hn h hd⟩
            | _ => exact h.elim
          | _ => exact h.elim
    | some k =>
      obtain ⟨hτ, h⟩ := h
      cases d with
      | nilr sz0 e0 r0 =>
        obtain ⟨rfl, h⟩ := h
        obtain ⟨ys, rfl, hd⟩ := hd
        refine ⟨trivial, _, ys, rfl, Rd.none_ _ _ _, fun j e => ?_, ih hn h hd⟩
        cases e
        exact ⟨hτ, [], ⟨_, [], [], [], [], [], [], [], rfl, .inl ⟨none, rfl, rfl, rfl, rfl⟩, ⟨rfl, rfl⟩, ⟨rfl, rfl⟩, ⟨rfl, rfl⟩, rfl⟩, by simp, fun b hb => by cases hb⟩
      | row k0 sz0 e0 x0 r0 =>
        cases k0 with
        | none => exact h.elim
        | some k0 =>
          obtain ⟨⟨rfl, rfl, rfl, hk⟩, h⟩ := h
          obtain ⟨h0, v, ys, rfl, h1, how, hd⟩ := hd
          obtain ⟨q1, S, q2, q3, q4⟩ := how k0 rfl
          refine ⟨h0, v, ys, rfl, h1.to hw, fun j e => ?_, ih hn h hd⟩
          cases e
          exact ⟨hτ, S, by rw [hw.w, hw.base]; exact q2, q3, fun b hb => hw.fp k b ⟨k0, hk, by rw [q1]; simp, q4 b hb⟩⟩
      | blk k0 ver sz0 e0 x0 r0 =>
        obtain ⟨⟨rfl, rfl, rfl, hc, hown, hnd, hk⟩, h⟩ := h
        obtain ⟨h0, h9, v, ys, rfl, h1, h2, hd⟩ := hd
        refine ⟨h0, v, ys, rfl, h1.to hw, fun j e => ?_, ih hn h hd⟩
        cases e
        obtain ⟨S, q1, q2, q3⟩ := own_of hI (d := .blk k0 ver sz0 e0 x0 .nil) (xs := [v]) ⟨h0, h9, v, [], rfl, h1, h2, rfl⟩ ⟨hc, hown, trivial⟩ (by simpa [Dc.toks] using hnd)
        refine ⟨hτ, S, by rw [hw.w, hw.base]; exact q1, q2, fun b hb => ?_⟩
        obtain ⟨t, ht, q⟩ := q3 b hb
        exact hw.fp k b ⟨t, hk t (by simpa [Dc.toks] using ht), q⟩
      | nil => exact h.elim
      | lit _ _ => exact h.elim
      | seg _ _ _ => exact h.elim
  | seg k x r ih =>
    intro d xs h hd
    have hvs : Vs g'.F g'.w.heap.size d.ds xs := by
      rw [hw.w]
      exact hd.vs.mono (fun b o v _ hv => hw.F b o v hv) (Nat.le_refl _)
    cases k with
    | none =>
      simp only [Dc.imp] at h
      split at h
      · rename_i h9
        subst h
        cases r <;> simp at h9
        exact ⟨hd.good, xs, [], by simp, hvs, (fun _ e => by cases e), rfl⟩
      · split at h
        · obtain ⟨rfl, h⟩ := h
          obtain ⟨h0, ys, zs, rfl, h1, -, hd⟩ := hd
          exact ⟨h0, ys, zs, rfl, by rw [hw.w]; exact h1.mono (fun b o v _ hv => hw.F b o v hv) (Nat.le_refl _), (fun _ e => by cases e), ih hn h hd⟩
        · exact h.elim
    | some k =>
      obtain ⟨rfl, rfl, hτ, hown, hnd, hk⟩ := h
      obtain ⟨S, q1, q2, q3⟩ := own_of hI hd hown hnd
      refine ⟨hd.good, xs, [], by simp, hvs, fun j e => ?_, rfl⟩
      cases e
      refine ⟨hτ, S, by rw [hw.w, hw.base]; exact q1, q2, fun b hb => ?_⟩
      obtain ⟨t, ht, q⟩ := q3 b hb
      exact hw.fp k b ⟨t, hk t ht, q⟩
  | blk k ver sz e x r ihx ih =>
    intro d xs h hd
    obtain ⟨⟨hτ, hv0⟩, h⟩ := h
    have hn' : ∀ b o, g.F b o = none → g'.F b o = none := hn.resolve_left (by simp [Dc.still])
    cases d with
    | nilr sz0 e0 r0 =>
      obtain ⟨hemp, h⟩ := h
      obtain ⟨ys, rfl, hd⟩ := hd
      obtain ⟨e9, hrep⟩ := Dc.emp_rep hemp
      exact ⟨by rw [e9]; trivial, hv0, _, ys, rfl, by rw [e9]; exact Rd.none_ _ _ _, ⟨ver, hτ, Nat.le_refl _, fun _ => ⟨0, [], World.ownsRow_nil _ _ _ _, hrep, fun b hb => by cases hb⟩⟩, ih (.inr hn') h hd⟩
    | blk k0 ver0 sz0 e0 x0 r0 =>
      obtain ⟨⟨rfl, rfl, hc, hk, hx⟩, h⟩ := h
      obtain ⟨h0, h9, v, ys, rfl, h1, ⟨cur, c1, -, c3⟩, hd⟩ := hd
      rw [hc] at c1
      cases c1
      obtain ⟨n, zs, r1, r2, r3⟩ := c3 rfl
      have hx' := ihx (.inr hn') hx r2
      refine ⟨hx'.good, hv0, v, ys, rfl, ?_, ⟨ver, hτ, Nat.le_refl _, fun _ => ⟨n, zs, by rw [hw.w, hw.base]; exact r1, hx', fun b hb => ⟨hw.fp (k, 0) b ⟨_, hk, by rw [hc]; simp, (r3 b hb).1⟩, fun o ho => hn' b o ((r3 b hb).2 o ho)⟩⟩⟩, ih (.inr hn') h hd⟩
      have hlen : x.ds.len = x0.ds.len := by rw [Dc.ds_len, Dc.ds_len, ← hx'.len, ← r2.len]
      obtain ⟨p, m, c, e1, k1, k2, k3, k4, k5⟩ := h1
      refine ⟨p, m, c, e1, by rw [hlen]; exact k1, k2, k3, by rw [hlen]; exact k4, ?_⟩
      rcases k5 with k5 | ⟨k5, k6, k7⟩ | ⟨b, o, rfl, hb, hat, -⟩
      · exact .inl k5
      · exact .inr (.inl ⟨k5, rfl, k7⟩)
      · refine .inr (.inr ⟨b, o, rfl, by rw [hw.w]; exact hb, ?_, trivial⟩)
        subst e1
        rcases r1.2 with ⟨e2, -⟩ | ⟨g0, cap, cur, e2, -, e3, -, -, -, e4⟩
        · cases e2
        · cases e2
          refine hx'.vs.at_ fun j u hu => ?_
          obtain ⟨ys', w1, w2⟩ := At.vsx hat
          have hj : j < ys'.length := by rw [w1.len, Dc.ds_len, ← r2.len]; exact (List.getElem?_eq_some_iff.1 hu).1
          have h5 := w2 j ys'[j] (by simp [hj])
          have h6 := hI.F _ _ _ h5
          have h7 := row_cell e3 (by rw [r1.1]; exact e4) j u hu
          rw [h6] at h7
          cases h7
          exact hw.F _ _ _ h5
    | nil => exact h.elim
    | lit _ _ => exact h.elim
    | seg _ _ _ => exact h.elim
    | row _ _ _ _ _ => exact h.elim
/-- The same, of a slot; the weaker first. -/
def AV.imp (bx : Nat → Option (Nat × Dc)) (τ : Nat → Option Nat) (φ : Tk → List Tk) (τ' : Nat → Option Nat) : AV → AV → Prop
  | .junk, _ => True
  | .v x, a => a = .v x
  | .c d, a => match a with
    | .c d0 => Dc.imp τ φ τ' d d0
    | .v x => x = .slice none 0 0 ∧ Dc.imp τ φ τ' d (.nilr 0 0 .nil)
    | _ => False
  | .agg d, a => match a with
    | .agg d0 => Dc.imp τ φ τ' d d0
    | _ => False
  | .bx k o, a => a = .bx k o ∧ bx k ≠ none
  | .el x, a => a = .el x
  | .nil, a => a = .nil
  | .cons x r, a => match a with
    | .cons y s => AV.imp bx τ φ τ' x y ∧ AV.imp bx τ φ τ' r s
    | _ => False
  | .tup l, a => match a with
    | .tup m => AV.imp bx τ φ τ' l m
    | _ => False
  | .fn f x y, a => match a with
    | .fn f' x' y' => f' = f ∧ AV.imp bx τ φ τ' x x' ∧ AV.imp bx τ φ τ' y y'
    | _ => False
def AV.still : AV → Bool
  | .c d => d.still
  | .agg d => d.still
  | .cons a r => a.still && r.still
  | .tup l => l.still
  | .fn _ a b => a.still && b.still
  | _ => true
/-- No place in memory. -/
def AV.flat : AV → Bool
  | .el _ => false
  | .bx _ _ => false
  | .cons a r => a.flat && r.flat
  | .tup l => l.flat
  | .fn _ a b => a.flat && b.flat
  | _ => true
theorem RepV.imp {g g' : Gh} {φ : Tk → List Tk} (hI : Inv g) (hw : Weak g g' φ) {b : AV} : ∀ {a : AV} {xs : List Value}, (b.still = true ∨ ∀ b o, g.F b o = none → g'.F b o = none) → (b.flat = true ∨ g'.B = g.B) → AV.imp g'.st.bx g.st.τ φ g'.st.τ b a → RepV g a xs → RepV g' b xs := by
  induction b with
  | junk => intros; trivial
  | v x => intro a xs _ _ h ha; subst h; exact ha
  | c d =>
    intro a xs hn _ h ha
    cases a <;> simp only [AV.imp] at h
    · obtain ⟨rfl, h⟩ := h
      have e : xs = [.slice none 0 0] := ha
      subst e
      exact RepC.imp hI hw hn h ⟨[], rfl, rfl⟩
    · exact RepC.imp hI hw hn h ha
  | agg d =>
    intro a xs hn _ h ha
    cases a <;> simp only [AV.imp] at h
    obtain ⟨ys, rfl, ha⟩ := ha
    exact ⟨ys, rfl, RepC.imp hI hw hn h ha⟩
  | bx k o =>
    intro a xs _ hf h ha
    obtain ⟨rfl, h⟩ := h
    exact ⟨by rw [hf.resolve_left (by simp [AV.flat])]; exact ha.1, h⟩
  | el x =>
    intro a xs _ hf h ha
    subst h
    obtain ⟨h0, b, o, ys, rfl, hb, h1, h2⟩ := ha
    refine ⟨h0, b, o, ys, rfl, by rw [hw.w]; exact hb, by rw [hw.w]; exact h1.mono (fun b o v _ hv => hw.F b o v hv) (Nat.le_refl _), fun j u hu => ?_⟩
    have h3 := h2 j u hu
    unfold Gh.Fs at h3 ⊢
    rw [hw.base, hw.w]
    split
    · rename_i hl; rw [if_pos hl] at h3; exact h3
    · rename_i hl; rw [if_neg hl] at h3; exact hw.F _ _ _ h3
  | nil => intro a xs _ _ h ha; subst h; exact ha
  | cons x r ihx ihr =>
    intro a xs hn hf h ha
    cases a <;> simp only [AV.imp] at h
    obtain ⟨y, ys, rfl, h1, h2⟩ := ha
    simp only [AV.still, AV.flat, Bool.and_eq_true] at hn hf
    exact ⟨y, ys, rfl, ihx (hn.imp And.left id) (hf.imp And.left id) h.1 h1, ihr (hn.imp And.right id) (hf.imp And.right id) h.2 h2⟩
  | tup l ih =>
    intro a xs hn hf h ha
    cases a <;> simp only [AV.imp] at h
    obtain ⟨ys, rfl, ha⟩ := ha
    exact ⟨ys, rfl, ih hn hf h ha⟩
  | fn f x y ihx ihy =>
    intro a xs hn hf h ha
    cases a <;> simp only [AV.imp] at h
    obtain ⟨ys, zs, rfl, h1, h2⟩ := ha
    obtain ⟨rfl, h3, h4⟩ := h
    simp only [AV.still, AV.flat, Bool.and_eq_true] at hn hf
    exact ⟨ys, zs, rfl, ihx (hn.imp And.left id) (hf.imp And.left id) h3 h1, ihy (hn.imp And.right id) (hf.imp And.right id) h4 h2⟩

variable {P : Program} {G : World → Prop} {tb : TB} {N : Nat} {F0 : Mem} {w0 : World}
/-- A state that says less. -/
def Le (G : World → Prop) (N : Nat) (s s' : St) : Prop := ∀ F0 w0 a w, Sat G F0 w0 N s a w → Sat G F0 w0 N s' a w
def envOf (l : List (Nat × AV)) : Nat → AV := fun t => match l.find? (fun p => p.1 == t) with
  | some p => p.2
  | none => .junk
def bxOf (l : List (Nat × Nat × Dc)) : Nat → Option (Nat × Dc) := fun t => match l.find? (fun p => p.1 == t) with
  | some p => some p.2
  | none => none
def τOf (l : List (Nat × Nat)) : Nat → Option Nat := fun t => match l.find? (fun p => p.1 == t) with
  | some p => some p.2
  | none => none
/-- A state told by its slots, its variables, its names. -/
def stOf (l : List (Nat × AV)) (b : List (Nat × Nat × Dc)) (t : List (Nat × Nat)) : St := ⟨envOf l, bxOf b, τOf t, fun _ => none⟩
def φOf (q : List (Tk × List Tk)) : Tk → List Tk := fun t => match q.find? (fun p => p.1 == t) with
  | some p => p.2
  | none => []
theorem find_mem {α β : Type} [BEq α] [LawfulBEq α] {l : List (α × β)} {k : α} {p : α × β} (h : l.find? (fun p => p.1 == k) = some p) : p ∈ l ∧ p.1 = k := ⟨List.mem_of_find?_eq_some h, by simpa using List.find?_some h⟩
theorem nodup_flat {α β : Type} : ∀ {q : List (α × List β)}, (q.flatMap (·.2)).Nodup → ∀ {p p' : α × List β} {u : β}, p ∈ q → p' ∈ q → u ∈ p.2 → u ∈ p'.2 → p = p'
  | [], _, _, _, _, h, _, _, _ => by cases h
  | r :: q, hn, p, p', u, h1, h2, h3, h4 => by
    rw [List.flatMap_cons] at hn
    obtain ⟨-, n2, n3⟩ := List.nodup_append.1 hn
    rcases List.mem_cons.1 h1 with e1 | m1 <;> rcases List.mem_cons.1 h2 with e2 | m2
    · rw [e1, e2]
    · rw [e1] at h3
      exact absurd rfl (n3 u h3 u (List.mem_flatMap.2 ⟨p', m2, h4⟩))
    · rw [e2] at h4
      exact absurd rfl (n3 u h4 u (List.mem_flatMap.2 ⟨p, m1, h3⟩))
    · exact nodup_flat n2 m1 m2 h3 h4
theorem φ_disj {q : List (Tk × List Tk)} (hq : (q.flatMap (·.2)).Nodup) {k k' u : Tk} (h1 : u ∈ φOf q k) (h2 : u ∈ φOf q k') : k = k' := by
  unfold φOf at h1 h2
  split at h1
  · rename_i p hp
    split at h2
    · rename_i p' hp'
      obtain ⟨m1, e1⟩ := find_mem hp
      obtain ⟨m2, e2⟩ := find_mem hp'
      rw [← e1, ← e2, nodup_flat hq m1 m2 h1 h2]
    · cases h2
  · cases h1
/-- The blocks of names that become one. -/
def fpOf (g : Gh) (φ : Tk → List Tk) (k : Tk) : List Nat := (φ k).flatMap fun u => if g.st.τ u.1 ≠ none then g.fp u else []
theorem mem_fpOf {g : Gh} {φ : Tk → List Tk} {k : Tk} {x : Nat} : x ∈ fpOf g φ k ↔ ∃ u ∈ φ k, g.st.τ u.1 ≠ none ∧ x ∈ g.fp u := by
  constructor
  · intro hx
    obtain ⟨u, hu, hx⟩ := List.mem_flatMap.1 hx
    split at hx
    · rename_i h; exact ⟨u, hu, h, hx⟩
    · cases hx
  · rintro ⟨u, hu, h1, h2⟩
    exact List.mem_flatMap.2 ⟨u, hu, by rw [if_pos h1]; exact h2⟩
/-- The weaker state is told as it is. -/
theorem le_of {s : St} {l : List (Nat × AV)} {b : List (Nat × Nat × Dc)} {t : List (Nat × Nat)} (q : List (Tk × List Tk))
    (hl : ∀ p ∈ l, AV.imp (bxOf b) s.τ (φOf q) (τOf t) p.2 (s.env p.1) ∧ p.2.ok (bxOf b) (τOf t)) (hb : ∀ p ∈ b, match s.bx p.1 with
      | some (T, d) => T = p.2.1 ∧ Dc.imp s.τ (φOf q) (τOf t) p.2.2 d ∧ p.2.2.ok (τOf t)
      | none => False)
    (hq : (q.flatMap (·.2)).Nodup) : Le G N s (stOf l b t) := by
  intro F0 w0 a w hs
  obtain ⟨g, rfl, hI, hbx, hτ, hbase, hF0, hsl⟩ := hs.gh
  let g' : Gh := { g with st := stOf l b t, fp := fun k => (φOf q k).flatMap fun u => if s.τ u.1 ≠ none then g.fp u else [] }
  have hmem : ∀ k x, x ∈ g'.fp k → ∃ u ∈ φOf q k, s.τ u.1 ≠ none ∧ x ∈ g.fp u := fun k x hx => by
    obtain ⟨u, hu, hx⟩ := List.mem_flatMap.1 hx
    split at hx
    · rename_i h; exact ⟨u, hu, h, hx⟩
    · cases hx
  have hw : Weak g g' (φOf q) := ⟨fun _ _ _ h => h, rfl, rfl, fun k x ⟨u, hu, h1, h2⟩ => List.mem_flatMap.2 ⟨u, hu, by rw [if_pos (by rw [← hτ]; exact h1)]; exact h2⟩⟩
  have hbm : ∀ k T d, bxOf b k = some (T, d) → (k, T, d) ∈ b := fun k T d h => by
    unfold bxOf at h
    split at h
    · rename_i p hp
      obtain ⟨h1, h2⟩ := find_mem hp
      obtain ⟨p1, p2, p3⟩ := p
      cases h
      simp only at h2
      subst h2
      exact h1
    · cases h
  have hbn : ∀ k, bxOf b k ≠ none → g.st.bx k ≠ none := fun k hk => by
    obtain ⟨⟨T, d⟩, e⟩ := Option.ne_none_iff_exists'.1 hk
    have := hb _ (hbm k T d e)
    simp only at this
    rw [hbx]
    intro h
    rw [h] at this
    exact this
  have hdis : ∀ k k' u, u ∈ φOf q k → u ∈ φOf q k' → k = k' := fun k k' u h1 h2 => φ_disj hq h1 h2
  have himp : ∀ p ∈ l, AV.imp g'.st.bx g.st.τ (φOf q) g'.st.τ p.2 (s.env p.1) := fun p hp => by rw [hτ]; exact (hl p hp).1
  refine ⟨⟨fun n => ?_, fun k T d e => ?_⟩, ⟨g', rfl, ⟨hI.F, hI.base, fun k T d e => ?_, fun k k' h1 h2 => hI.inj k k' (hbn k h1) (hbn k' h2), fun k j x hk hx => ?_, fun k k' x _ _ h1 h2 => ?_⟩, rfl, rfl, hbase, hF0, fun n hn => ?_⟩, hs.below, hs.G, hs.size, hs.defers, fun t x e => by cases e⟩
  · show (envOf l n).ok _ _
    unfold envOf
    split
    · rename_i p hp
      exact (hl p (find_mem hp).1).2
    · trivial
  · have := hb _ (hbm k T d e)
    simp only at this
    split at this
    · exact this.2.2
    · exact this.elim
  · have h1 := hb _ (hbm k T d e)
    simp only at h1
    split at h1
    · rename_i T' d' hk
      obtain ⟨rfl, h2, -⟩ := h1
      obtain ⟨k1, k2, xs, k3, k4⟩ := hI.box k T' d' (by rw [hbx]; exact hk)
      exact ⟨k1, k2, xs, k3, RepC.imp hI hw (.inr fun _ _ h => h) (by rw [hτ]; exact h2) k4⟩
    · exact h1.elim
  · obtain ⟨u, hu, h1, h2⟩ := hmem _ _ hx
    obtain ⟨h3, h4, h5⟩ := hI.fpb u.1 u.2 x (by rw [hτ]; exact h1) h2
    exact ⟨h3, h4, fun i hi => h5 i (hbn i hi)⟩
  · obtain ⟨u, hu, h3, h4⟩ := hmem _ _ h1
    obtain ⟨u', hu', h5, h6⟩ := hmem _ _ h2
    have := hI.fpd u u' x (by rw [hτ]; exact h3) (by rw [hτ]; exact h5) h4 h6
    subst this
    exact hdis k k' u hu hu'
  · show RepV g' (envOf l n) _
    unfold envOf
    split
    · rename_i p hp
      obtain ⟨m1, e1⟩ := find_mem hp
      have := himp p m1
      rw [e1] at this
      exact RepV.imp hI hw (.inr fun _ _ h => h) (.inr rfl) this (hsl n hn)
    · trivial
end Go.Proofs.YtkcmapimcgppmaaGreatDoor
end
