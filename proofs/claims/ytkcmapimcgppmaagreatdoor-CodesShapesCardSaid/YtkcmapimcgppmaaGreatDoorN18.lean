/-
  What a law asks of the program and of the kit, over data: counts, what is lent with marks, parts, likeness. Conditions: no more than 2000000 nodes, levels, parts. Pieces of a function's code walked over states, one behind the other; states begun anew. Conditions: the table of types is the program's. Rules, their arguments, as plain data, as cells; lent ones, with marks behind all ends. Arguments, rules lent with marks behind all ends. Conditions: no more than 1000000 parts. Rows that are written over: what of memory turns, what stays; marks that were written. What a state tells of its slots and variables, in memory's own words; and back. Arguments, rules: likeness; what is lent is kept. Conditions: no more than 1000000 parts. How great tuples, cases, parts are; what a count that stays small tells. How great rules are, counted until a bound is passed; the law on what is moved, where it goes through nothing. Conditions: no more than 2000000 parts. Variables, places of recursive arguments: the program's, the document's. Conditions: no more than 100000. Functions over a row of types: the program's, the document's. Conditions: no more than 1000000 nodes, levels, parts; numbers that a word holds. Conditions: as each lemma states them.
-/
import Derived.Test.YtkcmapimcgppmaaGreatDoorN17
import Derived.Test.YtkcmapimcgppmaaGreatDoorN08
import Derived.Test.YtkcmapimcgppmaaGreatDoorN01
import Derived.Deep.MidRow
import Derived.Deep.Upon
import Derived.ArgAppend
import Derived.Laws.AppendOwn
set_option linter.all false
set_option linter.unusedVariables false
set_option linter.unusedSimpArgs false
set_option linter.unnecessarySimpa false
section
namespace Go.Proofs.YtkcmapimcgppmaaGreatDoor
open Go.RowKit

/-- Lent: terms, a term, with marks behind all ends. -/
def lentA (t : Ts) : AV := .c (.seg none (.row 5 26 (lentT ty t) (tDs ty (tMarks 1 12)) .nil) .nil)
theorem lentLv_good (l : List Lv) : (lentLv ty l).good := by
  induction l with
  | nil => trivial
  | cons p r ih => exact ⟨ptDs_good p, ptDs_good _, ih⟩
theorem lentT_good (t : Ts) : (lentT ty t).good := by
  induction t with
  | nil => trivial
  | cons h x r ihx ih => exact ⟨rfl, rfl, rfl, lentLv_good _, lvDs_good _, ihx, tDs_good _, ih⟩
theorem k7 (t : Ts) (hs : t.size ≤ 2000000) : HH 7 [tsA none t, iA 500] (iA (t.cnt 500 0)) := by
  refine ⟨code_of Tryz.func7 (by decide) rfl, rfl, fun F w vs hF hG hv => ?_⟩
  obtain ⟨u, v, rfl, h1, h2⟩ := list2 hv
  rw [iA_eq h2]
  refine (termsOf_any _ t u 500 w (Nat.lt_succ_self _) (tsA_rt hF h1) hs (by decide) (by decide)).mono ?_
  rintro e w' ⟨rfl, h5⟩
  exact ⟨_, fun _ => [], rfl, h5, rfl, fun k b hb => (by cases hb), fun k k' b hb => (by cases hb)⟩
theorem k10 (t : Ts) (hs : t.size ≤ 2000000) : HH 10 [tsA none t] (lentA t) := by
  refine ⟨code_of Tryz.func10 (by decide) rfl, rfl, fun F w vs hF hG hv => ?_⟩
  obtain ⟨u, rfl, h1⟩ := list1 hv
  refine (lentTerms_any _ t u w (Nat.lt_succ_self _) (tsA_rt hF h1) hs).mono ?_
  rintro e w' ⟨v, S, rfl, h5, h6, h7⟩
  exact ⟨v, fun _ => [], rfl, h5, ⟨⟨lentT_good t, tDs_good _, trivial⟩, [v], [], rfl, Vs.res (F := F) (fp := fun _ => []) (Nat.le_refl _) h6, Gh.Ow_none, rfl⟩, fun k b hb => (by cases hb), fun k k' b hb => (by cases hb)⟩
theorem k20 (t : Ts) : HH 20 [tsA none t, tsA none t] (.v (.bool true)) := by
  refine ⟨code_of Tryz.func20 (by decide) rfl, rfl, fun F w vs hF hG hv => ?_⟩
  obtain ⟨u, v, rfl, h1, h2⟩ := list2 hv
  refine (sameTerms_any _ t u v w (Nat.lt_succ_self _) (tsA_rt hF h1) (tsA_rt hF h2)).mono ?_
  rintro e w' ⟨rfl, h5⟩
  exact ⟨_, fun _ => [], rfl, h5, rfl, fun k b hb => (by cases hb), fun k k' b hb => (by cases hb)⟩
def fp1 (S : List Nat) : Tk → List Nat := fun k => if k = (0, 0) then S else []
theorem mem_fp1 {S : List Nat} {k : Tk} {b : Nat} : b ∈ fp1 S k ↔ k = (0, 0) ∧ b ∈ S := by
  unfold fp1
  by_cases h : k = (0, 0)
  · rw [if_pos h]; simp [h]
  · rw [if_neg h]; simp [h]
/-- A row of its own. -/
theorem k15 (t : Tm) (n : Int) (hf : t.fits) (hs : t.size ≤ 1000000) (hn : n ≤ 12) : HH 15 [tmL t, iA n] (tsA (some (0, 0)) (partsT n.toNat t)) := by
  refine ⟨code_of Tryz.func15 (by decide) rfl, rfl, fun F w vs hF hG hv => ?_⟩
  obtain ⟨u, v, rfl, h1, h2⟩ := list2 hv
  rw [iA_eq h2]
  refine (parts_any t u n w (tmA_rm hF h1) hf.1 hf.2 hs hn hG).mono ?_
  rintro e w' ⟨v, S, rfl, h5, h6, h7⟩
  obtain ⟨v', _, e2, h8, -⟩ := Vs.res (F := F) (fp := fp1 S) (Nat.le_refl _) h6
  cases e2
  refine ⟨v, fp1 S, rfl, h5, ⟨tDs_good _, v, [], rfl, h8, fun j e => ?_, rfl⟩, fun k b hb => ?_, fun k k' b h1 h2 => ?_⟩
  · cases e
    exact ⟨rfl, S, h6, h7, fun b hb => mem_fp1.2 ⟨rfl, hb⟩⟩
  · exact h6.mem b (mem_fp1.1 hb).2
  · rw [(mem_fp1.1 h1).1, (mem_fp1.1 h2).1]
end Go.Proofs.YtkcmapimcgppmaaGreatDoor
end
section
namespace Go.Proofs.YtkcmapimcgppmaaGreatDoor
open Go.RowKit

variable {P : Program} {G : World → Prop} {tb : TB} {N : Nat} {F0 : Mem} {w0 : World}

/-- What a piece of code must leave, to go on from a state. -/
def toK (G : World → Prop) (N : Nat) (st' : St) : Exit → St → Prop := fun e s => e = .normal ∧ Le G N s st'
theorem seq_state (hT : TbOk P tb) (hS : Stays G) (hm : P.follows .mixedOrders = true) {x y : Code} {Q : Exit → Act → World → Prop} {st st' : St} {a : Act} {w : World} (hs : Sat G F0 w0 N st a w) (h : acode P G tb N x (toK G N st') st)
    (k : ∀ a' w', Sat G F0 w0 N st' a' w' → y.wp P Q a' w') : (x.seq y).wp P Q a w := by
  refine wp_seq (wp_mono (acode_sound hT hS hm h F0 w0 a w hs) ?_)
  rintro e a' w' ⟨s, ⟨rfl, hle⟩, hs'⟩
  exact k a' w' (hle F0 w0 a' w' hs')
/-- A state begun anew: what lies is what stays; nothing is the call's own. -/
theorem rebase (hG : G w0) {st : St} {a : Act} (hok : ∀ t, (st.env t).ok (fun _ => none) (fun _ => none)) (hb : st.bx = fun _ => none) (hτ : st.τ = fun _ => none) (hsz : a.tmps.size = N) (hd : a.defers = []) (hx : ∀ t x, st.fx t = some x → a.tmps.getD t undef = x)
    (hr : ∀ t, t < N → RepV (argGh (U w0) w0) (st.env t) [a.tmps.getD t undef]) : Sat G (U w0) w0 N st a w0 := by
  refine ⟨⟨fun t => by rw [hb, hτ]; exact hok t, fun k T d e => by rw [hb] at e; cases e⟩, ⟨argGh (U w0) w0, rfl, ⟨fun _ _ _ h => h, Nat.le_refl _, fun k T d e => (by cases e), fun k k' h1 => (absurd rfl h1), fun k j b h1 => (absurd rfl h1), fun k k' b h1 => (absurd rfl h1)⟩, hb.symm, hτ.symm, rfl, fun _ _ _ => rfl, hr⟩, Below.refl _ _, hG, hsz, hd, hx⟩
/-- Where a function begins. -/
theorem start_sat (hG : G w0) {l : List AV} {vs : List Value} (hv : RepV (argGh (U w0) w0) (.list l) vs) (hN : l.length ≤ N) (hl : ∀ a ∈ l, a.ok (fun _ => none) (fun _ => none)) :
    Sat G (U w0) w0 N (startSt l) { tmps := vs.toArray ++ Array.replicate (N - vs.toArray.size) undef, defers := [] } w0 := by
  have hlen : ∀ (l : List AV) (vs : List Value), RepV (argGh (U w0) w0) (.list l) vs → vs.length = l.length ∧ ∀ t, RepV (argGh (U w0) w0) (l.getD t .junk) [vs.getD t undef] := by
    intro l
    induction l with
    | nil => intro vs h; rw [show vs = [] from h]; exact ⟨rfl, fun t => trivial⟩
    | cons a l ih =>
      rintro vs ⟨y, ys, rfl, h1, h2⟩
      obtain ⟨h3, h4⟩ := ih ys h2
      refine ⟨by simp [h3], fun t => ?_⟩
      cases t with
      | zero => exact h1
      | succ t => exact h4 t
  obtain ⟨hvl, hvs⟩ := hlen l vs hv
  refine rebase hG (fun t => ?_) rfl rfl (by simp; omega) rfl (fun t x e => by cases e) fun t ht => ?_
  · show (l.getD t .junk).ok _ _
    rw [List.getD_eq_getElem?_getD]
    cases ht : l[t]? with
    | none => trivial
    | some x => exact hl x (List.mem_of_getElem? ht)
  · have := hvs t
    have e : (vs.toArray ++ Array.replicate (N - vs.toArray.size) undef).getD t undef = vs.getD t undef := by
      rw [Array.getD_eq_getD_getElem?, Array.getElem?_append, List.getD_eq_getElem?_getD]
      by_cases h1 : t < vs.length
      · simp [h1]
      · have h2 : vs[t]? = none := List.getElem?_eq_none (by omega)
        simp only [List.size_toArray, h1, if_false, h2, Option.getD_none]
        rw [Array.getElem?_replicate]
        split <;> rfl
    show RepV _ (l.getD t .junk) [(vs.toArray ++ Array.replicate (N - vs.toArray.size) undef).getD t undef]
    rw [e]
    exact this
/-- A frame's slots, written out. -/
theorem arr_lit {n : Nat} {arr : Array Value} (h : arr.size = n) : arr = ((List.range n).map fun i => arr.getD i undef).toArray := by
  apply Array.ext_getElem?
  intro i
  subst h
  by_cases hi : i < arr.size
  · simp [hi]
  · simp [hi]
end Go.Proofs.YtkcmapimcgppmaaGreatDoor
end
section
namespace Go.Proofs.YtkcmapimcgppmaaGreatDoor
open Go.RowKit

/-- An argument of a rule: is it recursive, its type, its row, its member, its index. -/
structure Ag where
  r : Bool
  t : Tm
  e : Ts
  m : Int
  i : Ts
/-- A rule: its member, its arguments, its index. -/
structure Rl where
  m : Int
  g : List Ag
  i : Ts
def agDs : List Ag → Ds
  | [] => .nil
  | a :: r => .lit (.bool a.r) (.lit (.int .i64 a.t.h.k) (.lit (.int .i64 a.t.h.n) (.lit (.int .i64 a.t.h.a) (.row 1 43 (lvDs ty a.t.h.l) .nil (.row 5 26 (tDs ty a.t.x) .nil (.row 5 26 (tDs ty a.e) .nil (.lit (.int .i64 a.m) (.row 5 26 (tDs ty a.i) .nil (agDs r)))))))))
theorem agDs_len (l : List Ag) : (agDs l).len = l.length * 9 := by
  induction l with
  | nil => rfl
  | cons a r ih => simp [agDs, Ds.len, ih]; omega
theorem agDs_app (p q : List Ag) : agDs (p ++ q) = (agDs p).app (agDs q) := by
  induction p with
  | nil => rfl
  | cons a r ih => simp [agDs, Ds.app, ih]
def szAg (l : List Ag) : Nat := (l.map fun a => 1 + a.t.size + a.e.size + a.i.size).sum
/-- Cells of one. -/
def agC (a : Ag) : Dc := .lit (.bool a.r) (.lit (.int .i64 a.t.h.k) (.lit (.int .i64 a.t.h.n) (.lit (.int .i64 a.t.h.a) (.row none 1 43 (lvDs ty a.t.h.l) (.row none 5 26 (tDs ty a.t.x) (.row none 5 26 (tDs ty a.e) (.lit (.int .i64 a.m) (.row none 5 26 (tDs ty a.i) .nil))))))))
def agL (a : Ag) : AV := .agg (agC a)
def agsA (l : List Ag) : AV := .c (.row none 9 82 (agDs l) .nil)
def rlC (r : Rl) : Dc := .lit (.int .i64 r.m) (.row none 9 82 (agDs r.g) (.row none 5 26 (tDs ty r.i) .nil))
def rlL (r : Rl) : AV := .agg (rlC r)
/-- Lent ones. -/
def lentAgC (a : Ag) : Dc := .lit (.bool a.r) (.lit (.int .i64 a.t.h.k) (.lit (.int .i64 a.t.h.n) (.lit (.int .i64 a.t.h.a) (.seg none (.row 1 43 (lentLv ty a.t.h.l) (lvDs ty (lvMarks 1 12)) .nil) (.seg none (.row 5 26 (lentT ty a.t.x) (tDs ty (tMarks 1 12)) .nil) (.seg none (.row 5 26 (lentT ty a.e) (tDs ty (tMarks 1 12)) .nil) (.lit (.int .i64 a.m) (.seg none (.row 5 26 (lentT ty a.i) (tDs ty (tMarks 1 12)) .nil) .nil))))))))
end Go.Proofs.YtkcmapimcgppmaaGreatDoor
end
section
namespace Go.Proofs.YtkcmapimcgppmaaGreatDoor
open Go.RowKit
attribute [local simp] ty_p ty_l ty_t kH tDs lvDs Tm.ts finH elemH ac_skip ac_label ac_region ac_seq ac_cond ac_block ac_loop ac_exit ac_ret seqK_n seqK_r seqK_e vo_nil vo_cons blkK loopK callOf vout aout abuiltin aslice ev startSt nmOf St.out putE updo upd contOf freshC K0 asC fillD fieldOf rowD astore aapp srcOf elsOf tb Dc.tk Dc.dp Dc.over Dc.app Dc.ln Dc.ds Dc.sing Dc.cont AV.cont Ds.hd Value.oneCell' retK resOf one1 AV.imp Dc.imp φOf calleeOf AV.isLL AV.list AV.app AV.arg AV.isL AV.ren Dc.ren Dc.lent tmC tmA tsA iA lo? abin AV.nth Dc.own Dc.toks stOf envOf bxOf τOf
attribute [local simp] AV.room amake agC lentAgC

theorem Ds.tk_app (x y : Ds) : (x.app y).tk x.len = x := by
  induction x with
  | nil => cases y <;> rfl
  | lit v r ih => simp [Ds.app, Ds.len, Ds.tk, ih]
  | row sz e x s r _ _ ih => simp [Ds.app, Ds.len, Ds.tk, ih]
theorem take_ag {l : List Ag} {k : Nat} (h : k < l.length) : l.take (k + 1) = l.take k ++ [l[k]] := (List.take_append_getElem h).symm
theorem dp_ag {l : List Ag} {k : Nat} (h : k < l.length) : (agDs l).dp (k * 9) = agDs (l[k] :: l.drop (k + 1)) := by
  have e : l = l.take k ++ (l[k] :: l.drop (k + 1)) := by rw [← List.drop_eq_getElem_cons h, List.take_append_drop]
  have h2 : (agDs (l.take k)).len = k * 9 := by rw [agDs_len, List.length_take]; congr 1; omega
  conv => lhs; rw [e, agDs_app, ← h2, Ds.dp_app]
theorem szAg_app (a b : List Ag) : szAg (a ++ b) = szAg a + szAg b := by simp [szAg]
theorem szAg_at {l : List Ag} {k : Nat} (h : k < l.length) : 1 + l[k].t.size + l[k].e.size + l[k].i.size ≤ szAg l := by
  have e : l = l.take k ++ (l[k] :: l.drop (k + 1)) := by rw [← List.drop_eq_getElem_cons h, List.take_append_drop]
  have e2 : szAg l = szAg (l.take k) + szAg (l[k] :: l.drop (k + 1)) := by rw [← szAg_app, ← e]
  rw [e2]
  have : szAg (l[k] :: l.drop (k + 1)) = 1 + l[k].t.size + l[k].e.size + l[k].i.size + szAg (l.drop (k + 1)) := by
    simp only [szAg, List.map_cons, List.sum_cons]
  omega
end Go.Proofs.YtkcmapimcgppmaaGreatDoor
end
section
namespace Go.Proofs.YtkcmapimcgppmaaGreatDoor
open Go.RowKit

/-- From one world to another only blocks of X turn, and none whose cells are of type em. -/
structure Tn (em : Nat) (X : Nat → Prop) (w w' : World) : Prop where
  os : w'.os = w.os
  tape : w'.tape = w.tape
  output : w'.output = w.output
  size : w.heap.size ≤ w'.heap.size
  block : ∀ b, b < w.heap.size → ¬ X b → w'.heap[b]? = w.heap[b]?
  keep : ∀ (b : Nat) (cur : Array Value) (fz : Nat × Nat), w.heap[b]? = some (Obj.cells cur em fz) → w'.heap[b]? = some (Obj.cells cur em fz)
theorem Tn.refl (em : Nat) (X : Nat → Prop) (w : World) : Tn em X w w := ⟨rfl, rfl, rfl, Nat.le_refl _, fun _ _ _ => rfl, fun _ _ _ h => h⟩
theorem Tn.trans {em : Nat} {X : Nat → Prop} {a b c : World} (h : Tn em X a b) (k : Tn em X b c) : Tn em X a c :=
  ⟨k.os.trans h.os, k.tape.trans h.tape, k.output.trans h.output, Nat.le_trans h.size k.size, fun i hi hx => (k.block i (Nat.lt_of_lt_of_le hi h.size) hx).trans (h.block i hi hx), fun i c f e => k.keep i c f (h.keep i c f e)⟩
theorem Tn.mono {em : Nat} {X Y : Nat → Prop} {w w' : World} (h : Tn em X w w') (hxy : ∀ i, i < w.heap.size → X i → Y i) : Tn em Y w w' :=
  ⟨h.os, h.tape, h.output, h.size, fun i hi hy => h.block i hi (fun hx => hy (hxy i hi hx)), h.keep⟩
theorem heap_lt {w : World} {b : Nat} {o : Obj} (h : w.heap[b]? = some o) : b < w.heap.size := (Array.getElem?_eq_some_iff.1 h).1
theorem Tn.of_below {em : Nat} {X : Nat → Prop} {w w' : World} (h : Below w.heap.size w w') : Tn em X w w' :=
  ⟨h.os, h.tape, h.output, h.size, fun b hb _ => h.block b hb, fun b _ _ e => by rw [h.block b (heap_lt e)]; exact e⟩
theorem Tn.below {em : Nat} {X : Nat → Prop} {w w' : World} (h : Tn em X w w') {B : Nat} (hB : B ≤ w.heap.size) (hx : ∀ b, X b → B ≤ b) : Below B w w' :=
  ⟨h.os, h.tape, h.output, h.size, fun b hb => h.block b (Nat.lt_of_lt_of_le hb hB) (fun h1 => by have := hx b h1; omega)⟩

/-- Cells put into a block. -/
theorem setCells_heap {g : Nat} {t : TypeId} : ∀ (vs : List Value) (o : Nat) (cur : Array Value) (w : World), w.heap[g]? = some (Obj.cells cur t (0, 0)) → o + vs.length ≤ cur.size →
    ∃ cur', (w.setCells g o vs).heap[g]? = some (Obj.cells cur' t (0, 0)) ∧ cur'.size = cur.size ∧ (∀ p, p < o ∨ o + vs.length ≤ p → cur'[p]? = cur[p]?) ∧ ∀ j, j < vs.length → cur'[o + j]? = vs[j]?
  | [], o, cur, w, hg, _ => ⟨cur, hg, rfl, fun _ _ => rfl, fun j hj => by simp at hj⟩
  | v :: vs, o, cur, w, hg, hl => by
    simp only [List.length_cons] at hl
    have h1 : (w.setCell ⟨g, o, none⟩ v).heap[g]? = some (Obj.cells (cur.setIfInBounds o v) t (0, 0)) := by
      rw [setCell_eq_setRow w g o cur t (0, 0) v hg]; exact setRow_heap w g cur _ t _ hg
    obtain ⟨cur', h2, h3, h4, h5⟩ := setCells_heap vs (o + 1) _ _ h1 (by rw [Array.size_setIfInBounds]; omega)
    refine ⟨cur', h2, by rw [h3, Array.size_setIfInBounds], fun p hp => ?_, fun j hj => ?_⟩
    · simp only [List.length_cons] at hp
      rw [h4 p (by omega), Array.getElem?_setIfInBounds, if_neg (by omega)]
    · cases j with
      | zero => rw [Nat.add_zero, h4 o (by omega), Array.getElem?_setIfInBounds, if_pos rfl, if_pos (by omega)]; rfl
      | succ j =>
        have := h5 j (by simp at hj; omega)
        rw [show o + (j + 1) = o + 1 + j by omega, this]; rfl
theorem setCells_size (w : World) (g o : Nat) (vs : List Value) : (w.setCells g o vs).heap.size = w.heap.size := by
  induction vs generalizing o w with
  | nil => rfl
  | cons v vs ih => rw [World.setCells, ih]; simp [World.setCell]
theorem setCells_tape (w : World) (g o : Nat) (vs : List Value) : (w.setCells g o vs).tape = w.tape := by
  induction vs generalizing o w with
  | nil => rfl
  | cons v vs ih => rw [World.setCells, ih]; rfl
theorem setCells_other {w : World} {g o i : Nat} {vs : List Value} (hne : i ≠ g) : (w.setCells g o vs).heap[i]? = w.heap[i]? := by
  induction vs generalizing o w with
  | nil => rfl
  | cons v vs ih => rw [World.setCells, ih]; exact Below.heap_setCell _ _ _ _ (by simpa using hne)
theorem setCells_tn {em e : Nat} {w : World} {g o : Nat} {cur : Array Value} (vs : List Value) (hg : w.heap[g]? = some (Obj.cells cur e (0, 0))) (he : e ≠ em) : Tn em (fun b => b = g) w (w.setCells g o vs) :=
  ⟨World.os_setCells _ _ _ _, setCells_tape _ _ _ _, World.output_setCells _ _ _ _, by rw [setCells_size]; exact Nat.le_refl _, fun b _ hb => setCells_other hb, fun b c f h => by
    by_cases e1 : b = g
    · subst e1; rw [hg] at h; cases h; exact absurd rfl he
    · rw [setCells_other e1]; exact h⟩
theorem there_of {w : World} {g o n : Nat} {cur : Array Value} {t : TypeId} (hg : w.heap[g]? = some (Obj.cells cur t (0, 0))) (hl : o + n ≤ cur.size) : w.there g o n := fun j hj =>
  ⟨by simp [World.cell?, hg]; omega, by simp [World.frozen?, hg]⟩
/-- A kind of elements: their type, how many cells, of what type the blocks are that a mark leads to; the cells of a mark. -/
structure Kd where
  e : Nat
  sz : Nat
  em : Nat
  cel : World → Int → List Value → Prop
structure Kd.Ok (K : Kd) : Prop where
  ne : K.e ≠ K.em
  pos : 0 < K.sz
  len : ∀ w M xs, K.cel w M xs → xs.length = K.sz
  one : ∀ w M xs, K.cel w M xs → ∀ u ∈ xs, u.oneCell' = true
  on : ∀ w w' M xs, (∀ (b : Nat) (cur : Array Value) (fz : Nat × Nat), w.heap[b]? = some (Obj.cells cur K.em fz) → w'.heap[b]? = some (Obj.cells cur K.em fz)) → K.cel w M xs → K.cel w' M xs
/-- The number of a mark. -/
def mk (k i : Nat) : Int := 1000003 * ((k : Int) + 7) + i
/-- The first d elements are marks of row k. -/
def Mkd (K : Kd) (w : World) (cur : Array Value) (d k : Nat) : Prop := ∀ i, i < d → ∃ xs, K.cel w (mk k i) xs ∧ ∀ j, j < xs.length → cur[i * K.sz + j]? = xs[j]?
theorem Mkd.on {K : Kd} (hK : K.Ok) {X : Nat → Prop} {w w' : World} {cur : Array Value} {d k : Nat} (h : Mkd K w cur d k) (ht : Tn K.em X w w') : Mkd K w' cur d k := fun i hi => by
  obtain ⟨xs, h1, h2⟩ := h i hi
  exact ⟨xs, hK.on _ _ _ _ ht.keep h1, h2⟩
/-- The same cells at the head. -/
theorem Mkd.head {K : Kd} (hK : K.Ok) {w : World} {cur cur' : Array Value} {d k : Nat} (h : Mkd K w cur d k) (hc : ∀ p, p < d * K.sz → cur'[p]? = cur[p]?) : Mkd K w cur' d k := fun i hi => by
  obtain ⟨xs, h1, h2⟩ := h i hi
  refine ⟨xs, h1, fun j hj => ?_⟩
  have hl := hK.len _ _ _ h1
  have : (i + 1) * K.sz ≤ d * K.sz := Nat.mul_le_mul_right _ hi
  rw [hc _ (by rw [Nat.add_mul] at this; omega)]
  exact h2 j hj
/-- One more. -/
theorem Mkd.next {K : Kd} {w : World} {cur : Array Value} {d k : Nat} {xs : List Value} (h : Mkd K w cur d k) (hx : K.cel w (mk k d) xs) (hc : ∀ j, j < xs.length → cur[d * K.sz + j]? = xs[j]?) : Mkd K w cur (d + 1) k := fun i hi => by
  by_cases e : i = d
  · subst e; exact ⟨xs, hx, hc⟩
  · exact h i (by omega)

/-- A row that may be written (from block lo on), of which the first d elements are marks of row k. -/
def RowI (K : Kd) (lo : Nat) (w : World) (v : Value) (d k : Nat) : Prop :=
  (∃ p, v = .slice p 0 0 ∧ d = 0) ∨ ∃ g n cap cur, v = .slice (some ⟨g, 0, none⟩) n cap ∧ lo ≤ g ∧ w.heap[g]? = some (Obj.cells cur K.e (0, 0)) ∧ n ≤ cap ∧ 0 < cap ∧ cap ≤ maxLen ∧ cur.size = cap * K.sz ∧ d ≤ n ∧ Mkd K w cur d k
/-- The block of a row that has room. -/
def vb : Value → Option Nat
  | .slice (some a) _ (_ + 1) => some a.block
  | _ => none
theorem vb_of {g n cap : Nat} (h : 0 < cap) : vb (.slice (some ⟨g, 0, none⟩) n cap) = some g := by
  cases cap with
  | zero => omega
  | succ c => rfl
theorem RowI.lt {K : Kd} {lo : Nat} {w : World} {v : Value} {d k : Nat} (h : RowI K lo w v d k) {b : Nat} (hb : vb v = some b) : lo ≤ b ∧ b < w.heap.size := by
  rcases h with ⟨p, rfl, -⟩ | ⟨g, n, cap, cur, rfl, h1, h2, h3, h4, -⟩
  · cases p <;> cases hb
  · rw [vb_of h4] at hb; cases hb; exact ⟨h1, heap_lt h2⟩
theorem RowI.on {K : Kd} (hK : K.Ok) {X : Nat → Prop} {lo : Nat} {w w' : World} {v : Value} {d k : Nat} (h : RowI K lo w v d k) (ht : Tn K.em X w w') (hx : ∀ (b : Nat) (cur : Array Value), w.heap[b]? = some (Obj.cells cur K.e (0, 0)) → vb v = some b → ¬ X b) : RowI K lo w' v d k := by
  rcases h with h | ⟨g, n, cap, cur, rfl, h1, h2, h3, h4, h5, h6, h7, h8⟩
  · exact .inl h
  · exact .inr ⟨g, n, cap, cur, rfl, h1, by rw [ht.block g (heap_lt h2) (hx g cur h2 (vb_of h4))]; exact h2, h3, h4, h5, h6, h7, h8.on hK ht⟩
theorem RowI.start {K : Kd} {lo : Nat} {w : World} {v : Value} {d k k' : Nat} (h : RowI K lo w v d k) : RowI K lo w v 0 k' := by
  rcases h with ⟨p, rfl, -⟩ | ⟨g, n, cap, cur, rfl, h1, h2, h3, h4, h5, h6, h7, h8⟩
  · exact .inl ⟨p, rfl, rfl⟩
  · exact .inr ⟨g, n, cap, cur, rfl, h1, h2, h3, h4, h5, h6, Nat.zero_le _, fun i hi => by omega⟩
/-- An element is written. -/
theorem RowI.set {K : Kd} (hK : K.Ok) {lo : Nat} {w : World} {g n cap d k : Nat} {xs : List Value} (h : RowI K lo w (.slice (some ⟨g, 0, none⟩) n cap) d k) (hd : d < n) (hx : K.cel w (mk k d) xs) :
    w.there g (d * K.sz) K.sz ∧ RowI K lo (w.setCells g (d * K.sz) xs) (.slice (some ⟨g, 0, none⟩) n cap) (d + 1) k ∧ Tn K.em (fun b => b = g) w (w.setCells g (d * K.sz) xs) := by
  rcases h with ⟨p, e, -⟩ | ⟨g, n, cap, cur, e, h1, h2, h3, h4, h5, h6, h7, h8⟩
  · cases e; omega
  · cases e
    have hl := hK.len _ _ _ hx
    have hm : (d + 1) * K.sz ≤ cap * K.sz := Nat.mul_le_mul_right _ (by omega)
    rw [Nat.add_mul, Nat.one_mul] at hm
    have ht := setCells_tn (em := K.em) (o := d * K.sz) xs h2 hK.ne
    obtain ⟨cur', e1, e2, e3, e4⟩ := setCells_heap xs (d * K.sz) cur w h2 (by omega)
    refine ⟨there_of h2 (by omega), .inr ⟨g, n, cap, cur', rfl, h1, e1, h3, h4, h5, by rw [e2, h6], hd, ?_⟩, ht⟩
    exact ((h8.on hK ht).head hK (fun p hp => e3 p (.inl hp))).next (hK.on _ _ _ _ ht.keep hx) e4
/-- All rows of a list; how far each is marked. -/
def RowsG (K : Kd) (lo : Nat) (w : World) (vs : List Value) (d : Nat → Nat) : Prop := ∀ k v, vs[k]? = some v → RowI K lo w v (d k) k
/-- They lie apart. -/
def Dist (vs : List Value) : Prop := ∀ (k k' : Nat) (v v' : Value) (b : Nat), vs[k]? = some v → vs[k']? = some v' → vb v = some b → vb v' = some b → k = k'
/-- Their blocks. -/
def InV (vs : List Value) (b : Nat) : Prop := ∃ v ∈ vs, vb v = some b
theorem RowsG.set {K : Kd} (hK : K.Ok) {lo : Nat} {w : World} {vs : List Value} (hD : Dist vs) {d : Nat → Nat} (h : RowsG K lo w vs d) {k g n cap : Nat} {xs : List Value} (hv : vs[k]? = some (.slice (some ⟨g, 0, none⟩) n cap)) (hd : d k < n) (hx : K.cel w (mk k (d k)) xs) :
    w.there g (d k * K.sz) K.sz ∧ RowsG K lo (w.setCells g (d k * K.sz) xs) vs (fun j => if j = k then d k + 1 else d j) ∧ Tn K.em (InV vs) w (w.setCells g (d k * K.sz) xs) := by
  have hr := h k _ hv
  have hcap : 0 < cap := by
    rcases hr with ⟨p, e, -⟩ | ⟨_, _, _, _, e, _, _, _, h4, -⟩
    · cases e; omega
    · cases e; exact h4
  obtain ⟨h1, h2, h3⟩ := hr.set hK hd hx
  refine ⟨h1, fun j v hj => ?_, h3.mono fun b _ e => ⟨_, List.mem_of_getElem? hv, by rw [e]; exact vb_of hcap⟩⟩
  by_cases e : j = k
  · subst e
    rw [hv] at hj; cases hj
    show RowI _ _ _ _ (if j = j then _ else _) _
    rw [if_pos rfl]; exact h2
  · show RowI _ _ _ _ (if j = k then _ else _) _
    rw [if_neg e]
    exact (h j v hj).on hK h3 fun b _ _ hb e2 => e (hD j k v _ b hj hv hb (by rw [e2]; exact vb_of hcap))
theorem RowsG.on {K : Kd} (hK : K.Ok) {X : Nat → Prop} {lo : Nat} {w w' : World} {vs : List Value} {d : Nat → Nat} (h : RowsG K lo w vs d) (ht : Tn K.em X w w') (hx : ∀ (b : Nat) (cur : Array Value), w.heap[b]? = some (Obj.cells cur K.e (0, 0)) → InV vs b → ¬ X b) : RowsG K lo w' vs d := fun k v hv =>
  (h k v hv).on hK ht fun b cur hc hb => hx b cur hc ⟨v, List.mem_of_getElem? hv, hb⟩
end Go.Proofs.YtkcmapimcgppmaaGreatDoor
end
section
namespace Go.Proofs.YtkcmapimcgppmaaGreatDoor
open Go.RowKit

/-- A variable in memory, of a type. -/
def Box (w : World) (b : Nat) (T : Nat) (cs : Array Value) : Prop := w.heap[b]? = some (Obj.cells cs T (0, 0))
theorem Box.on {w w' : World} {b T : Nat} {cs : Array Value} (h : Box w b T cs) (hb : Below w.heap.size w w') : Box w' b T cs := by
  unfold Box at *
  rw [hb.block b (heap_lt h)]; exact h
theorem RLent.plain {w : World} {v : Value} {h : Hd} {x : Ts} (hr : RLent w v h x) : RM ty w v h x := by
  obtain ⟨q, n, c, r, m, d, rfl, h1, h2⟩ := hr
  refine ⟨q, n, c, r, m, d, rfl, h1.lentLv_plain, ?_⟩
  have := h2.strip
  rw [lentT_strip] at this
  exact this
theorem lit5 {g : Gh} {k j : Option Tk} {h : Hd} {x : Ts} {xs : List Value} (hr : RepC g (tmC k j h x) xs) : ∃ q m d q' m' d', xs = [.int .i64 h.k, .int .i64 h.n, .int .i64 h.a, .slice q m d, .slice q' m' d'] := by
  obtain ⟨-, _, rfl, -, _, rfl, -, _, rfl, -, v1, _, rfl, h1, -, -, v2, _, rfl, h2, -, rfl⟩ := hr
  obtain ⟨p, n, c, rfl, -⟩ := id h1
  obtain ⟨p', n', c', rfl, -⟩ := id h2
  exact ⟨_, _, _, _, _, _, rfl⟩
theorem Box.cell {w : World} {b T : Nat} {cs : Array Value} (h : Box w b T cs) {o : Nat} {v : Value} (hv : cs[o]? = some v) : w.cell? ⟨b, o, none⟩ = some v := by
  have h' : w.heap[b]? = _ := h
  simp [World.cell?, h', hv]
theorem Box.below {w w' : World} {B b T : Nat} {cs : Array Value} (h : Box w b T cs) (hb : Below B w w') (hlt : b < B) : Box w' b T cs := by
  unfold Box at *
  rw [hb.block b hlt]; exact h
theorem own_slice {w : World} {base sz e : Nat} {x : Ds} {v : Value} {S : List Nat} (h : Own w base (.row sz e x .nil .nil) [v] S) : ∃ p n c, v = .slice p n c := by
  obtain ⟨_, _, ks, sp, B, T1, T2, T3, e, k1, -⟩ := h
  cases e
  rcases k1 with ⟨p, rfl, -⟩ | ⟨g, n', cap, cur, rfl, rfl, -⟩
  · exact ⟨_, _, _, rfl⟩
  · exact ⟨_, _, _, rfl⟩
/-- A variable of the call's own, out of a state. -/
theorem sat_box {g : Gh} (hI : Inv g) {k T : Nat} {d : Dc} (h : g.st.bx k = some (T, d)) : ∃ xs, Box g.w (g.B k) T xs.toArray ∧ RepC g d xs := by
  obtain ⟨-, -, xs, h1, h2⟩ := hI.box k T d h
  exact ⟨xs, h1, h2⟩
end Go.Proofs.YtkcmapimcgppmaaGreatDoor
end
section
namespace Go.Proofs.YtkcmapimcgppmaaGreatDoor
open Go.RowKit
attribute [local simp] ty_p ty_l ty_t kH tDs lvDs Tm.ts finH elemH ac_skip ac_label ac_region ac_seq ac_cond ac_block ac_loop ac_exit ac_ret seqK_n seqK_r seqK_e vo_nil vo_cons blkK loopK callOf vout aout abuiltin aslice ev startSt nmOf St.out putE updo upd contOf freshC K0 asC fillD fieldOf rowD astore aapp srcOf elsOf tb Dc.tk Dc.dp Dc.over Dc.app Dc.ln Dc.ds Dc.sing Dc.cont AV.cont Ds.hd Value.oneCell' retK resOf one1 AV.imp Dc.imp φOf calleeOf AV.isLL AV.list AV.app AV.arg AV.isL AV.ren Dc.ren Dc.lent tmC tmA tsA iA lo? abin AV.nth Dc.own Dc.toks stOf envOf bxOf τOf
attribute [local simp] AV.room amake agC lentAgC Ds.len

end Go.Proofs.YtkcmapimcgppmaaGreatDoor
end
section
namespace Go.Proofs.YtkcmapimcgppmaaGreatDoor
open Go.RowKit

theorem ts_size (t : Tm) : t.ts.size = 1 + t.size := by simp only [Tm.ts, Ts.size, Tm.size]; omega
theorem foldz_size (k : Int) (z : Hd) (hz : z.l = []) : ∀ r : Ts, (fold k z r).ts.size ≤ 2 * r.size + 1
  | .nil => by simp [fold, Tm.ts, Ts.size, hz, lvSize]
  | .cons h x .nil => by simp only [fold, Tm.ts, Ts.size]; omega
  | .cons h x (.cons h' x' r) => by
    have ih := foldz_size k z hz (.cons h' x' r)
    simp only [fold, Tm.ts, Ts.size, kH, lvSize] at ih ⊢
    omega
theorem tup_size (r : Ts) : (tup r).ts.size ≤ 2 * r.size + 1 := foldz_size 12 (finH 1) rfl r
theorem case_size (p : Tm) (b : Ts) (x : Tm) : (caseT p b x).ts.size = 3 + p.size + b.size + x.size := by
  have := size_app b x.ts
  rw [ts_size] at this
  simp only [caseT, Tm.ts, Ts.size, lvSize, Tm.size] at this ⊢
  omega
theorem parts_size : ∀ (n : Nat) (t : Tm), (partsT n t).size ≤ n * (t.size + n + 3)
  | 0, t => by simp [partsT, Ts.size]
  | 1, t => by simp only [partsT, ts_size]; omega
  | n + 2, t => by
    have ih := parts_size (n + 1) ⟨kH 15, t.ts⟩
    rw [kid_size] at ih
    obtain ⟨z, hz⟩ : ∃ z, (partsT (n + 1) ⟨kH 15, t.ts⟩).size = z := ⟨_, rfl⟩
    rw [hz] at ih
    have e0 : (partsT (n + 2) t).size = 1 + 0 + (1 + t.size) + z := by
      rw [← hz, ← ts_size]; rfl
    rw [e0]
    have e1 : t.size + 1 + (n + 1) + 3 = t.size + (n + 2) + 3 := by omega
    rw [e1] at ih
    have e2 : (n + 2) * (t.size + (n + 2) + 3) = (n + 1) * (t.size + (n + 2) + 3) + (t.size + (n + 2) + 3) := by rw [show n + 2 = (n + 1) + 1 by rfl, Nat.add_mul, Nat.one_mul]
    omega
theorem len_le_size (t : Ts) : t.len ≤ t.size := by
  induction t with
  | nil => exact Nat.le_refl _
  | cons h x r _ ih => simp only [Ts.len, Ts.size]; omega
end Go.Proofs.YtkcmapimcgppmaaGreatDoor
end
section
namespace Go.Proofs.YtkcmapimcgppmaaGreatDoor
open Go.RowKit
attribute [local simp] ty_p ty_l ty_t kH tDs lvDs Tm.ts finH elemH ac_skip ac_label ac_region ac_seq ac_cond ac_block ac_loop ac_exit ac_ret seqK_n seqK_r seqK_e vo_nil vo_cons blkK loopK callOf vout aout abuiltin aslice ev startSt nmOf St.out putE updo upd contOf freshC K0 asC fillD fieldOf rowD astore aapp srcOf elsOf tb Dc.tk Dc.dp Dc.over Dc.app Dc.ln Dc.ds Dc.sing Dc.cont AV.cont Ds.hd Value.oneCell' retK resOf one1 AV.imp Dc.imp φOf calleeOf AV.isLL AV.list AV.app AV.arg AV.isL AV.ren Dc.ren Dc.lent tmC tmA tsA iA lo? abin AV.nth Dc.own Dc.toks stOf envOf bxOf τOf
attribute [local simp] AV.room amake agC lentAgC Ds.len Ds.dp

/-- Places of recursive arguments. -/
def recsI : List Ag → Nat → List Int
  | [], _ => []
  | a :: r, k => if a.r then (k : Int) :: recsI r (k + 1) else recsI r (k + 1)
def inDs : List Int → Ds
  | [] => .nil
  | n :: r => .lit (.int .i64 n) (inDs r)
theorem inDs_len (l : List Int) : (inDs l).len = l.length := by
  induction l with
  | nil => rfl
  | cons a r ih => simp [inDs, Ds.len, ih]
theorem inDs_app (p q : List Int) : inDs (p ++ q) = (inDs p).app (inDs q) := by
  induction p with
  | nil => rfl
  | cons a r ih => simp [inDs, Ds.app, ih]
/-- Variables. -/
def varsT (far : Int) : Nat → Ts
  | 0 => .nil
  | n + 1 => .cons ⟨1, IntKind.i64.wrap (far + n), 0, []⟩ .nil (varsT far n)
end Go.Proofs.YtkcmapimcgppmaaGreatDoor
end
section
namespace Go.Proofs.YtkcmapimcgppmaaGreatDoor
open Go.RowKit
attribute [local simp] ty_p ty_l ty_t kH tDs lvDs Tm.ts finH elemH ac_skip ac_label ac_region ac_seq ac_cond ac_block ac_loop ac_exit ac_ret seqK_n seqK_r seqK_e vo_nil vo_cons blkK loopK callOf vout aout abuiltin aslice ev startSt nmOf St.out putE updo upd contOf freshC K0 asC fillD fieldOf rowD astore aapp srcOf elsOf tb Dc.tk Dc.dp Dc.over Dc.app Dc.ln Dc.ds Dc.sing Dc.cont AV.cont Ds.hd Value.oneCell' retK resOf one1 AV.imp Dc.imp φOf calleeOf AV.isLL AV.list AV.app AV.arg AV.isL AV.ren Dc.ren Dc.lent tmC tmA tsA iA lo? abin AV.nth Dc.own Dc.toks stOf envOf bxOf τOf
attribute [local simp] AV.room amake agC lentAgC Ds.len Ds.dp

theorem varsT_len (f : Int) : ∀ n, (varsT f n).len = n
  | 0 => rfl
  | n + 1 => by simp [varsT, Ts.len, varsT_len f n]
theorem varsT_at (f : Int) : ∀ (n k : Nat), k < n → (varsT f n).hd k = ⟨1, IntKind.i64.wrap (f + (n - 1 - k : Nat)), 0, []⟩ ∧ (varsT f n).kd k = .nil
  | n + 1, 0, _ => ⟨by simp [varsT, Ts.hd], rfl⟩
  | n + 1, k + 1, h => by
    have := varsT_at f n k (by omega)
    simp only [varsT, Ts.hd, Ts.kd]
    rw [this.1, this.2, show n + 1 - 1 - (k + 1) = n - 1 - k by omega]
    exact ⟨rfl, rfl⟩
theorem g175 (n : Int) : HH 175 [iA n] (.agg (.lit (.int .i64 1) (.lit (.int .i64 n) (.lit (.int .i64 0) (.nilr 1 43 (.nilr 5 26 .nil)))))) := by
  refine ab Tryz.func175 Tryz.ntmps175 Tryz.results175 rfl (by decide) (by simp) rfl rfl ?_
  simp
  exact ⟨[], by simp⟩
def st110 (n k : Nat) : St := stOf [(0, iA n), (1, iA 0), (4, .c (.blk 21 (k + 1) 5 26 (.seg none (tDs ty ((varsT 0 n).take k)) .nil) .nil)), (7, iA n), (8, iA k)] [] [(21, k + 1)]
theorem k110 (n : Nat) (hn : n ≤ 100000) : HH 110 [iA n, iA 0] (tsA none (varsT 0 n)) := by
  refine ab Tryz.func110 Tryz.ntmps110 Tryz.results110 rfl (by decide) (by simp) rfl rfl ?_
  have h0 : ¬ (n : Int) < 0 := by omega
  simp [h0]
  refine lp (α := { k : Nat // k ≤ n }) (fun k => st110 n k.1) (fun k => n - k.1) ⟨0, Nat.zero_le _⟩ ?_ ?_
  · refine le_of [] ?_ ?_ ?_ <;> simp [AV.ok, Dc.ok, Ts.take]
  · rintro ⟨k, hk⟩
    by_cases hlt : k < n
    · have w1 : IntKind.i64.wrap (n : Int) = n := by rw [IntKind.wrap_i64]; omega
      have w2 : IntKind.i64.wrap ((n : Int) - 1) = n - 1 := by rw [IntKind.wrap_i64]; omega
      have w3 : IntKind.i64.wrap ((n : Int) - 1 - k) = n - 1 - k := by rw [IntKind.wrap_i64]; omega
      have hw : IntKind.i64.wrap ((k : Int) + 1) = k + 1 := by rw [IntKind.wrap_i64]; omega
      have e0 : 0 + (n - 1 - k : Nat) = (n : Int) - 1 - k := by omega
      simp [st110, hlt, w1, w2, w3, hw]
      refine ⟨by rw [tDs_len, Ts.take_len_le (by rw [varsT_len]; omega)]; omega, k + 1, by omega, by omega, ?_⟩
      refine le_of [((21, 0), [(21, 0)])] ?_ ?_ ?_ <;> simp [AV.ok, Dc.ok]
      obtain ⟨v1, v2⟩ := varsT_at 0 n k hlt
      rw [Ts.take_succ (by rw [varsT_len]; exact hlt), v1, v2, e0, w3, Ts.snoc, tDs_app]; rfl
    · obtain rfl : k = n := by omega
      have e1 : Ts.take k (varsT 0 k) = varsT 0 k := by have := Ts.take_len (varsT 0 k); rwa [varsT_len] at this
      simp [st110, e1, Ds.app_nil]
      exact ⟨[], by simp⟩
def st117 (n k : Nat) : St := stOf [(0, iA n), (1, iA 0), (5, .c (.blk 22 (k + 1) 5 26 (.seg none (tDs ty ((varsT 0 n).take k)) .nil) .nil)), (6, iA ((n : Int) - 1 - k))] [] [(22, k + 1)]
theorem k117 (n : Nat) (hn : n ≤ 100000) : HH 117 [iA n, iA 0] (tsA none (varsT 0 n)) := by
  refine ab Tryz.func117 Tryz.ntmps117 Tryz.results117 rfl (by decide) (by simp) rfl rfl ?_
  by_cases h0 : n = 0
  · subst h0
    simp [varsT]
    exact ⟨[], by simp⟩
  have h1 : ¬ (n : Int) < 1 := by omega
  have w0 : IntKind.i64.wrap ((n : Int) - 1) = n - 1 := by rw [IntKind.wrap_i64]; omega
  simp [h1, w0]
  refine lp (α := { k : Nat // k ≤ n }) (fun k => st117 n k.1) (fun k => n - k.1) ⟨0, Nat.zero_le _⟩ ?_ ?_
  · refine le_of [] ?_ ?_ ?_ <;> simp [AV.ok, Dc.ok, Ts.take]
  · rintro ⟨k, hk⟩
    by_cases hlt : k < n
    · have w3 : IntKind.i64.wrap ((n : Int) - 1 - k) = n - 1 - k := by rw [IntKind.wrap_i64]; omega
      have w4 : IntKind.i64.wrap ((n : Int) - 1 - k - 1) = n - 1 - (k + 1) := by rw [IntKind.wrap_i64]; omega
      have e0 : 0 + (n - 1 - k : Nat) = (n : Int) - 1 - k := by omega
      have h2 : (k : Int) ≤ (n : Int) - 1 := by omega
      simp [st117, h2, w3]
      refine asks (g175 ((n : Int) - 1 - k)) ?_ ?_ ?_ <;> simp [w3]
      refine ⟨by rw [tDs_len, Ts.take_len_le (by rw [varsT_len]; omega)]; omega, k + 1, by omega, by omega, ?_⟩
      refine le_of [((22, 0), [(22, 0)])] ?_ ?_ ?_ <;> simp [AV.ok, Dc.ok, w4]
      obtain ⟨v1, v2⟩ := varsT_at 0 n k hlt
      rw [Ts.take_succ (by rw [varsT_len]; exact hlt), v1, v2, e0, w3, Ts.snoc, tDs_app]; rfl
    · obtain rfl : k = n := by omega
      have e1 : Ts.take k (varsT 0 k) = varsT 0 k := by have := Ts.take_len (varsT 0 k); rwa [varsT_len] at this
      have h2 : ¬ (k : Int) ≤ (k : Int) - 1 := by omega
      simp [st117, e1, Ds.app_nil, h2]
      exact ⟨[], by simp⟩
theorem recsI_app : ∀ (a b : List Ag) (k : Nat), recsI (a ++ b) k = recsI a k ++ recsI b (k + a.length)
  | [], b, k => by simp [recsI]
  | a :: r, b, k => by
    have := recsI_app r b (k + 1)
    have e : k + 1 + r.length = k + (r.length + 1) := by omega
    simp only [List.cons_append, recsI, List.length_cons]
    rw [this, e]
    split <;> rfl
theorem recsI_take {l : List Ag} {k : Nat} (h : k < l.length) : recsI (l.take (k + 1)) 0 = recsI (l.take k) 0 ++ (if l[k].r then [(k : Int)] else []) := by
  rw [take_ag h, recsI_app]
  have : (l.take k).length = k := by rw [List.length_take]; omega
  rw [this, Nat.zero_add]
  simp only [recsI]
theorem recsI_len : ∀ (l : List Ag) (k : Nat), (recsI l k).length ≤ l.length
  | [], _ => Nat.le_refl _
  | a :: r, k => by
    have := recsI_len r (k + 1)
    simp only [recsI, List.length_cons]
    split <;> simp <;> omega
def st46 (r : Rl) (k : Nat) : St := stOf [(1, .bx 2 0), (2, .c (.blk 19 ((recsI (r.g.take k) 0).length + 1) 1 3 (.seg none (inDs (recsI (r.g.take k) 0)) .nil) .nil)), (6, agsA r.g), (7, iA r.g.length), (8, iA k)] [(2, 65, rlC r)] [(19, (recsI (r.g.take k) 0).length + 1)]
theorem k46 (r : Rl) (hl : r.g.length ≤ 1000000) : HH 46 [rlL r] (.c (.row none 1 3 (inDs (recsI r.g 0)) .nil)) := by
  refine ab Tryz.func46 Tryz.ntmps46 Tryz.results46 rfl (by decide) (by simp) rfl rfl ?_
  have d0 : r.g.length * 9 / 9 = r.g.length := by omega
  simp [rlL, rlC, agDs_len, d0]
  refine lp (α := { k : Nat // k ≤ r.g.length }) (fun k => st46 r k.1) (fun k => r.g.length - k.1) ⟨0, Nat.zero_le _⟩ ?_ ?_
  · refine le_of [((19, 0), [(19, 0)])] ?_ ?_ ?_ <;> simp [AV.ok, Dc.ok, agsA, rlC, recsI, inDs]
  · rintro ⟨k, hk⟩
    have hw : IntKind.i64.wrap ((k : Int) + 1) = k + 1 := by rw [IntKind.wrap_i64]; omega
    by_cases hlt : k < r.g.length
    · have h1 := dp_ag hlt
      have h9 := recsI_take hlt
      have h8 := recsI_len (r.g.take k) 0
      rw [List.length_take] at h8
      generalize r.g.drop (k + 1) = q at h1
      cases hr : r.g[k].r with
      | true =>
        rw [hr, if_pos rfl] at h9
        simp [st46, agsA, rlC, agDs_len, d0, hlt, h1, agDs, hr, hw]
        refine ⟨by omega, by rw [inDs_len]; omega, k + 1, by omega, by omega, ?_⟩
        refine le_of [((19, 0), [(19, 0)])] ?_ ?_ ?_ <;> simp [AV.ok, Dc.ok, h9, inDs_app, inDs]
      | false =>
        rw [hr, if_neg (by decide), List.append_nil] at h9
        simp [st46, agsA, rlC, agDs_len, d0, hlt, h1, agDs, hr, hw]
        refine ⟨by omega, k + 1, by omega, by omega, ?_⟩
        refine le_of [((19, 0), [(19, 0)])] ?_ ?_ ?_ <;> simp [AV.ok, Dc.ok, h9, Ds.app_nil]
    · obtain rfl : k = r.g.length := by omega
      simp [st46, agsA, rlC, agDs_len, d0, Ds.app_nil]
      exact ⟨[], by simp⟩
def st47 (r : Rl) (k : Nat) : St := stOf [(1, .bx 2 0), (3, .c (.blk 22 ((recsI (r.g.take k) 0).length + 1) 1 3 (.seg none (inDs (recsI (r.g.take k) 0)) .nil) .nil)), (4, iA k)] [(2, 65, rlC r)] [(22, (recsI (r.g.take k) 0).length + 1)]
theorem k47 (r : Rl) (hl : r.g.length ≤ 1000000) : HH 47 [rlL r] (.c (.row none 1 3 (inDs (recsI r.g 0)) .nil)) := by
  refine ab Tryz.func47 Tryz.ntmps47 Tryz.results47 rfl (by decide) (by simp) rfl rfl ?_
  have d0 : r.g.length * 9 / 9 = r.g.length := by omega
  simp [rlL, rlC, agDs_len, d0]
  refine lp (α := { k : Nat // k ≤ r.g.length }) (fun k => st47 r k.1) (fun k => r.g.length - k.1) ⟨0, Nat.zero_le _⟩ ?_ ?_
  · refine le_of [((22, 0), [(22, 0)])] ?_ ?_ ?_ <;> simp [AV.ok, Dc.ok, agsA, rlC, recsI, inDs]
  · rintro ⟨k, hk⟩
    have hw : IntKind.i64.wrap ((k : Int) + 1) = k + 1 := by rw [IntKind.wrap_i64]; omega
    by_cases hlt : k < r.g.length
    · have h1 := dp_ag hlt
      have h9 := recsI_take hlt
      have h8 := recsI_len (r.g.take k) 0
      rw [List.length_take] at h8
      generalize r.g.drop (k + 1) = q at h1
      cases hr : r.g[k].r with
      | true =>
        rw [hr, if_pos rfl] at h9
        simp [st47, agsA, rlC, agDs_len, d0, hlt, h1, agDs, hr, hw]
        refine ⟨by omega, by rw [inDs_len]; omega, k + 1, by omega, by omega, ?_⟩
        refine le_of [((22, 0), [(22, 0)])] ?_ ?_ ?_ <;> simp [AV.ok, Dc.ok, h9, inDs_app, inDs]
      | false =>
        rw [hr, if_neg (by decide), List.append_nil] at h9
        simp [st47, agsA, rlC, agDs_len, d0, hlt, h1, agDs, hr, hw]
        refine ⟨by omega, k + 1, by omega, by omega, ?_⟩
        refine le_of [((22, 0), [(22, 0)])] ?_ ?_ ?_ <;> simp [AV.ok, Dc.ok, h9, Ds.app_nil]
    · obtain rfl : k = r.g.length := by omega
      simp [st47, agsA, rlC, agDs_len, d0, Ds.app_nil]
      exact ⟨[], by simp⟩
def st110f (n : Nat) (far : Int) (k : Nat) : St := stOf [(0, iA n), (1, iA far), (4, .c (.blk 21 (k + 1) 5 26 (.seg none (tDs ty ((varsT far n).take k)) .nil) .nil)), (7, iA n), (8, iA k)] [] [(21, k + 1)]
theorem k110f (n : Nat) (far : Int) (hn : n ≤ 100000) : HH 110 [iA n, iA far] (tsA none (varsT far n)) := by
  refine ab Tryz.func110 Tryz.ntmps110 Tryz.results110 rfl (by decide) (by simp) rfl rfl ?_
  have h0 : ¬ (n : Int) < 0 := by omega
  simp [h0]
  refine lp (α := { k : Nat // k ≤ n }) (fun k => st110f n far k.1) (fun k => n - k.1) ⟨0, Nat.zero_le _⟩ ?_ ?_
  · refine le_of [] ?_ ?_ ?_ <;> simp [AV.ok, Dc.ok, Ts.take]
  · rintro ⟨k, hk⟩
    by_cases hlt : k < n
    · have hw : IntKind.i64.wrap ((k : Int) + 1) = k + 1 := by rw [IntKind.wrap_i64]; omega
      have w9 : IntKind.i64.wrap (IntKind.i64.wrap (IntKind.i64.wrap (far + n) - 1) - k) = IntKind.i64.wrap (far + (n - 1 - k : Nat)) := by rw [IntKind.wrap_i64, IntKind.wrap_i64, IntKind.wrap_i64, IntKind.wrap_i64]; omega
      obtain ⟨v1, v2⟩ := varsT_at far n k hlt
      have e9 : (varsT far n).take (k + 1) = ((varsT far n).take k).app (.cons ⟨1, IntKind.i64.wrap (far + (n - 1 - k : Nat)), 0, []⟩ .nil .nil) := by rw [Ts.take_succ (by rw [varsT_len]; exact hlt), v1, v2]; rfl
      generalize IntKind.i64.wrap (far + (n - 1 - k : Nat)) = V at *
      simp [st110f, hlt, w9, hw]
      refine ⟨by rw [tDs_len, Ts.take_len_le (by rw [varsT_len]; omega)]; omega, k + 1, by omega, by omega, ?_⟩
      refine le_of [((21, 0), [(21, 0)])] ?_ ?_ ?_ <;> simp [AV.ok, Dc.ok, e9]
      rw [tDs_app]; rfl
    · obtain rfl : k = n := by omega
      have e1 : Ts.take k (varsT far k) = varsT far k := by have := Ts.take_len (varsT far k); rwa [varsT_len] at this
      simp [st110f, e1, Ds.app_nil]
      exact ⟨[], by simp⟩
def st117f (n : Nat) (far : Int) (k : Nat) : St := stOf [(0, iA n), (1, iA far), (5, .c (.blk 22 (k + 1) 5 26 (.seg none (tDs ty ((varsT far n).take k)) .nil) .nil)), (6, iA ((n : Int) - 1 - k))] [] [(22, k + 1)]
theorem k117f (n : Nat) (far : Int) (hn : n ≤ 100000) : HH 117 [iA n, iA far] (tsA none (varsT far n)) := by
  refine ab Tryz.func117 Tryz.ntmps117 Tryz.results117 rfl (by decide) (by simp) rfl rfl ?_
  by_cases h0 : n = 0
  · subst h0
    simp [varsT]
    exact ⟨[], by simp⟩
  have h1 : ¬ (n : Int) < 1 := by omega
  have w0 : IntKind.i64.wrap ((n : Int) - 1) = n - 1 := by rw [IntKind.wrap_i64]; omega
  simp [h1, w0]
  refine lp (α := { k : Nat // k ≤ n }) (fun k => st117f n far k.1) (fun k => n - k.1) ⟨0, Nat.zero_le _⟩ ?_ ?_
  · refine le_of [] ?_ ?_ ?_ <;> simp [AV.ok, Dc.ok, Ts.take]
  · rintro ⟨k, hk⟩
    by_cases hlt : k < n
    · have w4 : IntKind.i64.wrap ((n : Int) - 1 - k - 1) = n - 1 - (k + 1) := by rw [IntKind.wrap_i64]; omega
      have h2 : (k : Int) ≤ (n : Int) - 1 := by omega
      have w9 : IntKind.i64.wrap (far + ((n : Int) - 1 - k)) = IntKind.i64.wrap (far + (n - 1 - k : Nat)) := by rw [show (n : Int) - 1 - k = (n - 1 - k : Nat) by omega]
      obtain ⟨v1, v2⟩ := varsT_at far n k hlt
      have e9 : (varsT far n).take (k + 1) = ((varsT far n).take k).app (.cons ⟨1, IntKind.i64.wrap (far + (n - 1 - k : Nat)), 0, []⟩ .nil .nil) := by rw [Ts.take_succ (by rw [varsT_len]; exact hlt), v1, v2]; rfl
      generalize IntKind.i64.wrap (far + (n - 1 - k : Nat)) = V at *
      simp [st117f, h2, w9]
      refine asks (g175 V) ?_ ?_ ?_ <;> simp
      refine ⟨by rw [tDs_len, Ts.take_len_le (by rw [varsT_len]; omega)]; omega, k + 1, by omega, by omega, ?_⟩
      refine le_of [((22, 0), [(22, 0)])] ?_ ?_ ?_ <;> simp [AV.ok, Dc.ok, w4, e9]
      rw [tDs_app]; rfl
    · obtain rfl : k = n := by omega
      have e1 : Ts.take k (varsT far k) = varsT far k := by have := Ts.take_len (varsT far k); rwa [varsT_len] at this
      have h2 : ¬ (k : Int) ≤ (k : Int) - 1 := by omega
      simp [st117f, e1, Ds.app_nil, h2]
      exact ⟨[], by simp⟩
theorem varsF_size (f : Int) : ∀ n, (varsT f n).size = n
  | 0 => rfl
  | n + 1 => by simp only [varsT, Ts.size, lvSize, varsF_size f n]; omega
theorem varsF_fits (f : Int) : ∀ n, (varsT f n).fits
  | 0 => trivial
  | n + 1 => ⟨⟨⟨by show (-9223372036854775808 : Int) ≤ 1; decide, by show (1 : Int) ≤ 9223372036854775807; decide⟩, ⟨by simp only [IntKind.wrap_i64]; omega, by simp only [IntKind.wrap_i64]; omega⟩, ⟨by show (-9223372036854775808 : Int) ≤ 0; decide, by show (0 : Int) ≤ 9223372036854775807; decide⟩, fun p hp => by cases hp⟩, trivial, varsF_fits f n⟩
end Go.Proofs.YtkcmapimcgppmaaGreatDoor
end
section
namespace Go.Proofs.YtkcmapimcgppmaaGreatDoor
open Go.RowKit
attribute [local simp] ty_p ty_l ty_t kH tDs lvDs Tm.ts finH elemH ac_skip ac_label ac_region ac_seq ac_cond ac_block ac_loop ac_exit ac_ret seqK_n seqK_r seqK_e vo_nil vo_cons blkK loopK callOf vout aout abuiltin aslice ev startSt nmOf St.out putE updo upd contOf freshC K0 asC fillD fieldOf rowD astore aapp srcOf elsOf tb Dc.tk Dc.dp Dc.over Dc.app Dc.ln Dc.ds Dc.sing Dc.cont AV.cont Ds.hd Value.oneCell' retK resOf one1 AV.imp Dc.imp φOf calleeOf AV.isLL AV.list AV.app AV.arg AV.isL AV.ren Dc.ren Dc.lent tmC tmA tsA iA lo? abin AV.nth Dc.own Dc.toks stOf envOf bxOf τOf
attribute [local simp] AV.room amake agC lentAgC Ds.len Ds.dp

theorem k167 (t : Tm) (hf : t.fits) (hs : t.size ≤ 1000000) : HH 167 [tmL t] (tmL t) := by
  refine ab Tryz.func167 Tryz.ntmps167 Tryz.results167 rfl (by decide) (by simp) rfl rfl ?_
  simp
  refine asks (h60' t hf hs) ?_ ?_ ?_ <;> simp
  exact ⟨[], by simp⟩
def st233 (t a : Ts) : St := stOf [(2, .c (.blk 16 (a.len + 1) 5 26 (.seg none (tDs ty a) .nil) .nil)), (5, tsA none t), (6, iA t.len), (7, iA a.len)] [] [(16, a.len + 1)]
theorem k233 (t : Ts) (hf : t.fits) (hs : t.size ≤ 1000000) : HH 233 [tsA none t] (tsA none t) := by
  have hl : t.len ≤ 1000000 := Nat.le_trans (len_le_size t) hs
  have d0 : t.len * 5 / 5 = t.len := by omega
  refine ab Tryz.func233 Tryz.ntmps233 Tryz.results233 rfl (by decide) (by simp) rfl rfl ?_
  simp [tDs_len, d0]
  refine lp (α := { q : Ts × Ts // q.1.app q.2 = t }) (fun q => st233 t q.1.1) (fun q => q.1.2.len) ⟨(.nil, t), rfl⟩ ?_ ?_
  · refine le_of [((16, 0), [(16, 0)])] ?_ ?_ ?_ <;> simp [Ts.len, AV.ok, Dc.ok]
  · rintro ⟨⟨a, r⟩, hq⟩
    simp only at hq
    cases r with
    | nil =>
      have e : a = t := by rw [← hq]; exact (Ts.app_nil a).symm
      subst e
      simp [st233, Ds.app_nil]
      exact ⟨[], by simp⟩
    | cons h y r =>
      have h1 : a.len < t.len := by rw [← hq]; simp [Ts.app_len, Ts.len]
      have h2 : (tDs ty t).dp (a.len * 5) = tDs ty (.cons h y r) := by rw [← hq]; exact dp_mid a _
      have h3 : h.fits ∧ y.fits := app_fits (a := a) (by rw [hq]; exact hf)
      have h4 : lvSize h.l + y.size + 1 ≤ t.size := by rw [← hq]; exact app_size
      have hw : IntKind.i64.wrap ((a.len : Int) + 1) = a.len + 1 := by rw [IntKind.wrap_i64]; omega
      simp [st233, tDs_len, d0, h1, h2]
      refine ⟨by omega, ?_⟩
      refine asks (k167 ⟨h, y⟩ h3 (by show lvSize h.l + y.size ≤ 1000000; omega)) ?_ ?_ ?_ <;> simp
      refine ⟨by rw [tDs_len]; omega, a.app (.cons h y .nil), r, by simp [Ts.len], by rw [Ts.app_assoc]; exact hq, ?_⟩
      refine le_of [((16, 0), [(16, 0)])] ?_ ?_ ?_ <;> simp [Ts.len, Ts.app_len, AV.ok, Dc.ok, hw]
      exact (tDs_app ty a (.cons h y .nil)).symm
theorem k217 (t : Ts) (hf : t.fits) (hs : t.size ≤ 1000000) : HH 217 [tsA none t] (.agg (.row none 5 26 (tDs ty t) .nil)) := by
  refine ab Tryz.func217 Tryz.ntmps217 Tryz.results217 rfl (by decide) (by simp) rfl rfl ?_
  simp
  refine asks (k233 t hf hs) ?_ ?_ ?_ <;> simp
  exact ⟨[], by simp⟩
theorem k162 (t : Ts) (b : Tm) (hf : t.fits) (hs : t.size ≤ 1000000) (hbf : b.fits) (hbs : b.size ≤ 1000000) : HH 162 [tsA none t, tmL b] (tmL (aboveT 5 t b)) := by
  refine ab Tryz.func162 Tryz.ntmps162 Tryz.results162 rfl (by decide) (by simp) rfl rfl ?_
  simp
  refine ⟨by kernel_rfl, ?_⟩
  refine asks (k217 t hf hs) ?_ ?_ ?_ <;> simp
  refine asks (k167 b hbf hbs) ?_ ?_ ?_ <;> simp
  refine asks (k218 5 t b) ?_ ?_ ?_ <;> simp
  exact ⟨[], by simp⟩
theorem dp_drop (t : Ts) : ∀ k, (tDs ty t).dp (k * 5) = tDs ty (t.drop k) := by
  induction t with
  | nil =>
    intro k
    have e : ∀ n, Ds.dp n .nil = .nil := fun n => by cases n <;> rfl
    have e2 : Ts.drop k .nil = .nil := by cases k <;> rfl
    rw [e2]; exact e _
  | cons h x r _ ih =>
    intro k
    cases k with
    | zero => rw [Nat.zero_mul]; rfl
    | succ k => rw [show (k + 1) * 5 = k * 5 + 5 by omega]; exact ih k
def st226 (kk : Int) (t : Ts) (b : Tm) (j : Nat) : St := stOf [(0, iA kk), (1, tsA none t), (6, .bx 7 0), (7, .bx 8 0), (8, iA ((j : Int) - 1))] [(7, 26, .lit (.int .i64 0) (.lit (.int .i64 0) (.lit (.int .i64 0) (.nilr 1 43 (.nilr 5 26 .nil))))), (8, 26, tmC none none (aboveT kk (t.drop j) b).h (aboveT kk (t.drop j) b).x)] []
theorem k226 (kk : Int) (t : Ts) (b : Tm) (hf : t.fits) (hs : t.size ≤ 1000000) (hbf : b.fits) (hbs : b.size ≤ 1000000) : HH 226 [iA kk, tsA none t, tmL b] (tmL (aboveT kk t b)) := by
  have hl : t.len ≤ 1000000 := Nat.le_trans (len_le_size t) hs
  have d0 : t.len * 5 / 5 = t.len := by omega
  have w0 : IntKind.i64.wrap ((t.len : Int) - 1) = t.len - 1 := by rw [IntKind.wrap_i64]; omega
  refine ab Tryz.func226 Tryz.ntmps226 Tryz.results226 rfl (by decide) (by simp) rfl rfl ?_
  simp [tDs_len, d0]
  refine asks (h63' b hbf (by omega)) ?_ ?_ ?_ <;> simp [tDs_len, d0, w0]
  refine lp (α := { j : Nat // j ≤ t.len }) (fun j => st226 kk t b j.1) (fun j => j.1) ⟨t.len, Nat.le_refl _⟩ ?_ ?_
  · refine le_of [] ?_ ?_ ?_ <;> simp [AV.ok, Dc.ok, Ts.drop_len, aboveT]
  · rintro ⟨j, hj⟩
    cases j with
    | zero =>
      simp [st226, Ts.drop]
      exact ⟨[], by simp⟩
    | succ j =>
      have h1 : j < t.len := hj
      have h2 := dp_drop t j
      have h3 := Ts.drop_step h1
      have h4 := Ts.fits_hd hf h1
      have h5 := Ts.size_kd h1
      rw [h3] at h2
      have h6 : aboveT kk (t.drop j) b = ⟨kH kk, .cons (t.hd j) (t.kd j) (aboveT kk (t.drop (j + 1)) b).ts⟩ := by rw [h3]; rfl
      have w1 : IntKind.i64.wrap ((j : Int) - 1) = j - 1 := by rw [IntKind.wrap_i64]; omega
      generalize t.hd j = hh at *
      generalize t.kd j = hx at *
      generalize hB : aboveT kk (t.drop (j + 1)) b = B at *
      simp [st226, h2, tDs_len]
      refine ⟨by kernel_rfl, by omega, ?_⟩
      refine asks (h63' ⟨hh, hx⟩ h4 (by show lvSize hh.l + hx.size ≤ 2000000; omega)) ?_ ?_ ?_ <;> simp [w1]
      refine ⟨j, by omega, by omega, ?_⟩
      refine le_of [] ?_ ?_ ?_ <;> simp [AV.ok, Dc.ok, h6, hB]
theorem k196 (t : Ts) (b : Tm) (hf : t.fits) (hs : t.size ≤ 1000000) (hbf : b.fits) (hbs : b.size ≤ 1000000) : HH 196 [tsA none t, tmL b] (tmL (aboveT 5 t b)) := by
  refine ab Tryz.func196 Tryz.ntmps196 Tryz.results196 rfl (by decide) (by simp) rfl rfl ?_
  simp
  refine asks (k226 5 t b hf hs hbf hbs) ?_ ?_ ?_ <;> simp
  exact ⟨[], by simp⟩
end Go.Proofs.YtkcmapimcgppmaaGreatDoor
end
