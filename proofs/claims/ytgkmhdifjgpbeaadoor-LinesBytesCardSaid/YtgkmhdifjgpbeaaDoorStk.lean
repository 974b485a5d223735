/-
  Rows of trees that a call has made itself, one within another open: each may still be appended to. Conditions: none (definitions and their laws).
-/
import Derived.Test.YtgkmhdifjgpbeaaDoorOwn
import Derived.Laws.OwnMore
import Derived.OneCell
namespace Go.Proofs.YtgkmhdifjgpbeaaDoor
open Go.RowKit

/-- Nothing but some blocks has turned; there may be new ones. -/
structure Mv (S : List Nat) (w w' : World) : Prop where
  os : w'.os = w.os
  tape : w'.tape = w.tape
  output : w'.output = w.output
  size : w.heap.size ≤ w'.heap.size
  block : ∀ k, k < w.heap.size → k ∉ S → w'.heap[k]? = w.heap[k]?

theorem Mv.refl (S : List Nat) (w : World) : Mv S w w := ⟨rfl, rfl, rfl, Nat.le_refl _, fun _ _ _ => rfl⟩
theorem Mv.trans {S : List Nat} {a b c : World} (h : Mv S a b) (k : Mv S b c) : Mv S a c :=
  ⟨k.os.trans h.os, k.tape.trans h.tape, k.output.trans h.output, Nat.le_trans h.size k.size, fun i hi hs => (k.block i (Nat.lt_of_lt_of_le hi h.size) hs).trans (h.block i hi hs)⟩
theorem Mv.wide {S S' : List Nat} {w w' : World} (h : Mv S w w') (hs : ∀ b, b ∈ S → b ∈ S' ∨ w.heap.size ≤ b) : Mv S' w w' :=
  ⟨h.os, h.tape, h.output, h.size, fun k hk hn => h.block k hk (fun hb => by rcases hs k hb with h | h; exact hn h; omega)⟩
theorem Mv.below {S : List Nat} {w w' : World} {B : Nat} (h : Mv S w w') (hs : ∀ b ∈ S, B ≤ b) (hB : B ≤ w.heap.size) : Below B w w' :=
  ⟨h.os, h.tape, h.output, h.size, fun k hk => h.block k (Nat.lt_of_lt_of_le hk hB) (fun hb => by have := hs k hb; omega)⟩
theorem Mv.of_below {w w' : World} (S : List Nat) (h : Below w.heap.size w w') : Mv S w w' := ⟨h.os, h.tape, h.output, h.size, fun k hk _ => h.block k hk⟩
theorem Mv.of_grown {w w' : World} {r : Option Nat} (h : w.grownBy w' r) : Mv r.toList w w' := ⟨h.os, h.tape, h.output, h.size, fun k hk hn => h.block k hk (fun e => hn (by simp [← e]))⟩
theorem Mv.cell {S : List Nat} {w w' : World} (h : Mv S w w') {b o : Nat} (hb : b < w.heap.size) (hn : b ∉ S) : w'.cell? ⟨b, o, none⟩ = w.cell? ⟨b, o, none⟩ :=
  World.cell?_of_block (h.block b hb hn)
theorem Mv.frozen {S : List Nat} {w w' : World} (h : Mv S w w') {b o : Nat} (hb : b < w.heap.size) (hn : b ∉ S) : w'.frozen? ⟨b, o, none⟩ = w.frozen? ⟨b, o, none⟩ :=
  World.frozen?_of_block (h.block b hb hn)

theorem ownsRow_heap {w w' : World} {base e size n : Nat} {v : Value} {xs : List Value} (h : w.ownsRow base e size v n xs) (hk : ∀ k, v.ownBlock = some k → w'.heap[k]? = w.heap[k]?) : w'.ownsRow base e size v n xs := by
  refine ⟨h.1, ?_⟩
  rcases h.2 with hn | ⟨g, cap, cur, rfl, hb, hgg, rest⟩
  · exact .inl hn
  · exact .inr ⟨g, cap, cur, rfl, hb, (hk g rfl).trans hgg, rest⟩

theorem Fx_move {w w' : World} {S S' D : List Nat} (hm : Mv D w w') (hS : ∀ b, b ∈ S' → b ∈ S ∨ w.heap.size ≤ b) (hD : ∀ b, b ∈ D → b ∈ S) :
    ∀ b o v, Fx w S b o = some v → Fx w' S' b o = some v := by
  intro b o v h
  have hn := Fx_not h
  have hl := U_lt (Fx_U h)
  refine Fx_mk ((U_block (hm.block b hl (fun hb => hn (hD b hb))) o).trans (Fx_U h)) (fun hb => ?_)
  rcases hS b hb with h | h
  · exact hn h
  · omega
theorem RowT.move {w w' : World} {base e : Nat} {S S' D : List Nat} {v : Value} {t : Ts} (h : RowT w base e S v t) (hm : Mv D w w') (hS : ∀ b, b ∈ S' → b ∈ S ∨ w.heap.size ≤ b) (hD : ∀ b, b ∈ D → b ∈ S)
    (hv : ∀ k, v.ownBlock = some k → k ∉ D) : RowT w' base e S' v t := by
  obtain ⟨xs, h1, h2⟩ := h
  exact ⟨xs, ownsRow_heap h1 (fun k hk => hm.block k (h1.lt k hk).2 (hv k hk)), h2.mono (fun b o u _ _ hu => Fx_move hm hS hD b o u hu) (Nat.le_refl _) hm.size⟩
/-- The row as a slice that reads, outside some blocks. -/
theorem RowT.slx {w : World} {base e : Nat} {S S' : List Nat} {v : Value} {t : Ts} (h : RowT w base e S v t) (hs : ∀ b, b ∈ S' → b ∈ S) (hv : ∀ k, v.ownBlock = some k → k ∉ S') : Sl (Fx w S') base w.heap.size v t := by
  obtain ⟨xs, h1, h2⟩ := h
  have h1' := h1
  rcases h1.2 with ⟨rfl, hn⟩ | ⟨g, cap, cur, rfl, hb, hh, hnc, hcm, _⟩
  · exact ⟨none, 0, 0, rfl, hn.symm, Nat.le_refl _, Nat.zero_le _, .inl ⟨rfl, rfl⟩⟩
  · refine ⟨_, _, _, rfl, rfl, hnc, hcm, .inr (.inr ⟨g, 0, rfl, hb, (h1'.lt g rfl).2, h2.tat (fun b o u hu => Fx_mk (Fx_U hu) (fun hb => Fx_not hu (hs b hb))) (fun j u hu => ?_)⟩)⟩
    rw [Nat.zero_add]
    exact Fx_mk (ownsRow_U h1' rfl hu) (hv g rfl)

def own (v : Value) : List Nat := v.ownBlock.toList
theorem mem_own {v : Value} {b : Nat} : b ∈ own v ↔ v.ownBlock = some b := by simp [own]
/-- The blocks that may still turn. -/
def blocks (o : Value) (vs : List Value) : List Nat := own o ++ vs.flatMap own

/-- Rows of trees that are open, in a row of the call's own. -/
structure StkT (X : List Nat) (w : World) (base : Nat) (e eo : TypeId) (o : Value) (vs : List Value) (ts : List Ts) : Prop where
  top : w.ownsRow base eo 1 o vs.length vs
  len : vs.length = ts.length
  apart : (blocks o vs).Nodup
  rows : ∀ (i : Nat) v t, vs[i]? = some v → ts[i]? = some t → RowT w base e (X ++ blocks o vs) v t
  off : ∀ b ∈ X, b ∉ blocks o vs
  old : ∀ b ∈ X, b < w.heap.size

theorem StkT.bound {X : List Nat} {w : World} {base : Nat} {e eo : TypeId} {o : Value} {vs : List Value} {ts : List Ts} (h : StkT X w base e eo o vs ts) : ∀ b ∈ blocks o vs, base ≤ b ∧ b < w.heap.size := by
  intro b hb
  rcases List.mem_append.1 hb with hb | hb
  · exact h.top.lt b (mem_own.1 hb)
  · obtain ⟨v, hv, hb⟩ := List.mem_flatMap.1 hb
    obtain ⟨i, hi, e1⟩ := List.mem_iff_getElem.1 hv
    have hv' : vs[i]? = some v := by rw [List.getElem?_eq_getElem hi, e1]
    obtain ⟨t, ht⟩ : ∃ t, ts[i]? = some t := ⟨_, List.getElem?_eq_getElem (by rw [← h.len]; exact hi)⟩
    exact (h.rows i v _ hv' ht).block b (mem_own.1 hb)

theorem StkT.move {X : List Nat} {w w' : World} {base : Nat} {e eo : TypeId} {o : Value} {vs : List Value} {ts : List Ts} (h : StkT X w base e eo o vs ts) (hm : Mv X w w') : StkT X w' base e eo o vs ts :=
  ⟨ownsRow_heap h.top (fun k hk => hm.block k (h.top.lt k hk).2 (fun hx => h.off k hx (List.mem_append.2 (.inl (mem_own.2 hk))))), h.len, h.apart,
    fun i v t hv ht => (h.rows i v t hv ht).move hm (fun _ hb => .inl hb) (fun _ hb => List.mem_append.2 (.inl hb)) (fun k hk hx => h.off k hx (List.mem_append.2 (.inr (List.mem_flatMap.2 ⟨v, List.mem_of_getElem? hv, mem_own.2 hk⟩)))),
    h.off, fun b hb => Nat.lt_of_lt_of_le (h.old b hb) hm.size⟩

/-- One more is opened. -/
theorem StkT.push {X : List Nat} {w w' : World} {base : Nat} {e eo : TypeId} {o o' : Value} {vs : List Value} {ts : List Ts} (h : StkT X w base e eo o vs ts) (hm : Mv (own o) w w')
    (ho : w'.ownsRow base eo 1 o' (vs.length + 1) (vs ++ [.slice none 0 0])) (hat : o'.ownBlock = o.ownBlock ∨ ∃ k, o'.ownBlock = some k ∧ w.heap.size ≤ k) :
    StkT X w' base e eo o' (vs ++ [.slice none 0 0]) (ts ++ [.nil]) ∧ ∀ b ∈ blocks o' (vs ++ [.slice none 0 0]), b ∈ blocks o vs ∨ w.heap.size ≤ b := by
  have hf : (vs ++ [Value.slice none 0 0]).flatMap own = vs.flatMap own := by simp [own, Value.ownBlock]
  have hb : ∀ b ∈ blocks o' (vs ++ [.slice none 0 0]), b ∈ blocks o vs ∨ w.heap.size ≤ b := by
    intro b hb
    unfold blocks at hb ⊢
    rw [hf] at hb
    rcases List.mem_append.1 hb with hb | hb
    · rcases hat with e1 | ⟨k, e1, hk⟩
      · exact .inl (List.mem_append.2 (.inl (by rw [mem_own] at hb ⊢; rw [← e1]; exact hb)))
      · rw [mem_own, e1] at hb; cases hb; exact .inr hk
    · exact .inl (List.mem_append.2 (.inr hb))
  have hap := h.apart
  unfold blocks at hap
  rw [List.nodup_append] at hap
  have hbX : ∀ b ∈ X ++ blocks o' (vs ++ [.slice none 0 0]), b ∈ X ++ blocks o vs ∨ w.heap.size ≤ b := fun b hb' => by
    rcases List.mem_append.1 hb' with h1 | h1
    · exact .inl (List.mem_append.2 (.inl h1))
    · rcases hb b h1 with h2 | h2
      · exact .inl (List.mem_append.2 (.inr h2))
      · exact .inr h2
  refine ⟨⟨by simpa using ho, by simp [h.len], ?_, ?_, fun b hx hb' => ?_, fun b hx => Nat.lt_of_lt_of_le (h.old b hx) hm.size⟩, hb⟩
  · unfold blocks
    rw [hf, List.nodup_append]
    refine ⟨by unfold own; cases o'.ownBlock <;> simp, hap.2.1, fun a ha b hb' => ?_⟩
    rcases hat with e1 | ⟨k, e1, hk⟩
    · exact hap.2.2 a (by rw [mem_own] at ha ⊢; rw [← e1]; exact ha) b hb'
    · rw [mem_own, e1] at ha
      cases ha
      have := (h.bound b (List.mem_append.2 (.inr hb'))).2
      omega
  · intro i v t hv ht
    have hil : i < vs.length ∨ i = vs.length := by
      have := (List.getElem?_eq_some_iff.1 hv).1
      simp at this; omega
    rcases hil with hi | rfl
    · rw [List.getElem?_append_left hi] at hv
      rw [List.getElem?_append_left (by rw [← h.len]; exact hi)] at ht
      refine (h.rows i v t hv ht).move hm hbX (fun b hb => List.mem_append.2 (.inr (List.mem_append.2 (.inl hb)))) (fun k hk hk' => ?_)
      exact hap.2.2 k hk' k (List.mem_flatMap.2 ⟨v, List.mem_of_getElem? hv, mem_own.2 hk⟩) rfl
    · rw [List.getElem?_append_right (Nat.le_refl _)] at hv
      rw [List.getElem?_append_right (by rw [h.len]; exact Nat.le_refl _)] at ht
      simp at hv
      rw [h.len] at ht
      simp at ht
      subst hv; subst ht
      exact RowT.nil _ _ _ _
  · rcases hb b hb' with h1 | h1
    · exact h.off b hx h1
    · have := h.old b hx; omega

/-- The last one is closed. -/
theorem StkT.pop {X : List Nat} {w : World} {base : Nat} {e eo : TypeId} {g c : Nat} {v : Value} {t : Ts} {vs : List Value} {ts : List Ts} (h : StkT X w base e eo (.slice (some ⟨g, 0, none⟩) (vs.length + 1) c) (vs ++ [v]) (ts ++ [t])) :
    StkT X w base e eo (.slice (some ⟨g, 0, none⟩) vs.length c) vs ts ∧ Sl (Fx w (X ++ blocks (.slice (some ⟨g, 0, none⟩) vs.length c) vs)) base w.heap.size v t ∧
      ∀ b ∈ blocks (.slice (some ⟨g, 0, none⟩) vs.length c) vs, b ∈ blocks (.slice (some ⟨g, 0, none⟩) (vs.length + 1) c) (vs ++ [v]) := by
  have hl : vs.length = ts.length := by have := h.len; simpa using this
  have hsub : ∀ b ∈ blocks (.slice (some ⟨g, 0, none⟩) vs.length c) vs, b ∈ blocks (.slice (some ⟨g, 0, none⟩) (vs.length + 1) c) (vs ++ [v]) := by
    intro b hb
    unfold blocks at hb ⊢
    rcases List.mem_append.1 hb with hb | hb
    · exact List.mem_append.2 (.inl hb)
    · exact List.mem_append.2 (.inr (by rw [List.flatMap_append]; exact List.mem_append.2 (.inl hb)))
  have hap := h.apart
  unfold blocks at hap
  rw [List.flatMap_append, ← List.append_assoc, List.nodup_append] at hap
  have hsubX : ∀ b ∈ X ++ blocks (.slice (some ⟨g, 0, none⟩) vs.length c) vs, b ∈ X ++ blocks (.slice (some ⟨g, 0, none⟩) (vs.length + 1) c) (vs ++ [v]) := fun b hb => by
    rcases List.mem_append.1 hb with h1 | h1
    · exact List.mem_append.2 (.inl h1)
    · exact List.mem_append.2 (.inr (hsub b h1))
  refine ⟨⟨?_, hl, hap.1, fun i v' t' hv ht => ?_, fun b hx hb => h.off b hx (hsub b hb), h.old⟩, ?_, hsub⟩
  · have ht := h.top
    rcases ht.2 with ⟨h', _⟩ | ⟨g', cap', cur, h', hb, hg, hnc, hcm, hcs, htake⟩
    · cases h'
    · simp only [Value.slice.injEq, Option.some.injEq, Addr.mk.injEq, and_true] at h'
      obtain ⟨rfl, hc1, rfl⟩ := h'
      refine ⟨by simp, .inr ⟨g, c, cur, rfl, hb, hg, by simp at hnc; omega, hcm, hcs, ?_⟩⟩
      simp only [Nat.mul_one] at htake ⊢
      have : cur.toList.take vs.length = (cur.toList.take (vs ++ [v]).length).take vs.length := by rw [List.take_take]; congr 1; simp
      rw [this, htake]; simp
  · have hi := (List.getElem?_eq_some_iff.1 hv).1
    refine (h.rows i v' t' (by rw [List.getElem?_append_left hi]; exact hv) (by rw [List.getElem?_append_left (by rw [← hl]; exact hi)]; exact ht)).move (Mv.refl [] w) (fun b hb => .inl (hsubX b hb)) (fun b hb => by simp at hb) (fun k _ => by simp)
  · refine (h.rows vs.length v t (by simp) (by rw [hl]; simp)).slx hsubX (fun k hk hk' => ?_)
    rcases List.mem_append.1 hk' with hk' | hk'
    · exact h.off k hk' (List.mem_append.2 (.inr (List.mem_flatMap.2 ⟨v, by simp, mem_own.2 hk⟩)))
    exact hap.2.2 k hk' k (List.mem_flatMap.2 ⟨v, by simp, mem_own.2 hk⟩) rfl

/-- The last one's row. -/
theorem StkT.last {X : List Nat} {w : World} {base : Nat} {e eo : TypeId} {o v : Value} {t : Ts} {vs : List Value} {ts : List Ts} (h : StkT X w base e eo o (vs ++ [v]) (ts ++ [t])) : RowT w base e (X ++ blocks o (vs ++ [v])) v t := by
  have hl : vs.length = ts.length := by have := h.len; simpa using this
  exact h.rows vs.length v t (by simp) (by rw [hl]; simp)
theorem StkT.far {X : List Nat} {w : World} {base : Nat} {e eo : TypeId} {o v : Value} {t : Ts} {vs : List Value} {ts : List Ts} (h : StkT X w base e eo o (vs ++ [v]) (ts ++ [t])) : ∀ k, v.ownBlock = some k → o.ownBlock ≠ some k := by
  intro k hk ho
  have hap := h.apart
  unfold blocks at hap
  rw [List.nodup_append] at hap
  exact hap.2.2 k (mem_own.2 ho) k (List.mem_flatMap.2 ⟨v, by simp, mem_own.2 hk⟩) rfl

/-- A tree more at the end of the last one. -/
theorem StkT.put {X : List Nat} {w w' : World} {base : Nat} {e eo : TypeId} {o v v' kv : Value} {t x : Ts} {wd : ByteArray} {vs xs : List Value} {ts : List Ts} (h : StkT X w base e eo o (vs ++ [v]) (ts ++ [t]))
    (hc : CellsT (Fx w (X ++ blocks o (vs ++ [v]))) base w.heap.size xs t) (hm : Mv (own o ++ own v) w w') (ho : w'.ownsRow base eo 1 o (vs.length + 1) (vs ++ [v']))
    (hv' : w'.ownsRow base e 2 v' (t.len + 1) (xs ++ [.string wd, kv])) (hat : v'.ownBlock = v.ownBlock ∨ ∃ k, v'.ownBlock = some k ∧ w.heap.size ≤ k)
    (hw : wd.size ≤ 140737488355328) (hk : Sl (Fx w (X ++ blocks o (vs ++ [v]))) base w.heap.size kv x) :
    StkT X w' base e eo o (vs ++ [v']) (ts ++ [t.snoc wd x]) ∧ ∀ b ∈ blocks o (vs ++ [v']), b ∈ blocks o (vs ++ [v]) ∨ w.heap.size ≤ b := by
  have hl : vs.length = ts.length := by have := h.len; simpa using this
  have hD : ∀ b, b ∈ own o ++ own v → b ∈ blocks o (vs ++ [v]) := by
    intro b hb
    unfold blocks
    rcases List.mem_append.1 hb with hb | hb
    · exact List.mem_append.2 (.inl hb)
    · exact List.mem_append.2 (.inr (List.mem_flatMap.2 ⟨v, by simp, hb⟩))
  have hb : ∀ b ∈ blocks o (vs ++ [v']), b ∈ blocks o (vs ++ [v]) ∨ w.heap.size ≤ b := by
    intro b hb
    unfold blocks at hb ⊢
    rw [List.flatMap_append, ← List.append_assoc] at hb ⊢
    rcases List.mem_append.1 hb with hb | hb
    · exact .inl (List.mem_append.2 (.inl hb))
    · have hb' : v'.ownBlock = some b := by simpa [own] using hb
      rcases hat with e1 | ⟨k, e1, hk⟩
      · exact .inl (List.mem_append.2 (.inr (by rw [e1] at hb'; simp [own, hb'])))
      · rw [e1] at hb'; cases hb'; exact .inr hk
  have hap := h.apart
  unfold blocks at hap
  rw [List.flatMap_append, ← List.append_assoc, List.nodup_append] at hap
  have hbX : ∀ b ∈ X ++ blocks o (vs ++ [v']), b ∈ X ++ blocks o (vs ++ [v]) ∨ w.heap.size ≤ b := fun b hb' => by
    rcases List.mem_append.1 hb' with h1 | h1
    · exact .inl (List.mem_append.2 (.inl h1))
    · rcases hb b h1 with h2 | h2
      · exact .inl (List.mem_append.2 (.inr h2))
      · exact .inr h2
  have hDX : ∀ b, b ∈ own o ++ own v → b ∈ X ++ blocks o (vs ++ [v]) := fun b hb => List.mem_append.2 (.inr (hD b hb))
  refine ⟨⟨by simpa using ho, by simp [hl], ?_, ?_, fun b hx hb' => ?_, fun b hx => Nat.lt_of_lt_of_le (h.old b hx) hm.size⟩, hb⟩
  · unfold blocks
    rw [List.flatMap_append, ← List.append_assoc, List.nodup_append]
    refine ⟨hap.1, by simp [own]; cases v'.ownBlock <;> simp, fun a ha b hb' => ?_⟩
    have hb2 : v'.ownBlock = some b := by simpa [own] using hb'
    rcases hat with e1 | ⟨k, e1, hk⟩
    · exact hap.2.2 a ha b (by rw [e1] at hb2; simp [own, hb2])
    · rw [e1] at hb2; cases hb2
      have := (h.bound a (by unfold blocks; rw [List.flatMap_append, ← List.append_assoc]; exact List.mem_append.2 (.inl ha))).2
      omega
  · intro i u r hu hr
    have hil : i < vs.length ∨ i = vs.length := by
      have := (List.getElem?_eq_some_iff.1 hu).1
      simp at this; omega
    rcases hil with hi | rfl
    · rw [List.getElem?_append_left hi] at hu
      rw [List.getElem?_append_left (by rw [← hl]; exact hi)] at hr
      refine (h.rows i u r (by rw [List.getElem?_append_left hi]; exact hu) (by rw [List.getElem?_append_left (by rw [← hl]; exact hi)]; exact hr)).move hm hbX hDX (fun k hk' hk2 => ?_)
      have hin : k ∈ vs.flatMap own := List.mem_flatMap.2 ⟨u, List.mem_of_getElem? hu, mem_own.2 hk'⟩
      rcases List.mem_append.1 hk2 with hk2 | hk2
      · have := hap.1
        rw [List.nodup_append] at this
        exact this.2.2 k hk2 k hin rfl
      · exact hap.2.2 k (List.mem_append.2 (.inr hin)) k (List.mem_flatMap.2 ⟨v, by simp, hk2⟩) rfl
    · rw [List.getElem?_append_right (Nat.le_refl _)] at hu
      rw [List.getElem?_append_right (by rw [hl]; exact Nat.le_refl _)] at hr
      simp at hu
      rw [hl] at hr
      simp at hr
      subst hu; subst hr
      exact ⟨_, by rw [Ts.snoc_len]; exact hv', (hc.mono (fun b o u _ _ hu => Fx_move hm hbX hDX b o u hu) (Nat.le_refl _) hm.size).snoc hw (hk.mono (fun b o u _ _ hu => Fx_move hm hbX hDX b o u hu) (Nat.le_refl _) hm.size)⟩
  · rcases hb b hb' with h1 | h1
    · exact h.off b hx h1
    · have := h.old b hx; omega
theorem Mv.store {S : List Nat} {w w' : World} (h : Mv S w w') {b : Nat} (hb : b ∈ S ∨ w.heap.size ≤ b) (o : Nat) (u : Value) : Mv S w (w'.setCell ⟨b, o, none⟩ u) :=
  ⟨h.os, h.tape, h.output, by simpa using h.size, fun k hk hn => (heap_setCell_other w' ⟨b, o, none⟩ k u (fun e => hb.elim (fun hb => hn (by rw [e]; exact hb)) (fun hb => Nat.lt_irrefl _ (Nat.lt_of_lt_of_le hk (by rw [e]; exact hb))))).trans (h.block k hk hn)⟩
theorem Mv.grown {S : List Nat} {a b c : World} {r : Option Nat} (h : Mv S a b) (hg : b.grownBy c r) (hr : ∀ k, r = some k → k ∈ S ∨ a.heap.size ≤ k) : Mv S a c :=
  ⟨hg.os.trans h.os, hg.tape.trans h.tape, hg.output.trans h.output, Nat.le_trans h.size hg.size, fun i hi hs => (hg.block i (Nat.lt_of_lt_of_le hi h.size) (fun e => by
    rcases hr i e.symm with h | h
    · exact hs h
    · omega)).trans (h.block i hi hs)⟩
theorem Mv.alloc {S : List Nat} {a b : World} (h : Mv S a b) (o : Obj) : Mv S a (b.alloc o) :=
  h.grown (World.grownBy_alloc b o none) (fun k hk => by cases hk)
theorem Mv.drewN {S : List Nat} {a b : World} (h : Mv S a b) (n : Nat) : Mv S a (b.drewN n) := ⟨h.os, h.tape, h.output, h.size, h.block⟩
theorem Mv.drew {S : List Nat} {a b : World} (h : Mv S a b) : Mv S a b.drew := ⟨h.os, h.tape, h.output, h.size, h.block⟩
theorem set_last (l : List Value) (a b : Value) : (l ++ [a]).set l.length b = l ++ [b] := by simp
theorem set_pair {l : List Value} {n : Nat} (hn : l.length = n) (a b c d : Value) : ((l ++ [a, b]).set n c).set (n + 1) d = l ++ [c, d] := by
  subst hn
  simp

/-- A tree more: the place made with nothing in it, the tree and the row stored behind it, in either order. -/
theorem StkT.put2 {X : List Nat} {w wA w1 w2 : World} {base : Nat} {e eo : TypeId} {g c gg cap : Nat} {v kv : Value} {t x : Ts} {wd : ByteArray} {vs xs : List Value} {ts : List Ts}
    (h : StkT X w base e eo (.slice (some ⟨g, 0, none⟩) (vs.length + 1) c) (vs ++ [v]) (ts ++ [t]))
    (hc : CellsT (Fx w (X ++ blocks (.slice (some ⟨g, 0, none⟩) (vs.length + 1) c) (vs ++ [v]))) base w.heap.size xs t) (hxs : xs.length = t.len * 2) (hA : Mv [] w wA) {y z : Value}
    (hown : w1.ownsRow base e 2 (.slice (some ⟨gg, 0, none⟩) (t.len + 1) cap) (t.len + 1) (xs ++ [y, z])) (hgrow : wA.grownBy w1 v.ownBlock) (hat : v.ownBlock = some gg ∨ w.heap.size ≤ gg)
    (hw : wd.size ≤ 140737488355328) (hk : Sl (Fx w (X ++ blocks (.slice (some ⟨g, 0, none⟩) (vs.length + 1) c) (vs ++ [v]))) base w.heap.size kv x)
    (h2 : w2 = ((w1.setCell ⟨gg, t.len * 2, none⟩ (.string wd)).setCell ⟨gg, t.len * 2 + 1, none⟩ kv).setCell ⟨g, vs.length, none⟩ (.slice (some ⟨gg, 0, none⟩) (t.len + 1) cap) ∨
      w2 = ((w1.setCell ⟨g, vs.length, none⟩ (.slice (some ⟨gg, 0, none⟩) (t.len + 1) cap)).setCell ⟨gg, t.len * 2, none⟩ (.string wd)).setCell ⟨gg, t.len * 2 + 1, none⟩ kv) :
    StkT X w2 base e eo (.slice (some ⟨g, 0, none⟩) (vs.length + 1) c) (vs ++ [.slice (some ⟨gg, 0, none⟩) (t.len + 1) cap]) (ts ++ [t.snoc wd x]) ∧
      Mv (blocks (.slice (some ⟨g, 0, none⟩) (vs.length + 1) c) (vs ++ [v])) w w2 ∧
      ∀ b ∈ blocks (.slice (some ⟨g, 0, none⟩) (vs.length + 1) c) (vs ++ [.slice (some ⟨gg, 0, none⟩) (t.len + 1) cap]), b ∈ blocks (.slice (some ⟨g, 0, none⟩) (vs.length + 1) c) (vs ++ [v]) ∨ w.heap.size ≤ b := by
  have htop := h.top
  rw [List.length_append, List.length_singleton] at htop
  have hglt := (htop.lt g rfl).2
  have hne : gg ≠ g := by
    rintro rfl
    rcases hat with e1 | e1
    · exact h.far _ e1 rfl
    · omega
  have hD : ∀ b, b ∈ own (.slice (some ⟨g, 0, none⟩) (vs.length + 1) c) ++ own v → b ∈ blocks (.slice (some ⟨g, 0, none⟩) (vs.length + 1) c) (vs ++ [v]) := by
    intro b hb
    unfold blocks
    rcases List.mem_append.1 hb with hb | hb
    · exact List.mem_append.2 (.inl hb)
    · exact List.mem_append.2 (.inr (List.mem_flatMap.2 ⟨v, by simp, hb⟩))
  have hA' : Mv (own (.slice (some ⟨g, 0, none⟩) (vs.length + 1) c) ++ own v) w wA := hA.wide (fun b hb => by simp at hb)
  have hM1 : Mv (own (.slice (some ⟨g, 0, none⟩) (vs.length + 1) c) ++ own v) w w1 := hA'.grown hgrow (fun k hk => .inl (List.mem_append.2 (.inr (mem_own.2 hk))))
  have hgi : g ∈ own (.slice (some ⟨g, 0, none⟩) (vs.length + 1) c) ++ own v ∨ w.heap.size ≤ g := .inl (List.mem_append.2 (.inl (mem_own.2 rfl)))
  have hggi : gg ∈ own (.slice (some ⟨g, 0, none⟩) (vs.length + 1) c) ++ own v ∨ w.heap.size ≤ gg := by
    rcases hat with e1 | e1
    · exact .inl (List.mem_append.2 (.inr (mem_own.2 e1)))
    · exact .inr e1
  have hM2 : Mv (own (.slice (some ⟨g, 0, none⟩) (vs.length + 1) c) ++ own v) w w2 := by
    rcases h2 with rfl | rfl
    · exact ((hM1.store hggi _ _).store hggi _ _).store hgi _ _
    · exact ((hM1.store hgi _ _).store hggi _ _).store hggi _ _
  have ho1 : w1.ownsRow base eo 1 (.slice (some ⟨g, 0, none⟩) (vs.length + 1) c) (vs.length + 1) (vs ++ [v]) := by
    refine ownsRow_heap htop (fun k hk => ?_)
    cases hk
    have hA1 := hA.block g hglt (by simp)
    refine (hgrow.block g (by have := hA.size; omega) (fun e1 => ?_)).trans hA1
    exact h.far g e1.symm rfl
  have hown2 : w2.ownsRow base eo 1 (.slice (some ⟨g, 0, none⟩) (vs.length + 1) c) (vs.length + 1) (vs ++ [.slice (some ⟨gg, 0, none⟩) (t.len + 1) cap]) := by
    have n1 : (Value.slice (some ⟨g, 0, none⟩) (vs.length + 1) c).ownBlock ≠ some gg := by simp [Value.ownBlock]; omega
    rcases h2 with rfl | rfl
    · have h1 := ((ownsRow_setCell_other (ownsRow_setCell_other ho1 (a := ⟨gg, t.len * 2, none⟩) n1 (.string wd)) (a := ⟨gg, t.len * 2 + 1, none⟩) n1 kv).stored vs.length (.slice (some ⟨gg, 0, none⟩) (t.len + 1) cap)).1
      rw [set_last] at h1
      exact h1
    · have h1 := (ho1.stored vs.length (.slice (some ⟨gg, 0, none⟩) (t.len + 1) cap)).1
      rw [set_last] at h1
      exact ownsRow_setCell_other (ownsRow_setCell_other h1 (a := ⟨gg, t.len * 2, none⟩) n1 (.string wd)) (a := ⟨gg, t.len * 2 + 1, none⟩) n1 kv
  have hv2 : w2.ownsRow base e 2 (.slice (some ⟨gg, 0, none⟩) (t.len + 1) cap) (t.len + 1) (xs ++ [.string wd, kv]) := by
    have n1 : (Value.slice (some ⟨gg, 0, none⟩) (t.len + 1) cap).ownBlock ≠ some g := by simp [Value.ownBlock]; omega
    rcases h2 with rfl | rfl
    · have h1 := (((hown.stored (t.len * 2) (.string wd)).1).stored (t.len * 2 + 1) kv).1
      rw [set_pair hxs] at h1
      exact ownsRow_setCell_other h1 (a := ⟨g, vs.length, none⟩) n1 _
    · have h1 := ((((ownsRow_setCell_other hown (a := ⟨g, vs.length, none⟩) n1 (.slice (some ⟨gg, 0, none⟩) (t.len + 1) cap)).stored (t.len * 2) (.string wd)).1).stored (t.len * 2 + 1) kv).1
      rw [set_pair hxs] at h1
      exact h1
  have hfin := h.put hc hM2 hown2 hv2 (by
    rcases hat with e1 | e1
    · exact .inl e1.symm
    · exact .inr ⟨gg, rfl, e1⟩) hw hk
  exact ⟨hfin.1, hM2.wide (fun b hb => .inl (hD b hb)), hfin.2⟩
end Go.Proofs.YtgkmhdifjgpbeaaDoor
