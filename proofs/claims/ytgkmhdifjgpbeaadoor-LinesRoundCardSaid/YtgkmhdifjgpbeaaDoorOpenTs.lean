/-
  A row of trees that came in reads as trees. Conditions: none of its places is frozen; each of its words within memory's reach.
-/
import Derived.Test.YtgkmhdifjgpbeaaDoorTrees
import Derived.Test.YtgkmhdifjgpbeaaDoorProg
import Derived.ChangeArms
import Derived.ChangeReads
import Derived.KernelRfl
import GoSem.ClaimJoined
namespace Go.Proofs.YtgkmhdifjgpbeaaDoor
open Go.RowKit

theorem cells41 : Tryd.prog.cellsOf 41 = 2 := by kernel_rfl
theorem cells9 : Tryd.prog.cellsOf 9 = 1 := by kernel_rfl
theorem cells23 : Tryd.prog.cellsOf 23 = 1 := by kernel_rfl

theorem add_cell {w : World} {a : Addr} {j : Nat} {u : Value} (h : w.cell? (a.add j) = some u) : w.cell? ⟨a.block, a.off + j, none⟩ = some u := by
  by_cases hj : j = 0
  · subst hj
    have hs : a.spot = none := by
      cases hsp : a.spot with
      | none => rfl
      | some k =>
        exfalso
        simp only [Addr.add, if_pos] at h
        unfold World.cell? at h
        rw [hsp] at h
        cases hb : w.heap[a.block]? with
        | none => rw [hb] at h; cases h
        | some o => rw [hb] at h; cases o <;> simp at h
    have ha : a.add 0 = ⟨a.block, a.off + 0, none⟩ := by
      cases a; simp at hs; subst hs; rfl
    rw [← ha]; exact h
  · simpa [Addr.add, hj] using h
theorem add_spot {w : World} {a : Addr} {u : Value} (h : w.cell? (a.add 0) = some u) : a = ⟨a.block, a.off, none⟩ := by
  cases hsp : a.spot with
  | none => cases a; simp at hsp; subst hsp; rfl
  | some k =>
    exfalso
    simp only [Addr.add, if_pos] at h
    unfold World.cell? at h
    rw [hsp] at h
    cases hb : w.heap[a.block]? with
    | none => rw [hb] at h; cases h
    | some o => rw [hb] at h; cases o <;> simp at h
theorem add_add (a : Addr) (i j : Nat) : (a.add i).add j = a.add (i + j) := by
  by_cases hi : i = 0
  · subst hi; simp [Addr.add]
  · by_cases hj : j = 0
    · subst hj; simp [Addr.add]
    · simp [Addr.add, hi, hj, Nat.add_assoc]
theorem weightsAll_mem {H : Type} {P : Program} {e : TypeId} {q : Nat → Bool} : ∀ {l : List (DataW H)} {d : DataW H}, d ∈ l → (DataW.weightsAll P e l).all q = true → (d.weights P e).all q = true
  | x :: r, d, hd, h => by
    rw [DataW.weightsAll, List.all_append, Bool.and_eq_true] at h
    rcases List.mem_cons.1 hd with rfl | hd
    · exact h.1
    · exact weightsAll_mem hd h.2

theorem two_of {α : Type} : ∀ {l : List α}, l.length = 2 → ∃ a b, l = [a, b]
  | [a, b], _ => ⟨a, b, rfl⟩
  | [], h => by cases h
  | [_], h => by cases h
  | _ :: _ :: _ :: _, h => by simp at h

/-- A word and a row. -/
theorem open_tree {H : Type} {enc : TypeId × Value → H} {W : World} {sp : Nat → Bool} {held : Bool} {n : Nat} {cs : List Value} {x : DataW H × List MemPlace} (h : DataW.trod enc Tryd.prog W 0 sp held n 41 cs = some x) :
    ∃ n' s c1 x1, n = n' + 1 ∧ cs = [.string s, c1] ∧ s.size ≤ maxLen ∧ x = (.agg [.lit (.string s.data.toList), x1.1], x1.2) ∧ DataW.trod enc Tryd.prog W 0 sp held n' 23 [c1] = some x1 := by
  obtain ⟨xs, n', rfl, rfl, hl, hxs, hf⟩ := DataW.trod_struct Tryd.underlying41 h
  rw [cells41] at hl
  obtain ⟨c0, c1, rfl⟩ := two_of hl
  obtain ⟨x0, x1, rfl⟩ := two_of hxs
  have h0 : DataW.trod enc Tryd.prog W 0 sp held n' 9 (([c0, c1].drop 0).take (Tryd.prog.cellsOf 9)) = some x0 := hf 0 _ rfl
  have h1 : DataW.trod enc Tryd.prog W 0 sp held n' 23 (([c0, c1].drop 1).take (Tryd.prog.cellsOf 23)) = some x1 := hf 1 _ rfl
  rw [cells9] at h0
  rw [cells23] at h1
  have h0' : DataW.trod enc Tryd.prog W 0 sp held n' 9 [c0] = some x0 := h0
  have h1' : DataW.trod enc Tryd.prog W 0 sp held n' 23 [c1] = some x1 := h1
  obtain ⟨s, e, rfl, hs⟩ := DataW.trod_string Tryd.underlying9 h0'
  cases e
  exact ⟨n', s, c1, x1, rfl, rfl, hs, by simp, h1'⟩

theorem open_trees {H : Type} {enc : TypeId × Value → H} {W : World} {held : Bool} : ∀ (fuel : Nat) (cs : List Value) (x : DataW H × List MemPlace), DataW.trod enc Tryd.prog W 0 (fun _ => true) held fuel 23 cs = some x →
    (∀ b off, MemPlace.cell b off ∈ x.2 → W.frozen? ⟨b, off, none⟩ = false) → (x.1.weights Tryd.prog 23).all (· ≤ reachBytes) = true → ∃ v T, cs = [v] ∧ Sl (U W) 0 W.heap.size v T := by
  intro fuel
  induction fuel using Nat.strongRecOn with
  | _ fuel IH =>
    intro cs x h hz hw
    rcases DataW.trod_slice Tryd.underlying23 h with ⟨rfl, rfl⟩ | ⟨a, len, cap, elems, rest, n, rfl, rfl, rfl, -, hl, hm, hlen, hel, -, -⟩
    · exact ⟨_, .nil, rfl, Sl.none_ _ _ _⟩
    · by_cases h0 : len = 0
      · subst h0
        exact ⟨_, .nil, rfl, some a, 0, cap, rfl, rfl, hl, hm, .inr (.inl ⟨rfl, by simp⟩)⟩
      · rw [cells41] at hel hz
        have hwe : (DataW.weightsAll Tryd.prog 41 (elems.map (·.1))).all (· ≤ reachBytes) = true := by
          simp only [DataW.weights, Tryd.underlying23, List.all_cons, List.all_append, Bool.and_eq_true] at hw
          exact hw.2.1
        have one : ∀ i, i < len → ∃ s v T, W.cell? (a.add (i * 2)) = some (.string s) ∧ W.cell? (a.add (i * 2 + 1)) = some v ∧ s.size ≤ 140737488355328 ∧ Sl (U W) 0 W.heap.size v T := by
          intro i hi
          have hi' : i < elems.length := by omega
          have he := hel i hi
          rw [List.getElem?_eq_getElem hi'] at he
          obtain ⟨cs2, hc2, ht2⟩ := Option.bind_eq_some_iff.1 he
          obtain ⟨-, hcl, hcc⟩ := World.cells?_some hc2
          obtain ⟨n', s, c1, x1, rfl, rfl, hs, hx, ht3⟩ := open_tree ht2
          have hmem : elems[i] ∈ elems := List.getElem_mem hi'
          have hwi := weightsAll_mem (List.mem_map_of_mem (f := (·.1)) hmem) hwe
          rw [hx] at hwi
          simp only [DataW.weights, Tryd.underlying41, DataW.weightsEach, List.map_cons, List.map_nil, List.all_append, List.all_cons, List.all_nil, Bool.and_eq_true, Bool.and_true, List.append_nil] at hwi
          obtain ⟨v, T, hv, hT⟩ := IH n' (by omega) [c1] x1 ht3 (fun b off hp => hz b off (by
            refine List.mem_append.2 (.inr (List.mem_flatMap.2 ⟨elems[i], List.mem_append.2 (.inl hmem), ?_⟩))
            rw [hx]; exact hp)) hwi.2
          cases hv
          have c0 := hcc 0 (by omega)
          have c1' := hcc 1 (by omega)
          rw [add_add] at c0 c1'
          refine ⟨s, c1, T, by simpa using c0, by simpa using c1', ?_, hT⟩
          have h2 : s.data.toList.length ≤ reachBytes := of_decide_eq_true hwi.1
          have e2 : s.data.toList.length = s.size := by rw [Array.length_toList]; rfl
          unfold reachBytes at h2
          omega
        have uno : ∀ j, j < len * 2 → W.frozen? ⟨a.block, a.off + j, none⟩ = false := fun j hj => hz _ _ (List.mem_append.2 (.inl (by
          unfold MemPlace.row
          exact List.mem_map.2 ⟨j, List.mem_range.2 (by have : len * 2 ≤ (elems.length + rest.length) * 2 := by omega
                                                        omega), rfl⟩)))
        obtain ⟨s0, v0, T0, hc0, -, -, -⟩ := one 0 (by omega)
        have ha := add_spot (by simpa using hc0)
        have hblk : a.block < W.heap.size := World.block_lt_of_cell? W ⟨a.block, a.off + 0 * 2, none⟩ (add_cell hc0)
        have build : ∀ m, m ≤ len → ∃ T, T.len = m ∧ TAt (U W) 0 W.heap.size T a.block (a.off + (len - m) * 2) := by
          intro m
          induction m with
          | zero => exact fun _ => ⟨.nil, rfl, trivial⟩
          | succ m ihm =>
            intro hm'
            obtain ⟨T, hT, hA⟩ := ihm (by omega)
            obtain ⟨s, v, K, hs, hv, hsz, hK⟩ := one (len - (m + 1)) (by omega)
            refine ⟨.cons s K T, by simp [Ts.len, hT], TAt_cons.2 ⟨U_mk (add_cell hs) (uno ((len - (m + 1)) * 2) (by omega)), hsz, ⟨v, ?_, hK⟩, ?_⟩⟩
            · have := add_cell hv
              exact U_mk this (uno ((len - (m + 1)) * 2 + 1) (by omega))
            · rw [show a.off + (len - (m + 1)) * 2 + 2 = a.off + (len - m) * 2 by omega]
              exact hA
        obtain ⟨T, hT, hA⟩ := build len (Nat.le_refl _)
        rw [Nat.sub_self, Nat.zero_mul, Nat.add_zero] at hA
        exact ⟨_, T, rfl, some a, len, cap, rfl, hT.symm, hl, hm, .inr (.inr ⟨a.block, a.off, by rw [← ha], Nat.zero_le _, hblk, hA⟩)⟩
end Go.Proofs.YtgkmhdifjgpbeaaDoor
