/-
  All lists of a bag are found apart; so are rows of terms that are owned. Conditions: no more than 10000000 lists, of no more than 10000000 elements. Owned rows of terms, in a list that lies somewhere, are found apart. Conditions: no more than 1000000 nodes, levels, parts. The law on tuples, walked. Conditions: no more than 2000000 nodes, levels, parts. Conditions: as each lemma states them.
-/
import Derived.Test.YtkcmapimcgppmaaGreatDoorM27
import Derived.Test.YtkcmapimcgppmaaGreatDoorM16
import Derived.Test.YtkcmapimcgppmaaGreatDoorM18
import Derived.Test.YtkcmapimcgppmaaGreatDoorM19
set_option linter.all false
set_option linter.unusedVariables false
set_option linter.unusedSimpArgs false
set_option linter.unnecessarySimpa false
section
namespace Go.Proofs.YtkcmapimcgppmaaGreatDoor
open Go.RowKit

/-- Only blocks of X turn, of those that were. -/
structure Tb (X : Nat → Prop) (w w' : World) : Prop where
  os : w'.os = w.os
  tape : w'.tape = w.tape
  output : w'.output = w.output
  size : w.heap.size ≤ w'.heap.size
  block : ∀ b, b < w.heap.size → ¬ X b → w'.heap[b]? = w.heap[b]?
theorem Tn.tb {em : Nat} {X : Nat → Prop} {w w' : World} (h : Tn em X w w') : Tb X w w' := ⟨h.os, h.tape, h.output, h.size, h.block⟩
theorem Tb.of_below {X : Nat → Prop} {w w' : World} (h : Below w.heap.size w w') : Tb X w w' := ⟨h.os, h.tape, h.output, h.size, fun b hb _ => h.block b hb⟩
theorem Tb.trans {X : Nat → Prop} {a b c : World} (h : Tb X a b) (k : Tb X b c) : Tb X a c :=
  ⟨k.os.trans h.os, k.tape.trans h.tape, k.output.trans h.output, Nat.le_trans h.size k.size, fun i hi hx => (k.block i (Nat.lt_of_lt_of_le hi h.size) hx).trans (h.block i hi hx)⟩
theorem Tb.mono {X Y : Nat → Prop} {w w' : World} (h : Tb X w w') (hxy : ∀ i, i < w.heap.size → X i → Y i) : Tb Y w w' := ⟨h.os, h.tape, h.output, h.size, fun i hi hy => h.block i hi (fun hx => hy (hxy i hi hx))⟩
/-- A block of another type than those that turn stays. -/
theorem Tb.other {X : Nat → Prop} {w w' : World} (ht : Tb X w w') {e : Nat} (hx : ∀ b, X b → ∃ cur, w.heap[b]? = some (Obj.cells cur e (0, 0))) {b e' : Nat} {cur : Array Value} (hb : w.heap[b]? = some (Obj.cells cur e' (0, 0))) (hne : e' ≠ e) : w'.heap[b]? = some (Obj.cells cur e' (0, 0)) := by
  rw [ht.block b (heap_lt hb) (fun h => by
    obtain ⟨cur', q⟩ := hx b h
    rw [hb] at q; cases q; exact hne rfl)]
  exact hb
theorem BagAt.tb {w w' : World} {β B0 : Nat} {f : Nat → List Value} (h : BagAt w β B0 f) {X : Nat → Prop} (ht : Tb X w w') {e : Nat} (he : e ≠ 114 ∧ ∀ i, i < 17 → e ≠ tyB i) (hx : ∀ b, X b → ∃ cur, w.heap[b]? = some (Obj.cells cur e (0, 0))) : BagAt w' β B0 f := by
  obtain ⟨h0, cur, h1, h2, h3⟩ := h
  refine ⟨h0, cur, ht.other hx h1 he.1.symm, h2, fun i hi => ?_⟩
  obtain ⟨v, h4, h5, h6⟩ := h3 i hi
  exact ⟨v, h4, h5, ownsRow_other h6 fun b cur' hb => by rw [ht.other hx hb (he.2 i hi).symm]; exact hb.symm⟩
/-- A list in the bag, as a walk of its kind asks for it. -/
theorem BagAt.list {w : World} {β B0 : Nat} {f : Nat → List Value} (h : BagAt w β B0 f) {i : Nat} (hi : i < 17) {K : Kd} (hne : tyB i ≠ K.e) (hp : 0 < K.sz) {N base : Nat} {Bs : List Nat} (ho : Ows w base K.sz K.e N (f i) Bs) (em : Nat) : ∃ L ql cl, w.cell? ⟨β, i, none⟩ = some (.slice ql (f i).length cl) ∧ (f i).length ≤ cl ∧ cl ≤ maxLen ∧
    (∀ (k : Nat) (v : Value), (f i)[k]? = some v → ql = some ⟨L, 0, none⟩ ∧ vn v ≤ N) ∧ ¬ InV (f i) L ∧ ∀ W, Tn em (InV (f i)) w W → ∀ (k : Nat) (v : Value), (f i)[k]? = some v → U W L k = some v := by
  obtain ⟨v, h1, -, h2, h3⟩ := h.cell hi
  have hN : ∀ (k : Nat) (v : Value), (f i)[k]? = some v → vn v ≤ N := fun k v hv => by
    obtain ⟨B, q, -⟩ := ho.at_ k v hv
    exact (q.rowI hp k).2
  rcases h3.2 with ⟨rfl, h30⟩ | ⟨g, cap, cur, rfl, -, h4, h5, h6, h7, h8⟩
  · have h9 : f i = [] := List.eq_nil_of_length_eq_zero h30
    refine ⟨0, none, 0, by rw [h1, h30], by omega, Nat.zero_le _, fun k v hv => by rw [h9] at hv; simp at hv, fun ⟨v, hv, _⟩ => by rw [h9] at hv; simp at hv, fun W _ k v hv => by rw [h9] at hv; simp at hv⟩
  · have ha : ∀ (k : Nat) (v : Value), (f i)[k]? = some v → cur[k]? = some v := fun k v hv => by
      have hk : k < (f i).length := (List.getElem?_eq_some_iff.1 hv).1
      rw [Nat.mul_one] at h8
      rw [← h8, List.getElem?_take, if_pos hk] at hv
      simpa using hv
    obtain ⟨q1, q2⟩ := list_cells (em := em) (ho.rows hp) hne h4 ha
    exact ⟨g, _, cap, h1, h5, h6, fun k v hv => ⟨rfl, hN k v hv⟩, q1, q2⟩
theorem BagAt.none_ {w : World} {β B0 : Nat} {f : Nat → List Value} (h : BagAt w β B0 f) {i : Nat} (hi : i < 17) (h0 : f i = []) : w.cell? ⟨β, i, none⟩ = some (.slice none 0 0) := by
  obtain ⟨v, h1, -, h2, -⟩ := h.cell hi
  rw [h1, h2 h0]
theorem ty77 : (77 : Nat) ≠ 114 ∧ ∀ i, i < 17 → (77 : Nat) ≠ tyB i := by decide
theorem ty43 : (43 : Nat) ≠ 114 ∧ ∀ i, i < 17 → (43 : Nat) ≠ tyB i := by decide

set_option maxRecDepth 100000 in
set_option maxHeartbeats 4000000 in
theorem apart_any (β B0 N : Nat) (f : Nat → List Value) (BP BL BT : List Nat) (w : World) (h : BagAt w β B0 f) (hf : ∀ i, i ≠ 7 → i ≠ 8 → i ≠ 9 → f i = []) (hN : N ≤ 10000000) (hP : Ows w 0 2 77 N (f 7) BP) (hL : Ows w 0 1 43 N (f 8) BL) (hT : Ows w 0 5 26 N (f 9) BT)
    (nP : BP.Nodup) (nL : BL.Nodup) (nT : BT.Nodup) (l7 : (f 7).length ≤ 10000000) (l8 : (f 8).length ≤ 10000000) (l9 : (f 9).length ≤ 10000000) :
    Calls Tryz.prog 69 #[.pointer (some ⟨β, 0, none⟩)] w fun e w' => e = .returned (.bool true) ∧ Tb (fun b => b ∈ BP ++ (BL ++ BT)) w w' := by
  have HFN := Lib.hid hf
  have HG := Lib.hid h
  have HP := Lib.hid hP
  have HL := Lib.hid hL
  have HT := Lib.hid hT
  have c0 := h.none_ (i := 0) (by decide) (hf 0 (by decide) (by decide) (by decide))
  clear h hf hP hL hT
  go_enter Tryz.func69, Tryz.ntmps69
  go_wp2_with fail
  refine (flat131_none _).mono ?_
  rintro e w1 ⟨rfl, hb⟩
  have HG1 := Lib.hid (HG.out.below hb)
  have HP1 := Lib.hid (HP.out.kept fun b hm => hb.block b (by obtain ⟨-, cur, q⟩ := HP.out.typed b hm; exact heap_lt q))
  have HL1 := Lib.hid (HL.out.kept fun b hm => hb.block b (by obtain ⟨-, cur, q⟩ := HL.out.typed b hm; exact heap_lt q))
  have HT1 := Lib.hid (HT.out.kept fun b hm => hb.block b (by obtain ⟨-, cur, q⟩ := HT.out.typed b hm; exact heap_lt q))
  have HX1 : Hid (Tb (fun b => b ∈ BP ++ (BL ++ BT)) w w1) := Lib.hid (Tb.of_below hb)
  clear hb c0 HG HP HL HT
  have c1 := HG1.out.none_ (i := 1) (by decide) (HFN.out 1 (by decide) (by decide) (by decide))
  go_wp2_with fail
  refine (flat132_none _).mono ?_
  rintro e w2 ⟨rfl, hb⟩
  have HG2 := Lib.hid (HG1.out.below hb)
  have HP2 := Lib.hid (HP1.out.kept fun b hm => hb.block b (by obtain ⟨-, cur, q⟩ := HP1.out.typed b hm; exact heap_lt q))
  have HL2 := Lib.hid (HL1.out.kept fun b hm => hb.block b (by obtain ⟨-, cur, q⟩ := HL1.out.typed b hm; exact heap_lt q))
  have HT2 := Lib.hid (HT1.out.kept fun b hm => hb.block b (by obtain ⟨-, cur, q⟩ := HT1.out.typed b hm; exact heap_lt q))
  have HX2 : Hid (Tb (fun b => b ∈ BP ++ (BL ++ BT)) w w2) := Lib.hid (HX1.out.trans (Tb.of_below hb))
  clear hb c1 HG1 HX1 HP1 HL1 HT1
  have c2 := HG2.out.none_ (i := 2) (by decide) (HFN.out 2 (by decide) (by decide) (by decide))
  go_wp2_with fail
  refine (flat133_none _).mono ?_
  rintro e w3 ⟨rfl, hb⟩
  have HG3 := Lib.hid (HG2.out.below hb)
  have HP3 := Lib.hid (HP2.out.kept fun b hm => hb.block b (by obtain ⟨-, cur, q⟩ := HP2.out.typed b hm; exact heap_lt q))
  have HL3 := Lib.hid (HL2.out.kept fun b hm => hb.block b (by obtain ⟨-, cur, q⟩ := HL2.out.typed b hm; exact heap_lt q))
  have HT3 := Lib.hid (HT2.out.kept fun b hm => hb.block b (by obtain ⟨-, cur, q⟩ := HT2.out.typed b hm; exact heap_lt q))
  have HX3 : Hid (Tb (fun b => b ∈ BP ++ (BL ++ BT)) w w3) := Lib.hid (HX2.out.trans (Tb.of_below hb))
  clear hb c2 HG2 HX2 HP2 HL2 HT2
  have c3 := HG3.out.none_ (i := 3) (by decide) (HFN.out 3 (by decide) (by decide) (by decide))
  go_wp2_with fail
  refine (flat134_none _).mono ?_
  rintro e w4 ⟨rfl, hb⟩
  have HG4 := Lib.hid (HG3.out.below hb)
  have HP4 := Lib.hid (HP3.out.kept fun b hm => hb.block b (by obtain ⟨-, cur, q⟩ := HP3.out.typed b hm; exact heap_lt q))
  have HL4 := Lib.hid (HL3.out.kept fun b hm => hb.block b (by obtain ⟨-, cur, q⟩ := HL3.out.typed b hm; exact heap_lt q))
  have HT4 := Lib.hid (HT3.out.kept fun b hm => hb.block b (by obtain ⟨-, cur, q⟩ := HT3.out.typed b hm; exact heap_lt q))
  have HX4 : Hid (Tb (fun b => b ∈ BP ++ (BL ++ BT)) w w4) := Lib.hid (HX3.out.trans (Tb.of_below hb))
  clear hb c3 HG3 HX3 HP3 HL3 HT3
  have c4 := HG4.out.none_ (i := 4) (by decide) (HFN.out 4 (by decide) (by decide) (by decide))
  go_wp2_with fail
  refine (flat135_none _).mono ?_
  rintro e w5 ⟨rfl, hb⟩
  have HG5 := Lib.hid (HG4.out.below hb)
  have HP5 := Lib.hid (HP4.out.kept fun b hm => hb.block b (by obtain ⟨-, cur, q⟩ := HP4.out.typed b hm; exact heap_lt q))
  have HL5 := Lib.hid (HL4.out.kept fun b hm => hb.block b (by obtain ⟨-, cur, q⟩ := HL4.out.typed b hm; exact heap_lt q))
  have HT5 := Lib.hid (HT4.out.kept fun b hm => hb.block b (by obtain ⟨-, cur, q⟩ := HT4.out.typed b hm; exact heap_lt q))
  have HX5 : Hid (Tb (fun b => b ∈ BP ++ (BL ++ BT)) w w5) := Lib.hid (HX4.out.trans (Tb.of_below hb))
  clear hb c4 HG4 HX4 HP4 HL4 HT4
  have c5 := HG5.out.none_ (i := 5) (by decide) (HFN.out 5 (by decide) (by decide) (by decide))
  go_wp2_with fail
  refine (flat136_none _).mono ?_
  rintro e w6 ⟨rfl, hb⟩
  have HG6 := Lib.hid (HG5.out.below hb)
  have HP6 := Lib.hid (HP5.out.kept fun b hm => hb.block b (by obtain ⟨-, cur, q⟩ := HP5.out.typed b hm; exact heap_lt q))
  have HL6 := Lib.hid (HL5.out.kept fun b hm => hb.block b (by obtain ⟨-, cur, q⟩ := HL5.out.typed b hm; exact heap_lt q))
  have HT6 := Lib.hid (HT5.out.kept fun b hm => hb.block b (by obtain ⟨-, cur, q⟩ := HT5.out.typed b hm; exact heap_lt q))
  have HX6 : Hid (Tb (fun b => b ∈ BP ++ (BL ++ BT)) w w6) := Lib.hid (HX5.out.trans (Tb.of_below hb))
  clear hb c5 HG5 HX5 HP5 HL5 HT5
  have c6 := HG6.out.none_ (i := 6) (by decide) (HFN.out 6 (by decide) (by decide) (by decide))
  go_wp2_with fail
  refine (flat137_none _).mono ?_
  rintro e w7 ⟨rfl, hb⟩
  have HG7 := Lib.hid (HG6.out.below hb)
  have HP7 := Lib.hid (HP6.out.kept fun b hm => hb.block b (by obtain ⟨-, cur, q⟩ := HP6.out.typed b hm; exact heap_lt q))
  have HL7 := Lib.hid (HL6.out.kept fun b hm => hb.block b (by obtain ⟨-, cur, q⟩ := HL6.out.typed b hm; exact heap_lt q))
  have HT7 := Lib.hid (HT6.out.kept fun b hm => hb.block b (by obtain ⟨-, cur, q⟩ := HT6.out.typed b hm; exact heap_lt q))
  have HX7 : Hid (Tb (fun b => b ∈ BP ++ (BL ++ BT)) w w7) := Lib.hid (HX6.out.trans (Tb.of_below hb))
  clear hb c6 HG6 HX6 HP6 HL6 HT6
  obtain ⟨L7, q7, d7, c7, g7, m7, a7, b7⟩ := HG7.out.list (i := 7) (by decide) (K := KP) (by decide) (by decide) HP7.out KP.em
  have HF7 := Lib.hid (flat138_any (f 7) L7 q7 d7 w7 l7 g7 m7 (fun k v hv => ⟨(a7 k v hv).1, Nat.le_trans (a7 k v hv).2 hN⟩) b7 (HP7.out.rows (K := KP) (by decide)) (HP7.out.dist nP))
  clear g7 m7 a7 b7
  go_wp2_with fail
  refine HF7.out.mono ?_
  rintro e w8 ⟨rfl, hb⟩
  have hty : ∀ b, InV (f 7) b → ∃ cur, w7.heap[b]? = some (Obj.cells cur 77 (0, 0)) := fun b hm => (HP7.out.typed b (HP7.out.inV hm)).2
  have HG8 := Lib.hid (HG7.out.tb hb.tb ty77 hty)
  have HL8 := Lib.hid (HL7.out.kept fun b hm => by obtain ⟨-, cur, q⟩ := HL7.out.typed b hm; rw [hb.tb.other hty q (by decide)]; exact q.symm)
  have HT8 := Lib.hid (HT7.out.kept fun b hm => by obtain ⟨-, cur, q⟩ := HT7.out.typed b hm; rw [hb.tb.other hty q (by decide)]; exact q.symm)
  have HX8 := Lib.hid (HX7.out.trans (hb.tb.mono fun b _ hm => List.mem_append_left _ (HP7.out.inV hm)))
  clear hb hty c7 HG7 HX7 HF7 HP7 HL7 HT7
  obtain ⟨L8, q8, d8, c8, g8, m8, a8, b8⟩ := HG8.out.list (i := 8) (by decide) (K := KL) (by decide) (by decide) HL8.out KL.em
  have HF8 := Lib.hid (flat139_any (f 8) L8 q8 d8 w8 l8 g8 m8 (fun k v hv => ⟨(a8 k v hv).1, Nat.le_trans (a8 k v hv).2 hN⟩) b8 (HL8.out.rows (K := KL) (by decide)) (HL8.out.dist nL))
  clear g8 m8 a8 b8
  go_wp2_with fail
  refine HF8.out.mono ?_
  rintro e w9 ⟨rfl, hb⟩
  have hty : ∀ b, InV (f 8) b → ∃ cur, w8.heap[b]? = some (Obj.cells cur 43 (0, 0)) := fun b hm => (HL8.out.typed b (HL8.out.inV hm)).2
  have HG9 := Lib.hid (HG8.out.tb hb.tb ty43 hty)
  have HT9 := Lib.hid (HT8.out.kept fun b hm => by obtain ⟨-, cur, q⟩ := HT8.out.typed b hm; rw [hb.tb.other hty q (by decide)]; exact q.symm)
  have HX9 := Lib.hid (HX8.out.trans (hb.tb.mono fun b _ hm => List.mem_append_right _ (List.mem_append_left _ (HL8.out.inV hm))))
  clear hb hty c8 HG8 HX8 HF8 HL8 HT8
  obtain ⟨L9, q9, d9, c9, g9, m9, a9, b9⟩ := HG9.out.list (i := 9) (by decide) (K := KT) (by decide) (by decide) HT9.out KT.em
  have HF9 := Lib.hid (flat140_any (f 9) L9 q9 d9 w9 l9 g9 m9 (fun k v hv => ⟨(a9 k v hv).1, Nat.le_trans (a9 k v hv).2 hN⟩) b9 (HT9.out.rows (K := KT) (by decide)) (HT9.out.dist nT))
  clear g9 m9 a9 b9
  go_wp2_with fail
  refine HF9.out.mono ?_
  rintro e w10 ⟨rfl, hb⟩
  have hty : ∀ b, InV (f 9) b → ∃ cur, w9.heap[b]? = some (Obj.cells cur 26 (0, 0)) := fun b hm => (HT9.out.typed b (HT9.out.inV hm)).2
  have HG10 := Lib.hid (HG9.out.tb hb.tb ty26 hty)
  have HX10 := Lib.hid (HX9.out.trans (hb.tb.mono fun b _ hm => List.mem_append_right _ (List.mem_append_right _ (HT9.out.inV hm))))
  clear hb hty c9 HG9 HX9 HF9 HT9
  have c10 := HG10.out.none_ (i := 10) (by decide) (HFN.out 10 (by decide) (by decide) (by decide))
  go_wp2_with fail
  refine (flat141_none _).mono ?_
  rintro e w11 ⟨rfl, hb⟩
  have HG11 := Lib.hid (HG10.out.below hb)
  have HX11 : Hid (Tb (fun b => b ∈ BP ++ (BL ++ BT)) w w11) := Lib.hid (HX10.out.trans (Tb.of_below hb))
  clear hb c10 HG10 HX10 
  have c11 := HG11.out.none_ (i := 11) (by decide) (HFN.out 11 (by decide) (by decide) (by decide))
  go_wp2_with fail
  refine (flat142_none _).mono ?_
  rintro e w12 ⟨rfl, hb⟩
  have HG12 := Lib.hid (HG11.out.below hb)
  have HX12 : Hid (Tb (fun b => b ∈ BP ++ (BL ++ BT)) w w12) := Lib.hid (HX11.out.trans (Tb.of_below hb))
  clear hb c11 HG11 HX11 
  have c12 := HG12.out.none_ (i := 12) (by decide) (HFN.out 12 (by decide) (by decide) (by decide))
  go_wp2_with fail
  refine (flat143_none _).mono ?_
  rintro e w13 ⟨rfl, hb⟩
  have HG13 := Lib.hid (HG12.out.below hb)
  have HX13 : Hid (Tb (fun b => b ∈ BP ++ (BL ++ BT)) w w13) := Lib.hid (HX12.out.trans (Tb.of_below hb))
  clear hb c12 HG12 HX12 
  have c13 := HG13.out.none_ (i := 13) (by decide) (HFN.out 13 (by decide) (by decide) (by decide))
  go_wp2_with fail
  refine (flat144_none _).mono ?_
  rintro e w14 ⟨rfl, hb⟩
  have HG14 := Lib.hid (HG13.out.below hb)
  have HX14 : Hid (Tb (fun b => b ∈ BP ++ (BL ++ BT)) w w14) := Lib.hid (HX13.out.trans (Tb.of_below hb))
  clear hb c13 HG13 HX13 
  have c14 := HG14.out.none_ (i := 14) (by decide) (HFN.out 14 (by decide) (by decide) (by decide))
  go_wp2_with fail
  refine (flat145_none _).mono ?_
  rintro e w15 ⟨rfl, hb⟩
  have HG15 := Lib.hid (HG14.out.below hb)
  have HX15 : Hid (Tb (fun b => b ∈ BP ++ (BL ++ BT)) w w15) := Lib.hid (HX14.out.trans (Tb.of_below hb))
  clear hb c14 HG14 HX14 
  have c15 := HG15.out.none_ (i := 15) (by decide) (HFN.out 15 (by decide) (by decide) (by decide))
  go_wp2_with fail
  refine (flat146_none _).mono ?_
  rintro e w16 ⟨rfl, hb⟩
  have HG16 := Lib.hid (HG15.out.below hb)
  have HX16 : Hid (Tb (fun b => b ∈ BP ++ (BL ++ BT)) w w16) := Lib.hid (HX15.out.trans (Tb.of_below hb))
  clear hb c15 HG15 HX15 
  have c16 := HG16.out.none_ (i := 16) (by decide) (HFN.out 16 (by decide) (by decide) (by decide))
  go_wp2_with fail
  refine (flat147_none _).mono ?_
  rintro e w17 ⟨rfl, hb⟩
  have HG17 := Lib.hid (HG16.out.below hb)
  have HX17 : Hid (Tb (fun b => b ∈ BP ++ (BL ++ BT)) w w17) := Lib.hid (HX16.out.trans (Tb.of_below hb))
  clear hb c16 HG16 HX16 
  go_wp2_with fail
  go_ret
  exact ⟨rfl, HX17.out⟩

/-- Rows of terms, with what lies within them. -/
def QP (q : List (Value × VT)) : List Value := q.flatMap (·.2.P)
def QL (q : List (Value × VT)) : List Value := q.flatMap (·.2.L)
def QT (q : List (Value × VT)) : List Value := q.flatMap fun x => x.1 :: x.2.T
def QS (q : List (Value × VT)) : Nat := (q.map fun x => x.2.size + 1).sum
def f0 : Nat → List Value := fun _ => []

set_option maxHeartbeats 2000000 in
theorem apartTerms_any (qs : List (Value × VT)) (ql : Option Addr) (cl N : Nat) (BP BL BT : List Nat) (w : World) (hcl : qs.length ≤ cl) (hcm : cl ≤ maxLen) (hc : 0 < qs.length → ∃ b o, ql = some ⟨b, o, none⟩ ∧ b < w.heap.size ∧ ∀ i q, qs[i]? = some q → U w b (o + i) = some q.1)
    (hk : ∀ q ∈ qs, GK (U w) w.heap.size q.1 q.2) (hP : Ows w 0 2 77 N (QP qs) BP) (hL : Ows w 0 1 43 N (QL qs) BL) (hT : Ows w 0 5 26 N (QT qs) BT) (hn : (BP ++ (BL ++ BT)).Nodup) (hN : N ≤ 10000000) (hs : QS qs ≤ 4000000) :
    Calls Tryz.prog 24 #[.slice ql qs.length cl] w fun e w' => e = .returned (.bool true) ∧ Tb (fun b => b ∈ BP ++ (BL ++ BT)) w w' := by
  unfold maxLen at hcm
  obtain ⟨n, hq⟩ : ∃ n, qs.length = n := ⟨_, rfl⟩
  have HQ := Lib.hid hq
  rw [hq] at hcl hc ⊢
  have hlen : ∀ l : List (Value × VT), l.length ≤ QS l ∧ (QP l).length ≤ QS l ∧ (QL l).length ≤ QS l ∧ (QT l).length ≤ QS l := by
    intro l
    induction l with
    | nil => exact ⟨Nat.le_refl _, Nat.le_refl _, Nat.le_refl _, Nat.le_refl _⟩
    | cons a l ih =>
      have := a.2.lens
      simp only [QP, QL, QT, QS, List.flatMap_cons, List.map_cons, List.sum_cons, List.length_append, List.length_cons] at ih ⊢
      omega
  have hn0 : n ≤ 4000000 := by have := (hlen qs).1; omega
  have hg := heap_alloc_new w (.cells #[.slice none 0 0, .slice none 0 0, .slice none 0 0, .slice none 0 0, .slice none 0 0, .slice none 0 0, .slice none 0 0, .slice none 0 0, .slice none 0 0, .slice none 0 0, .slice none 0 0, .slice none 0 0, .slice none 0 0, .slice none 0 0, .slice none 0 0, .slice none 0 0, .slice none 0 0] 114)
  have hb0 := below_alloc w (.cells #[.slice none 0 0, .slice none 0 0, .slice none 0 0, .slice none 0 0, .slice none 0 0, .slice none 0 0, .slice none 0 0, .slice none 0 0, .slice none 0 0, .slice none 0 0, .slice none 0 0, .slice none 0 0, .slice none 0 0, .slice none 0 0, .slice none 0 0, .slice none 0 0, .slice none 0 0] 114)
  obtain ⟨wb, hwb⟩ : ∃ wb, w.alloc (.cells #[.slice none 0 0, .slice none 0 0, .slice none 0 0, .slice none 0 0, .slice none 0 0, .slice none 0 0, .slice none 0 0, .slice none 0 0, .slice none 0 0, .slice none 0 0, .slice none 0 0, .slice none 0 0, .slice none 0 0, .slice none 0 0, .slice none 0 0, .slice none 0 0, .slice none 0 0] 114) = wb := ⟨_, rfl⟩
  obtain ⟨β, hβ⟩ : ∃ β, w.heap.size = β := ⟨_, rfl⟩
  rw [hwb] at hg hb0
  have HBAG : Hid (BagAt wb β w.heap.size f0) := Lib.hid ⟨by omega, _, by rw [← hβ]; exact hg, rfl, fun i hi => by
    refine ⟨.slice none 0 0, ?_, fun _ => rfl, rfl, .inl ⟨rfl, rfl⟩⟩
    have : ∀ i, i < 17 → (#[.slice none 0 0, .slice none 0 0, .slice none 0 0, .slice none 0 0, .slice none 0 0, .slice none 0 0, .slice none 0 0, .slice none 0 0, .slice none 0 0, .slice none 0 0, .slice none 0 0, .slice none 0 0, .slice none 0 0, .slice none 0 0, .slice none 0 0, .slice none 0 0, .slice none 0 0] : Array Value)[i]? = some (.slice none 0 0) := by
      intro i hi
      match i, hi with
      | 0, _ | 1, _ | 2, _ | 3, _ | 4, _ | 5, _ | 6, _ | 7, _ | 8, _ | 9, _ | 10, _ | 11, _ | 12, _ | 13, _ | 14, _ | 15, _ | 16, _ => rfl
      | k + 17, h => exact absurd h (by omega)
    exact this i hi⟩
  have HB0 := Lib.hid hb0
  have HC := Lib.hid hc
  have HK := Lib.hid hk
  have HP := Lib.hid hP
  have HL := Lib.hid hL
  have HT := Lib.hid hT
  have HLEN := Lib.hid hlen
  clear hg hb0 hc hk hP hL hT hlen hq
  go_enter Tryz.func24, Tryz.ntmps24
  go_wp2_with fail
  clear hwb
  go_loopw [4] (fun i wr => ∃ q1 q2 : List (Value × VT), q1 ++ q2 = qs ∧ i = .int .i64 q1.length ∧ BagAt wr β w.heap.size (fadd f0 (QP q1) (QL q1) (QT q1)) ∧ Below w.heap.size w wr) (fun i _ => n - (intOf i).toNat)
  case atStart => exact ⟨[], qs, rfl, rfl, by rw [show fadd f0 (QP []) (QL []) (QT []) = f0 from fadd_nil f0]; exact HBAG.out, HB0.out⟩
  case round =>
    clear HBAG
    obtain ⟨q1, q2, hqq, rfl, hG, hB⟩ := hrel
    obtain ⟨j, hj⟩ : ∃ j, q1.length = j := ⟨_, rfl⟩
    rw [hj]
    have hlen2 : q1.length + q2.length = n := by rw [← List.length_append, hqq]; exact HQ.out
    cases q2 with
    | nil =>
      obtain rfl : j = n := by rw [← hj]; simpa using hlen2
      have r1 : decide ((j : Int) < (j : Int)) = false := decide_eq_false (by omega)
      rw [List.append_nil] at hqq
      rw [hqq] at hG
      have hl := HLEN.out qs
      have hty : ∀ {sz e : Nat} {vs : List Value} {Bs : List Nat}, Ows w 0 sz e N vs Bs → Ows wr 0 sz e N vs Bs := fun h => h.kept fun b hm => hB.block b (by obtain ⟨-, cur, q⟩ := h.typed b hm; exact heap_lt q)
      obtain ⟨n1, n2, n3⟩ := List.nodup_append.1 hn
      obtain ⟨n4, n5, n6⟩ := List.nodup_append.1 n2
      have HA := Lib.hid (apart_any β w.heap.size N (fadd f0 (QP qs) (QL qs) (QT qs)) BP BL BT wr hG (fun i h7 h8 h9 => by simp [fadd, h7, h8, h9, f0]) hN (by simpa [fadd, f0] using hty HP.out) (by simpa [fadd, f0] using hty HL.out) (by simpa [fadd, f0] using hty HT.out)
        n1 n4 n5 (by simp [fadd, f0]; omega) (by simp [fadd, f0]; omega) (by simp [fadd, f0]; omega))
      have HB := Lib.hid hB
      clear hG hB hqq hlen2 hj hl hty n1 n2 n3 n4 n5 n6
      go_wp2_with fail
      refine HA.out.mono ?_
      rintro e w3 ⟨rfl, h1⟩
      have H1 := Lib.hid ((Tb.of_below HB.out).trans h1)
      clear h1 HA
      go_wp2_with fail
      go_ret
      exact ⟨rfl, H1.out⟩
    | cons a r =>
      have hlt : j < n := by rw [← hj]; simp at hlen2; omega
      have r1 : decide ((j : Int) < (n : Int)) = true := decide_eq_true (by omega)
      obtain ⟨b, o, rfl, hbw, hcs⟩ := HC.out (by omega)
      have ha : qs[j]? = some a := by rw [← hqq, List.getElem?_append_right (by omega)]; simp [hj]
      have hu := U_below hB _ _ _ hbw (hcs j a ha)
      have hgk := HK.out a (List.mem_of_getElem? ha)
      obtain ⟨p, c, hp, -⟩ := id hgk
      obtain ⟨v, x⟩ := a
      obtain rfl : v = .slice p x.len c := hp
      have hl1 := HLEN.out q1
      have hsz : QS q1 + (x.size + 1) ≤ 4000000 := by
        have : QS qs = QS q1 + (x.size + 1 + QS r) := by rw [← hqq]; simp [QS]
        omega
      have HO := Lib.hid (putTerms_any β w.heap.size (U w) (x.size + 1) x _ _ wr (by omega) hG (fun b o u hl hu => U_below hB b o u hl hu) hB.size hgk (by simp [fadd, f0]; omega) (by simp [fadd, f0]; omega) (by simp [fadd, f0]; omega))
      rw [fadd_fadd] at HO
      have e1 : QP q1 ++ x.P = QP (q1 ++ [(.slice p x.len c, x)]) := by simp [QP]
      have e2 : QL q1 ++ x.L = QL (q1 ++ [(.slice p x.len c, x)]) := by simp [QL]
      have e3 : QT q1 ++ (.slice p x.len c :: x.T) = QT (q1 ++ [(.slice p x.len c, x)]) := by simp [QT]
      rw [e1, e2, e3] at HO
      have hx2 : (q1 ++ [(Value.slice p x.len c, x)]) ++ r = qs := by rw [List.append_assoc]; exact hqq
      have hj1 : (q1 ++ [(Value.slice p x.len c, x)]).length = j + 1 := by simp [hj]
      have HX2 := Lib.hid hx2
      have HJ1 := Lib.hid hj1
      have HBB := Lib.hid hB
      have hcu := U_cell hu
      obtain ⟨z, hz⟩ : ∃ z, q1 ++ [(Value.slice p x.len c, x)] = z := ⟨_, rfl⟩
      obtain ⟨m, hm⟩ : ∃ m, x.len = m := ⟨_, rfl⟩
      rw [hz] at HO HX2 HJ1
      rw [hm] at HO hcu
      clear e1 e2 e3 hx2 hj1 hB hu hgk hl1 hsz hG hqq hlen2 hcs ha hbw hj hz hm
      go_wp2_with fail
      refine HO.out.mono ?_
      rintro e w3 ⟨rfl, h1, h2⟩
      have H1 := Lib.hid h1
      have H2 := Lib.hid (HBB.out.trans h2.below)
      clear h1 h2 HO HBB hcu
      go_wp2_with fail
      go_roundw
      case rel => exact ⟨z, r, HX2.out, by rw [HJ1.out]; go_num, H1.out, H2.out⟩
      case measure => simp [intOf]; omega
end Go.Proofs.YtkcmapimcgppmaaGreatDoor
end
section
namespace Go.Proofs.YtkcmapimcgppmaaGreatDoor
open Go.RowKit

theorem own_row {w : World} {base : Nat} {t : Ts} {v : Value} {S : List Nat} (h : Own w base (.row 5 26 (tDs ty t) .nil .nil) [v] S) : ∃ V : VT, GK (U w) w.heap.size v V ∧ V.size ≤ 2 * t.size ∧
    ∃ BP BL BT, Ows w base 2 77 t.size V.P BP ∧ Ows w base 1 43 t.size V.L BL ∧ Ows w base 5 26 t.size (v :: V.T) BT ∧ (BP ++ (BL ++ BT)).Perm S := by
  obtain ⟨_, _, ks, sp, B, T1, T2, T3, e, k1, k2, ⟨rfl, rfl⟩, ⟨rfl, rfl⟩, rfl⟩ := h
  cases e
  obtain ⟨V, v1, v2, v3, BP, BL, BT, v4, v5, v6, v7⟩ := own_terms k2
  have hs1 : t.len ≤ t.size := by
    have : ∀ t : Ts, t.len ≤ t.size := by
      intro t
      induction t with
      | nil => exact Nat.le_refl _
      | cons h x r _ ih => simp only [Ts.len, Ts.size]; omega
    exact this t
  rw [List.append_nil] at k1
  have k1' : RowO w base 5 26 v (V.len * 5) ks B := by
    rw [tDs_len, ← v1] at k1; exact k1
  refine ⟨V, ?_, v2, BP, BL, B ++ BT, v4, v5, ⟨B, BT, ⟨_, _, k1', by rw [v1]; exact Nat.mul_le_mul_right _ hs1⟩, v6, rfl⟩, ?_⟩
  · obtain ⟨p, c, rfl, q1, q2, q3⟩ := k1'.rowV (by decide)
    refine ⟨p, c, rfl, q1, q2, fun h0 => ?_⟩
    obtain ⟨b', rfl, q4, q5⟩ := q3 h0
    exact ⟨b', 0, rfl, q4, v3 b' 0 q5⟩
  · refine List.perm_iff_count.2 fun a => ?_
    have e1 := List.perm_iff_count.1 v7 a
    simp only [List.count_append, List.count_nil] at e1 ⊢
    omega
def szs (l : List Ts) : Nat := (l.map fun t => t.size + 1).sum
theorem own_rows {w : World} {base : Nat} {ts : List Ts} : ∀ {vs : List Value} {S : List Nat}, Own w base (rowsDs ts) vs S → ∃ qs : List (Value × VT), qs.map (·.1) = vs ∧ (∀ q ∈ qs, GK (U w) w.heap.size q.1 q.2) ∧ QS qs ≤ 2 * szs ts ∧
    ∃ BP BL BT, Ows w base 2 77 (szs ts) (QP qs) BP ∧ Ows w base 1 43 (szs ts) (QL qs) BL ∧ Ows w base 5 26 (szs ts) (QT qs) BT ∧ (BP ++ (BL ++ BT)).Perm S := by
  induction ts with
  | nil => rintro vs S ⟨rfl, rfl⟩; exact ⟨[], rfl, (fun q hq => by cases hq), Nat.zero_le _, [], [], [], rfl, rfl, rfl, List.Perm.refl _⟩
  | cons t r ih =>
    rintro vs S ⟨v, ys, zs, us, B, S1, S2, S3, rfl, h1, h2, h3, h4, rfl⟩
    obtain ⟨V, v1, v2, BP, BL, BT, v3, v4, v5, v6⟩ := own_row (t := t) (v := v) (S := B ++ (S1 ++ (S2 ++ []))) ⟨v, [], zs, us, B, S1, S2, [], rfl, h1, h2, h3, ⟨rfl, rfl⟩, rfl⟩
    obtain ⟨qs, q1, q2, q3, CP, CL, CT, q4, q5, q6, q7⟩ := ih h4
    have hle : t.size ≤ szs (t :: r) := by simp [szs]; omega
    have hle2 : szs r ≤ szs (t :: r) := by simp [szs]
    refine ⟨(v, V) :: qs, by simp [q1], fun q hq => ?_, ?_, BP ++ CP, BL ++ CL, BT ++ CT, (q4.mono hle2).app (v3.mono hle), (q5.mono hle2).app (v4.mono hle), (q6.mono hle2).app (v5.mono hle), ?_⟩
    · rcases List.mem_cons.1 hq with rfl | hq
      · exact v1
      · exact q2 q hq
    · simp only [QS, szs, List.map_cons, List.sum_cons] at q3 ⊢
      omega
    · refine List.perm_iff_count.2 fun a => ?_
      have e1 := List.perm_iff_count.1 v6 a
      have e2 := List.perm_iff_count.1 q7 a
      simp only [List.count_append, List.count_nil] at e1 e2 ⊢
      omega
theorem apartRows_any (ts : List Ts) (vs : List Value) (S : List Nat) (base : Nat) (ql : Option Addr) (cl : Nat) (w : World) (hcl : vs.length ≤ cl) (hcm : cl ≤ maxLen) (hc : 0 < vs.length → ∃ b o, ql = some ⟨b, o, none⟩ ∧ b < w.heap.size ∧ ∀ i v, vs[i]? = some v → U w b (o + i) = some v)
    (h : Own w base (rowsDs ts) vs S) (hn : S.Nodup) (hs : szs ts ≤ 1000000) :
    Calls Tryz.prog 24 #[.slice ql vs.length cl] w fun e w' => e = .returned (.bool true) ∧ Tb (fun b => b ∈ S) w w' := by
  obtain ⟨qs, q1, q2, q3, BP, BL, BT, q4, q5, q6, q7⟩ := own_rows h
  have lw : ∀ {sz e : Nat} {us : List Value} {Bs : List Nat}, Ows w base sz e (szs ts) us Bs → Ows w 0 sz e (szs ts) us Bs := by
    intro sz e us
    induction us with
    | nil => intro Bs h; exact h
    | cons u us ih =>
      rintro Bs ⟨B, B', h1, h2, rfl⟩
      exact ⟨B, B', h1.lower (Nat.zero_le _), ih h2, rfl⟩
  have hl : qs.length = vs.length := by rw [← q1, List.length_map]
  have := apartTerms_any qs ql cl (szs ts) BP BL BT w (by omega) hcm (fun h0 => by
    obtain ⟨b, o, e, hb, hcs⟩ := hc (by omega)
    refine ⟨b, o, e, hb, fun i q hq => hcs i q.1 ?_⟩
    rw [← q1, List.getElem?_map, hq]; rfl) q2 (lw q4) (lw q5) (lw q6) (q7.nodup_iff.2 hn) (by omega) (by omega)
  rw [hl] at this
  refine this.mono fun e w' h => ⟨h.1, h.2.mono fun b _ hb => q7.mem_iff.1 hb⟩
end Go.Proofs.YtkcmapimcgppmaaGreatDoor
end
section
namespace Go.Proofs.YtkcmapimcgppmaaGreatDoor
open Go.RowKit
attribute [local simp] ty_p ty_l ty_t kH tDs lvDs Tm.ts finH elemH ac_skip ac_label ac_region ac_seq ac_cond ac_block ac_loop ac_exit ac_ret seqK_n seqK_r seqK_e vo_nil vo_cons blkK loopK callOf vout aout abuiltin aslice ev startSt nmOf St.out putE updo upd contOf freshC K0 asC fillD fieldOf rowD astore aapp srcOf elsOf tb Dc.tk Dc.dp Dc.over Dc.app Dc.ln Dc.ds Dc.sing Dc.cont AV.cont Ds.hd Value.oneCell' retK resOf one1 AV.imp Dc.imp φOf calleeOf AV.isLL AV.list AV.app AV.arg AV.isL AV.ren Dc.ren Dc.lent tmC tmA tsA iA lo? abin AV.nth Dc.own Dc.toks stOf envOf bxOf τOf

/-- States of the law's walk. -/
def S1 (row : Ts) (t p : Tm) (n : Int) : St := stOf [(0, tsA none row), (3, iA n), (5, .bx 6 0), (6, .bx 7 0)] [(6, 26, tmC none none t.h t.x), (7, 26, tmC none none p.h p.x)] []
def S3 (row : Ts) (t p : Tm) (n : Int) : St := stOf [(0, tsA none row), (3, iA n), (5, .bx 6 0), (6, .bx 7 0), (9, lentA row), (10, .bx 11 0), (11, .bx 12 0)] [(6, 26, tmC none none t.h t.x), (7, 26, tmC none none p.h p.x), (11, 26, lentC t), (12, 26, lentC p)] []
/-- What some slots hold. -/
def fxL (l : List (Nat × Value)) : Nat → Option Value := fun t => (l.find? fun p => p.1 == t).map (·.2)
theorem fxL_mem {l : List (Nat × Value)} {t : Nat} {x : Value} (h : fxL l t = some x) : (t, x) ∈ l := by
  unfold fxL at h
  obtain ⟨⟨a, b⟩, h1, rfl⟩ := Option.map_eq_some_iff.1 h
  have h2 := List.find?_some h1
  have h3 := List.mem_of_find?_eq_some h1
  have : a = t := by simpa using h2
  subst this
  exact h3
def l4 (row : Ts) (t p : Tm) (n : Int) : List (Nat × AV) := [(0, tsA none row), (3, iA n), (5, .el (tDs ty t.ts)), (6, .el (tDs ty p.ts)), (9, tsA none row), (10, .el (tDs ty t.ts)), (11, .el (tDs ty p.ts))]
def l5 (row : Ts) (t p : Tm) (n : Int) : List (Nat × AV) := l4 row t p n ++ [(12, .bx 13 0), (13, .bx 14 0), (14, .bx 15 0), (15, tsA (some (47, 0)) (partsT n.toNat t))]
def b5 (row : Ts) (t p : Tm) : List (Nat × Nat × Dc) := [(13, 26, tmC (some (38, 0)) (some (38, 1)) (tup row).h (tup row).x), (14, 26, tmC (some (40, 0)) (some (40, 1)) (pack row).h (pack row).x), (15, 26, tmC (some (44, 0)) (some (44, 1)) (caseT p row t).h (caseT p row t).x)]
end Go.Proofs.YtkcmapimcgppmaaGreatDoor
end
