/-
  The bag into which lists are put: what it holds. Lists of parts that lie apart, written over, grown, looked at: they are found apart. Conditions: no more than 10000000 lists, of no more than 10000000 elements each. Conditions: as each lemma states them.
-/
import Derived.Test.YtkcmapimcgppmaaGreatDoorJ19
import Derived.Test.YtkcmapimcgppmaaGreatDoorJ05
import Derived.Test.YtkcmapimcgppmaaGreatDoorJ02
import Derived.Test.YtkcmapimcgppmaaGreatDoorJ17
import Derived.Test.YtkcmapimcgppmaaGreatDoorJ11
set_option linter.all false
set_option linter.unusedVariables false
set_option linter.unusedSimpArgs false
set_option linter.unnecessarySimpa false
section
namespace Go.Proofs.YtkcmapimcgppmaaGreatDoor
open Go.RowKit

/-- The types of the bag's lists' elements. -/
def tyB (i : Nat) : Nat := [228, 230, 72, 232, 233, 235, 237, 41, 24, 22, 44, 45, 239, 63, 48, 56, 242].getD i 0
theorem tyB_inj' : ∀ i, i < 17 → ∀ j, j < 17 → tyB i = tyB j → i = j := by decide
theorem tyB_inj (i j : Nat) (hi : i < 17) (hj : j < 17) (h : tyB i = tyB j) : i = j := tyB_inj' i hi j hj h
theorem tyB_ne : ∀ i, i < 17 → tyB i ≠ 114 := by decide
/-- A bag in block β, all of it from block B0 on, its lists. -/
def BagAt (w : World) (β B0 : Nat) (f : Nat → List Value) : Prop :=
  B0 ≤ β ∧ ∃ cur : Array Value, w.heap[β]? = some (Obj.cells cur 114 (0, 0)) ∧ cur.size = 17 ∧ ∀ i, i < 17 → ∃ v, cur[i]? = some v ∧ (f i = [] → v = .slice none 0 0) ∧ w.ownsRow B0 (tyB i) 1 v (f i).length (f i)
theorem BagAt.below {w w' : World} {β B0 : Nat} {f : Nat → List Value} (h : BagAt w β B0 f) (hb : Below w.heap.size w w') : BagAt w' β B0 f := by
  obtain ⟨h0, cur, h1, h2, h3⟩ := h
  refine ⟨h0, cur, by rw [hb.block β (heap_lt h1)]; exact h1, h2, fun i hi => ?_⟩
  obtain ⟨v, h4, h5, h6⟩ := h3 i hi
  exact ⟨v, h4, h5, ownsRow_below h6 hb⟩
theorem BagAt.cell {w : World} {β B0 : Nat} {f : Nat → List Value} (h : BagAt w β B0 f) {i : Nat} (hi : i < 17) : ∃ v, w.cell? ⟨β, i, none⟩ = some v ∧ w.frozen? ⟨β, i, none⟩ = false ∧ (f i = [] → v = .slice none 0 0) ∧ w.ownsRow B0 (tyB i) 1 v (f i).length (f i) := by
  obtain ⟨h0, cur, h1, h2, h3⟩ := h
  obtain ⟨v, h4, h5, h6⟩ := h3 i hi
  exact ⟨v, by simp [World.cell?, h1, h4], by simp [World.frozen?, h1], h5, h6⟩
theorem ownsRow_other {w w' : World} {base e size n : Nat} {v : Value} {xs : List Value} (h : w.ownsRow base e size v n xs) (hk : ∀ (b : Nat) (cur : Array Value), w.heap[b]? = some (Obj.cells cur e (0, 0)) → w'.heap[b]? = w.heap[b]?) : w'.ownsRow base e size v n xs := by
  refine ⟨h.1, h.2.imp id ?_⟩
  rintro ⟨g, cap, cur, rfl, h1, h2, h3⟩
  exact ⟨g, cap, cur, rfl, h1, by rw [hk g cur h2]; exact h2, h3⟩
/-- What putting leaves: what lay below B0, and all blocks of other types than the bag's. -/
structure PF (B0 : Nat) (w w' : World) : Prop where
  below : Below B0 w w'
  keep : ∀ (b : Nat) (cur : Array Value) (e : Nat), e ≠ 114 → (∀ i, i < 17 → e ≠ tyB i) → w.heap[b]? = some (Obj.cells cur e (0, 0)) → w'.heap[b]? = some (Obj.cells cur e (0, 0))
theorem PF.trans {B0 : Nat} {a b c : World} (h : PF B0 a b) (k : PF B0 b c) : PF B0 a c := ⟨h.below.trans k.below, fun i cur e h1 h2 h3 => k.keep i cur e h1 h2 (h.keep i cur e h1 h2 h3)⟩
theorem PF.of_below {B0 : Nat} {w w' : World} (h : Below w.heap.size w w') (hB : B0 ≤ w.heap.size) : PF B0 w w' := ⟨h.mono hB, fun b _ _ _ _ hb => by rw [h.block b (heap_lt hb)]; exact hb⟩
theorem PF.refl (B0 : Nat) (w : World) : PF B0 w w := ⟨Below.refl _ _, fun _ _ _ _ _ h => h⟩
/-- One more is put into a list. -/
theorem BagAt.put {P : Program} {K : Kd} {t i : Nat} (hS : Sty P K t) (he : K.e = tyB i) (hsz : K.sz = 1) (ty : TypeId) {w : World} {β B0 : Nat} {f : Nat → List Value} (h : BagAt w β B0 f) (hi : i < 17) (l : Value) (h1 : l.oneCell' = true) (hn : (f i).length + 1 ≤ 1000000000) (hB : B0 ≤ w.heap.size) :
    ∃ v v' w2, w.cell? ⟨β, i, none⟩ = some v ∧ (w.alloc (.cells #[l] K.e)).cell? ⟨β, i, none⟩ = some v ∧ (Builtin.append_ #[t, t] ty #[v, .slice (some ⟨w.heap.size, 0, none⟩) 1 1]).run P (w.alloc (.cells #[l] K.e)) = .ok v' w2 ∧ (∃ a n c, v' = .slice a n c) ∧
      (∃ u, w2.cell? ⟨β, i, none⟩ = some u) ∧ w2.frozen? ⟨β, i, none⟩ = false ∧ BagAt (w2.setCell ⟨β, i, none⟩ v') β B0 (fun j => if j = i then f i ++ [l] else f j) ∧ PF B0 w (w2.setCell ⟨β, i, none⟩ v') := by
  have hba := below_alloc w (.cells #[l] K.e)
  obtain ⟨h0, cur, g1, g2, g3⟩ := h.below hba
  obtain ⟨v, g4, g5, g6⟩ := g3 i hi
  obtain ⟨v0, c1, -, -, -⟩ := h.cell hi
  have c2 : (w.alloc (.cells #[l] K.e)).cell? ⟨β, i, none⟩ = some v := by simp [World.cell?, g1, g4]
  have hv0 : v0 = v := by
    have := U_below hba β i v0 (by obtain ⟨_, cur', q, -⟩ := h; exact heap_lt q) (U_mk c1 (by obtain ⟨_, cur', q, -⟩ := h; simp [World.frozen?, q]))
    rw [U_cell this] at c2; cases c2; rfl
  subst hv0
  obtain ⟨ht, ti, z, hti, hz, hs, hzs, hby⟩ := hS
  rw [hsz] at hs hzs
  obtain ⟨v', w2, hr, ho, hf⟩ := append_law (P := P) (w.alloc (.cells #[l] K.e)) B0 t ty K.e ti z 1 ht hti hz hs hzs (by decide) v0 (f i).length (f i) (by rw [← he] at g6; exact g6) (.slice (some ⟨w.heap.size, 0, none⟩) 1 1) 1 [l]
    (.inr ⟨_, _, rfl, new_cells w [l] K.e⟩) rfl (by simpa using h1) hn hby (Nat.le_trans hB hba.size)
  obtain ⟨W, hW⟩ : ∃ W, w.alloc (.cells #[l] K.e) = W := ⟨_, rfl⟩
  rw [hW] at hba g1 g6 hf g3 c2
  have hown : ∀ b, v0.ownBlock = some b → ∃ cur, W.heap[b]? = some (Obj.cells cur (tyB i) (0, 0)) ∧ B0 ≤ b := by
    intro b hb
    rcases g6.2 with ⟨rfl, -⟩ | ⟨g, cap, cur', rfl, q1, q2, -⟩
    · cases hb
    · cases hb; exact ⟨cur', q2, q1⟩
  -- blocks of other types stay
  have hkeep : ∀ (b : Nat) (cur : Array Value) (e : Nat), e ≠ tyB i → W.heap[b]? = some (Obj.cells cur e (0, 0)) → w2.heap[b]? = W.heap[b]? := by
    intro b cur' e hne hb
    rcases hf with ⟨-, hg⟩ | ⟨-, hg⟩
    · refine hg.block b (heap_lt hb) (fun e2 => ?_)
      obtain ⟨cur2, q, -⟩ := hown b e2.symm
      rw [hb] at q; cases q; exact hne rfl
    · exact hg.block b (heap_lt hb)
  have hB2 : Below B0 W w2 := by
    rcases hf with ⟨-, hg⟩ | ⟨-, hg⟩
    · exact ⟨hg.os, hg.tape, hg.output, hg.size, fun b hb => hg.block b (Nat.lt_of_lt_of_le hb (Nat.le_trans hB hba.size)) (fun e => by
        obtain ⟨-, -, q⟩ := hown b e.symm
        omega)⟩
    · exact hg.mono (Nat.le_trans hB hba.size)
  have g1' := hkeep β cur 114 (fun e => tyB_ne i hi e.symm) g1
  rw [g1] at g1'
  have hset : (w2.setCell ⟨β, i, none⟩ v').heap[β]? = some (Obj.cells (cur.setIfInBounds i v') 114 (0, 0)) := by
    rw [setCell_eq_setRow w2 β i cur 114 (0, 0) v' g1']; exact setRow_heap w2 β cur _ 114 _ g1'
  have hoth : ∀ b, b ≠ β → (w2.setCell ⟨β, i, none⟩ v').heap[b]? = w2.heap[b]? := fun b hb => Below.heap_setCell _ _ _ _ (by simpa using hb)
  have hsl : ∃ a n c, v' = .slice a n c := by
    rcases ho.2 with ⟨rfl, -⟩ | ⟨g, cap, cur', rfl, -⟩
    · exact ⟨_, _, _, rfl⟩
    · exact ⟨_, _, _, rfl⟩
  refine ⟨v0, v', w2, c1, by rw [hW]; exact c2, hr, hsl, ⟨v0, by simp [World.cell?, g1', g4]⟩, by simp [World.frozen?, g1'], ⟨h0, _, hset, by rw [Array.size_setIfInBounds, g2], fun j hj => ?_⟩, ?_⟩
  · by_cases e : j = i
    · subst e
      refine ⟨v', by rw [Array.getElem?_setIfInBounds, if_pos rfl, if_pos (by omega)], by simp, ?_⟩
      simp only [if_true, List.length_append, List.length_singleton]
      rw [← he]
      refine ownsRow_other ho fun b cur' hb => hoth b (fun e2 => ?_)
      subst e2
      rw [g1'] at hb; injection hb with hb; injection hb with _ hb
      exact tyB_ne j hi (he ▸ hb.symm)
    · obtain ⟨u, q1, q2, q3⟩ := g3 j hj
      refine ⟨u, by rw [Array.getElem?_setIfInBounds, if_neg (Ne.symm e)]; exact q1, by simpa [e] using q2, ?_⟩
      simp only [if_neg e]
      refine ownsRow_other (ownsRow_other q3 fun b cur' hb => hkeep b cur' (tyB j) (fun e2 => e (tyB_inj j i hj hi e2)) hb) fun b cur' hb => hoth b (fun e2 => ?_)
      subst e2
      rw [g1'] at hb; injection hb with hb; injection hb with _ hb
      exact tyB_ne j hj hb.symm
  · have h3 : Below B0 w w2 := (hba.mono hB).trans hB2
    refine ⟨⟨h3.os, h3.tape, h3.output, by simpa [World.setCell] using h3.size, fun b hb => by rw [hoth b (by omega)]; exact h3.block b hb⟩, fun b cur' e he1 he2 hb => ?_⟩
    have q1 : W.heap[b]? = some (Obj.cells cur' e (0, 0)) := by rw [hba.block b (heap_lt hb)]; exact hb
    have q2 := hkeep b cur' e (he2 i hi) q1
    rw [hoth b (fun e2 => by subst e2; rw [g1] at q1; injection q1 with q1; injection q1 with _ q1; exact he1 q1.symm), q2]
    exact q1
/-- A row whose elements are known values. -/
def RowV (hi : Nat) (v : Value) (n : Nat) (C : Nat → Nat → Prop) : Prop :=
  ∃ (p : Option Addr) (c : Nat), v = .slice p n c ∧ n ≤ c ∧ c ≤ maxLen ∧ (0 < n → ∃ b o, p = some ⟨b, o, none⟩ ∧ b < hi ∧ C b o)
/-- Lists of parts within levels: the levels' row, those of their parts. -/
def GL (F : Mem) (hi : Nat) (v : Value) (us : List Value) : Prop := RowV hi v us.length fun b o => ∀ i u, us[i]? = some u → F b (o + i) = some u ∧ ∃ p n c, u = .slice p n c
/-- Terms' lists: of each its levels' parts, its levels, its kids, what lies within these. -/
inductive VT where
  | nil
  | cons (us : List Value) (vl vk : Value) (x r : VT)
namespace VT
def len : VT → Nat
  | nil => 0
  | cons _ _ _ _ r => r.len + 1
def app : VT → VT → VT
  | nil, y => y
  | cons us vl vk x r, y => cons us vl vk x (r.app y)
def size : VT → Nat
  | nil => 0
  | cons us _ _ x r => us.length + x.size + r.size + 2
def P : VT → List Value
  | nil => []
  | cons us _ _ x r => us ++ (x.P ++ r.P)
def L : VT → List Value
  | nil => []
  | cons _ vl _ x r => vl :: (x.L ++ r.L)
def T : VT → List Value
  | nil => []
  | cons _ _ vk x r => vk :: (x.T ++ r.T)
theorem app_nil (x : VT) : x.app nil = x := by induction x with
  | nil => rfl
  | cons us vl vk x r _ ih => simp [app, ih]
theorem app_assoc (x y z : VT) : (x.app y).app z = x.app (y.app z) := by induction x with
  | nil => rfl
  | cons us vl vk x r _ ih => simp [app, ih]
theorem app_len (x y : VT) : (x.app y).len = x.len + y.len := by induction x with
  | nil => simp [app, len]
  | cons us vl vk x r _ ih => simp [app, len, ih]; omega
theorem app_size (x y : VT) : (x.app y).size = x.size + y.size := by induction x with
  | nil => simp [app, size]
  | cons us vl vk x r _ ih => simp [app, size, ih]; omega
theorem app_P (x y : VT) : (x.app y).P = x.P ++ y.P := by induction x with
  | nil => rfl
  | cons us vl vk x r _ ih => simp [app, P, ih]
theorem app_L (x y : VT) : (x.app y).L = x.L ++ y.L := by induction x with
  | nil => rfl
  | cons us vl vk x r _ ih => simp [app, L, ih]
theorem app_T (x y : VT) : (x.app y).T = x.T ++ y.T := by induction x with
  | nil => rfl
  | cons us vl vk x r _ ih => simp [app, T, ih]
theorem len_le (x : VT) : x.len ≤ x.size := by induction x with
  | nil => exact Nat.le_refl _
  | cons us vl vk x r _ ih => simp only [len, size]; omega
theorem lens (x : VT) : x.P.length ≤ x.size ∧ x.L.length ≤ x.size ∧ x.T.length ≤ x.size := by induction x with
  | nil => exact ⟨Nat.le_refl _, Nat.le_refl _, Nat.le_refl _⟩
  | cons us vl vk x r ihx ih => simp only [P, L, T, size, List.length_append, List.length_cons]; omega
end VT
/-- They lie so. -/
def GTs (F : Mem) (hi : Nat) : VT → Nat → Nat → Prop
  | .nil, _, _ => True
  | .cons us vl vk x r, b, o => (∃ n0 n1 n2, F b o = some (.int .i64 n0) ∧ F b (o + 1) = some (.int .i64 n1) ∧ F b (o + 2) = some (.int .i64 n2)) ∧ F b (o + 3) = some vl ∧ F b (o + 4) = some vk ∧ GL F hi vl us ∧
      RowV hi vk x.len (fun b' o' => GTs F hi x b' o') ∧ GTs F hi r b (o + 5)
def GK (F : Mem) (hi : Nat) (v : Value) (x : VT) : Prop := RowV hi v x.len fun b o => GTs F hi x b o
theorem GTs.app {F : Mem} {hi : Nat} {x y : VT} : ∀ {b o : Nat}, GTs F hi (x.app y) b o ↔ GTs F hi x b o ∧ GTs F hi y b (o + x.len * 5) := by
  induction x with
  | nil => intro b o; simp [VT.app, GTs, VT.len]
  | cons us vl vk x r _ ih =>
    intro b o
    simp only [VT.app, GTs, ih, VT.len, and_assoc]
    rw [show o + 5 + r.len * 5 = o + (r.len + 1) * 5 by omega]
/-- The bag with more. -/
def fadd (f : Nat → List Value) (p l t : List Value) : Nat → List Value := fun j => if j = 7 then f 7 ++ p else if j = 8 then f 8 ++ l else if j = 9 then f 9 ++ t else f j
theorem fadd_nil (f : Nat → List Value) : fadd f [] [] [] = f := by
  funext j; unfold fadd
  split
  · subst_vars; simp
  · split
    · subst_vars; simp
    · split
      · subst_vars; simp
      · rfl
theorem fadd7 (f : Nat → List Value) (v : Value) : (fun j => if j = 7 then f 7 ++ [v] else f j) = fadd f [v] [] [] := by
  funext j; unfold fadd
  by_cases h7 : j = 7
  · simp [h7]
  · by_cases h8 : j = 8
    · simp [h8]
    · by_cases h9 : j = 9
      · simp [h9]
      · simp [h7, h8, h9]
theorem fadd8 (f : Nat → List Value) (v : Value) : (fun j => if j = 8 then f 8 ++ [v] else f j) = fadd f [] [v] [] := by
  funext j; unfold fadd
  by_cases h7 : j = 7
  · simp [h7]
  · by_cases h8 : j = 8
    · simp [h8]
    · by_cases h9 : j = 9
      · simp [h9]
      · simp [h7, h8, h9]
theorem fadd9 (f : Nat → List Value) (v : Value) : (fun j => if j = 9 then f 9 ++ [v] else f j) = fadd f [] [] [v] := by
  funext j; unfold fadd
  by_cases h7 : j = 7
  · simp [h7]
  · by_cases h8 : j = 8
    · simp [h8]
    · by_cases h9 : j = 9
      · simp [h9]
      · simp [h7, h8, h9]
theorem fadd_fadd (f : Nat → List Value) (p l t p' l' t' : List Value) : fadd (fadd f p l t) p' l' t' = fadd f (p ++ p') (l ++ l') (t ++ t') := by
  funext j; unfold fadd
  simp only [if_true, List.append_assoc]
  split
  · rfl
  · split
    · simp
    · split
      · simp
      · rfl
end Go.Proofs.YtkcmapimcgppmaaGreatDoor
end
section
namespace Go.Proofs.YtkcmapimcgppmaaGreatDoor
open Go.RowKit

/-- The kind of parts. -/
def KP : Kd := { e := 77, sz := 2, em := 0, cel := fun _ M xs => xs = [.int .i64 0, .int .i64 M] }
theorem KP_ok : KP.Ok := ⟨by decide, by decide, fun _ _ _ h => by rw [show _ = _ from h]; rfl, fun _ _ _ h u hu => by rw [show _ = _ from h] at hu; simp at hu; rcases hu with rfl | rfl <;> rfl, fun _ _ _ _ _ h => h⟩
theorem KP_sty : Sty Tryz.prog KP 41 := by
  refine ⟨Tryz.underlying41, ?_⟩
  have h := info77
  cases hi : Tryz.prog.info? 77 with
  | none => rw [hi] at h; cases h
  | some i =>
    rw [hi] at h
    simp only [Option.map_some, Option.some.injEq, Prod.mk.injEq] at h
    exact ⟨i, _, hi, h.1, h.2.1, rfl, by omega⟩
/-- The type of the list of rows. -/
def KPS : Kd := { e := 41, sz := 1, em := 0, cel := fun _ _ _ => False }
theorem info41 : (Tryz.prog.info? 41).map (fun i => (i.zero, i.size, i.bytes)) = some (some (.slice none 0 0), 1, 24) := by kernel_rfl
theorem KPS_sty : Sty Tryz.prog KPS 105 := by
  refine ⟨Tryz.underlying105, ?_⟩
  have h := info41
  cases hi : Tryz.prog.info? 41 with
  | none => rw [hi] at h; cases h
  | some i =>
    rw [hi] at h
    simp only [Option.map_some, Option.some.injEq, Prod.mk.injEq] at h
    exact ⟨i, _, hi, h.1, h.2.1, rfl, by omega⟩
theorem KP_mark : MarkOk Tryz.prog KP 210 := fun k i w hk hi => (markPart_any k i w hk hi).mono fun _ _ h => ⟨_, h.1, rfl, h.2⟩

set_option maxRecDepth 100000 in
set_option maxHeartbeats 4000000 in
theorem flat138_any (vs : List Value) (L : Nat) (ql : Option Addr) (cl : Nat) (w : World) (hvs : vs.length ≤ 10000000) (hcl : vs.length ≤ cl) (hcm : cl ≤ maxLen) (hL : ∀ (k : Nat) (v : Value), vs[k]? = some v → ql = some ⟨L, 0, none⟩ ∧ vn v ≤ 10000000)
    (hC : ¬ InV vs L ∧ ∀ W, Tn KP.em (InV vs) w W → ∀ (k : Nat) (v : Value), vs[k]? = some v → U W L k = some v) (hR : RowsG KP 0 w vs (fun _ => 0)) (hD : Dist vs) :
    Calls Tryz.prog 138 #[.slice ql vs.length cl] w fun e w' => e = .returned (.bool true) ∧ Tn KP.em (InV vs) w w' := by
  obtain ⟨m, hm⟩ : ∃ m, vs.length = m := ⟨_, rfl⟩
  have HM := Lib.hid hm
  have HC := Lib.hid hC
  have HL := Lib.hid hL
  have HMK := Lib.hid KP_mark
  have HIN : Hid (∀ b, InV vs b → b < w.heap.size) := fun b hb => by obtain ⟨-, cur, e⟩ := hR.typed hb; exact heap_lt e
  rw [hm] at hvs hcl ⊢
  clear hm hC hL
  unfold maxLen at hcm
  go_enter Tryz.func138, Tryz.ntmps138
  go_wp2_with fail
  go_loopw [3] (fun i wr => ∃ k : Nat, k ≤ m ∧ i = .int .i64 k ∧ RowsG KP 0 wr vs (dF vs k 0) ∧ Tn KP.em (InV vs) w wr) (fun i _ => m - (intOf i).toNat)
  case atStart => exact ⟨0, Nat.zero_le _, rfl, hR.cong fun k v _ => by simp [dF], Tn.refl _ _ _⟩
  case round =>
    obtain ⟨k, hk, rfl, hRk, hTk⟩ := hrel
    clear hR
    by_cases hlt : k < m
    · have r1 : decide ((k : Int) < (m : Int)) = true := decide_eq_true (by omega)
      obtain ⟨v, hv⟩ : ∃ v, vs[k]? = some v := ⟨_, List.getElem?_eq_getElem (by have := HM.out; omega)⟩
      obtain ⟨p, n, c, rfl, hnc, hcc⟩ := (hRk k v hv).isSlice
      unfold maxLen at hcc
      obtain ⟨rfl, hn⟩ := HL.out k _ hv
      replace hn : n ≤ 10000000 := hn
      have HV := Lib.hid hv
      have HRK := Lib.hid hRk
      have HTK := Lib.hid hTk
      clear hv hRk hTk
      go_wp2_with fail
      go_loopw [4] (fun i wr => ∃ j : Nat, i = .int .i64 j ∧ j ≤ n ∧ RowsG KP 0 wr vs (dF vs k j) ∧ Tn KP.em (InV vs) w wr) (fun i _ => n - (intOf i).toNat)
      case atStart => exact ⟨0, rfl, Nat.zero_le _, HRK.out, HTK.out⟩
      case round =>
        clear HRK HTK
        obtain ⟨j, rfl, hj, hRj, hTj⟩ := hrel
        have hu := HC.out.2 _ hTj k _ HV.out
        have hc := U_cell hu
        by_cases hjn : j < n
        · have r2 : decide ((j : Int) < (n : Int)) = true := decide_eq_true (by omega)
          obtain ⟨g, rfl, hc0⟩ := (hRj k _ HV.out).lies (by omega)
          have e1 : ∀ n' : GrownX (InV vs) wr, n'.it.cell? ⟨L, k, none⟩ = some (.slice (some ⟨g, 0, none⟩) n c) := GrownX.cell hu HC.out.1
          have HRJ := Lib.hid hRj
          have HTJ := Lib.hid hTj
          clear hu hRj hTj
          go_wp2_with fail
          clear hc
          refine wp_region_take_X (InV vs) [0, 1, 2, 3, 4, 5, 6] (by decide) (by kernel_rfl) (by kernel_rfl) (by kernel_rfl) (by kernel_rfl) (fun _ _ d _ _ h => by cases d <;> exact h) ?_
          simp only [List.map_cons, List.map_nil, List.getD_cons_zero, List.getD_cons_succ, bar, readKind, List.size_toArray, List.length_cons, List.length_nil, Nat.zero_add, Nat.reduceAdd, if_true, if_false, Bool.false_eq_true]
          repeat (go_big_quiet_step (fail))
          refine wpQuiet_nil ?_
          clear e1
          refine tail_step (i := 7) (fuel := 2) (by kernel_rfl) rfl (by rfl) (fun K' hK => ?_)
          go_simp
          refine (HMK.out k j _ (by omega) (by omega)).mono ?_
          rintro e wx ⟨xs, rfl, hcel, hbx⟩
          have hAx : Below wr.heap.size wr wx := below_step (below_drew wr) hbx
          refine hK.out _ _ ⟨⟨wx, fun b hb _ => hAx.block b hb⟩, rfl⟩ (fun _ => ?_)
          clear hK K'
          have hRx := HRJ.out.below KP_ok hAx
          obtain ⟨hth, hR', hT'⟩ := RowsG.setF KP_ok hD hRx HV.out hjn hcel
          refine tail_step (i := 8) (fuel := 1) (by kernel_rfl) rfl (by rfl) (fun K' hK => ?_)
          go_simp
          refine hK.out _ _ ⟨⟨wx, fun b hb _ => hAx.block b hb⟩, rfl⟩ (fun _ => ?_)
          clear hK K'
          refine tail_step (i := 9) (fuel := 0) (by kernel_rfl) rfl (by rfl) (fun K' hK => ?_)
          refine wp_store_mid 77 _ _ rfl g (j * 2) xs.toArray rfl rfl (by rw [List.size_toArray, KP_ok.len _ _ _ hcel]; exact hth) (by rw [List.size_toArray, KP_ok.len _ _ _ hcel]; exact KP_sty.size) (all_oneCell_toArray (KP_ok.one _ _ _ hcel)) ?_
          refine hK.out _ _ ⟨⟨wx.setCells g (j * 2) xs, fun b hb hx => (hT'.block b (Nat.lt_of_lt_of_le hb hAx.size) hx).trans (hAx.block b hb)⟩, rfl⟩ (fun _ => ?_)
          clear hK K'
          refine wpAnyH_done (by kernel_rfl) ?_ _
          have HR' := Lib.hid hR'
          have HT' := Lib.hid (HTJ.out.trans ((Tn.of_below hAx).trans hT'))
          clear hth hR' hT' hRx hcel hAx hbx HRJ HTJ
          go_wp2_with fail
          go_roundw
          case rel => exact ⟨j + 1, by go_num, by omega, HR'.out, HT'.out⟩
          case measure => simp [intOf]; omega
        · have r2 : decide ((j : Int) < (n : Int)) = false := decide_eq_false (by omega)
          obtain rfl : j = n := by omega
          have HR' := Lib.hid (RowsG.dEnd HV.out hRj)
          have HT' := Lib.hid hTj
          clear hRj hTj hu
          go_wp2_with fail
          go_roundw
          case rel => exact ⟨k + 1, by omega, by go_num, HR'.out, HT'.out⟩
          case measure => simp [intOf]; omega
    · have r1 : decide ((k : Int) < (m : Int)) = false := decide_eq_false (by omega)
      obtain rfl : k = m := by omega
      have HF := Lib.hid (RowsG.full HM.out hRk)
      have HT := Lib.hid hTk
      clear hRk hTk
      obtain ⟨arr, hmk, harr⟩ := KPS_sty.make k (by omega) wr
      have hmk' : (Instr.makeSlice 105 (.int .i64 k) (.int .i64 k)).run Tryz.prog wr = .ok (.slice (some ⟨wr.heap.size, 0, none⟩) k k) (wr.alloc (.cells arr 41)) := hmk
      clear hmk
      go_wp2_with fail
      obtain ⟨w1, hw1⟩ : ∃ w1, wr.alloc (.cells arr 41) = w1 := ⟨_, rfl⟩
      obtain ⟨G, hG⟩ : ∃ G, wr.heap.size = G := ⟨_, rfl⟩
      have HGW : Hid (w.heap.size ≤ G) := Lib.hid (by rw [← hG]; exact HT.out.size)
      have HB1 : Below wr.heap.size wr w1 := by rw [← hw1]; exact below_alloc _ _
      have HF1 := Lib.hid (HF.out.below KP_ok HB1)
      have HT1 := Lib.hid (HT.out.trans (Tn.of_below HB1))
      have HG1 : Hid (Gsl KP 41 G w.heap.size w1 vs 64 64 0) := Lib.hid (by rw [← hw1, ← hG]; exact Gsl.new wr vs 64 64 (by rw [HM.out, harr]; show k * 1 = k; omega))
      rw [hw1, hG]
      clear HF HT HB1 hw1 hmk' harr
      go_loopw [6] (fun i wr => ∃ j : Nat, i = .int .i64 j ∧ j ≤ k ∧ Full KP 0 wr vs ∧ Gsl KP 41 G w.heap.size wr vs 64 64 j ∧ Tn KP.em (InV vs) w wr) (fun i _ => k - (intOf i).toNat)
      case atStart => exact ⟨0, rfl, Nat.zero_le _, HF1.out, HG1.out, HT1.out⟩
      case round =>
        clear HF1 HG1 HT1
        obtain ⟨j, rfl, hj, hF, hGs, hT⟩ := hrel
        by_cases hlt : j < k
        · have r1 : decide ((j : Int) < (k : Int)) = true := decide_eq_true (by omega)
          obtain ⟨v, hv⟩ : ∃ v, vs[j]? = some v := ⟨_, List.getElem?_eq_getElem (by have := HM.out; omega)⟩
          obtain ⟨p, n, c, rfl, hnc, hcc⟩ := (hF j v hv).isSlice
          unfold maxLen at hcc
          obtain ⟨rfl, hn⟩ := HL.out j _ hv
          replace hn : n ≤ 10000000 := hn
          have hc := U_cell (HC.out.2 _ hT j _ hv)
          have HV := Lib.hid hv
          have HF := Lib.hid hF
          have HGS := Lib.hid hGs
          have HT := Lib.hid hT
          clear hv hF hGs hT
          go_wp2_with fail
          obtain ⟨wk, hwk⟩ : ∃ wk : World, wk = wr := ⟨_, rfl⟩
          subst hwk
          go_loopw [7, 8] (fun g i wr => ∃ t : Nat, i = .int .i64 t ∧ t ≤ 64 ∧ RowI KP 0 wr (.slice p n c) n j ∧ Cur KP wk.heap.size wr (.slice p n c) g t j ∧ Tn KP.em (fun b => vb (.slice p n c) = some b) wk wr) (fun _ i _ => 64 - (intOf i).toNat)
          case atStart => exact ⟨0, rfl, by decide, HF.out j _ HV.out, .inl ⟨rfl, rfl⟩, Tn.refl _ _ _⟩
          case round =>
            obtain ⟨t, rfl, ht, hRq, hCq, hTq⟩ := hrel
            have hTv : Tn KP.em (InV vs) w wr := HT.out.trans (hTq.inV HV.out)
            have hcq := U_cell (HC.out.2 _ hTv j _ HV.out)
            have HR := Lib.hid hRq
            have HC1 := Lib.hid hCq
            have HTQ := Lib.hid hTq
            have HTV := Lib.hid hTv
            clear hRq hCq hTq hTv hc
            by_cases hlt64 : t < 64
            · have r2 : decide ((t : Int) < 64) = true := decide_eq_true (by omega)
              have HMJ : Hid (∀ W, Calls Tryz.prog 210 #[.int .i64 j, .int .i64 ((n : Int) + (t : Int))] W fun e w' => ∃ xs, e = .returned (.agg xs.toArray) ∧ KP.cel w' (mk j (n + t)) xs ∧ Below W.heap.size W w') := fun W => by
                have := HMK.out j (n + t) W (by omega) (by omega)
                rwa [Int.natCast_add] at this
              go_wp2_with fail
              refine (HMJ.out _).mono ?_
              rintro e wx ⟨xs, rfl, hcel, hbx⟩
              have hxs : xs = [.int .i64 0, .int .i64 (mk j (n + t))] := hcel
              obtain ⟨wy, hwy⟩ : ∃ wy, wx.alloc (.cells xs.toArray 77) = wy := ⟨_, rfl⟩
              have hby : Below wr.heap.size wr wy := by rw [← hwy]; exact below_step hbx (below_alloc _ _)
              have hnc : ∀ (i : Nat) (u : Value), xs[i]? = some u → wy.cell? ((⟨wx.heap.size, 0, none⟩ : Addr).add i) = some u := by rw [← hwy]; exact new_cells wx xs 77
              obtain ⟨g', wz, hrun, hRz, hCz, hTz⟩ := Cur.grow KP_ok KP_sty 41 (HR.out.on KP_ok (Tn.of_below (X := fun _ => False) hby) fun _ _ _ _ => id) (fun b hb => Nat.lt_of_lt_of_le (HIN.out b ⟨_, List.mem_of_getElem? HV.out, hb⟩) HT.out.size) (Nat.le_trans HTQ.out.size hby.size)
                (HC1.out.on KP_ok (Tn.of_below (X := fun _ => False) hby) fun _ _ _ _ => id) (c := 1) (by rw [← hwy]; exact KP_ok.below hcel (below_alloc _ _)) hnc (by show n + t + 1 ≤ _; omega)
              have HRZ := Lib.hid hRz
              have HCZ := Lib.hid hCz
              have HTZ := Lib.hid (HTQ.out.trans' ((Tn.of_below hby).trans hTz) fun b hb h => by
                rcases h with h | h
                · exact h
                · omega)
              clear hRz hCz hTz hcel hbx hby hnc HR HC1 HTQ HMJ
              subst hwy hxs
              go_wp2_with (at_builtin; refine wpList_append_run rfl _ _ 41 rfl _ _ _ rfl rfl hrun ?_)
              go_roundw
              case rel => exact ⟨t + 1, by go_num, by omega, HRZ.out, HCZ.out, HTZ.out⟩
              case measure => simp [intOf]; omega
            · have r2 : decide ((t : Int) < 64) = false := decide_eq_false (by omega)
              obtain rfl : t = 64 := by omega
              have hFq := Full.one KP_ok hD HF.out HV.out HTQ.out HR.out
              have hGq := Gsl.one KP_ok hD HGS.out HIN.out HGW.out HV.out HTQ.out
              obtain ⟨u, hgc, hgf⟩ := hGq.cell (k := j) (by have := HM.out; omega)
              obtain ⟨-, hG', hT'⟩ := hGq.put KP_ok (by decide) (by decide) HV.out ((HC1.out.ent (by decide)).less (Nat.le_refl _) HT.out.size)
              obtain ⟨h, cap, cur, e, -⟩ := HC1.out.ent (by decide)
              subst e
              have HG' := Lib.hid hG'
              have HF' := Lib.hid (hFq.put KP_ok HIN.out HGW.out hT')
              have HT' := Lib.hid (HTV.out.trans' hT' fun b hb e => by have := HGW.out; omega)
              clear hFq hGq hG' hT' HR HC1 HTQ HTV HF HGS HT hcq
              go_wp2_with fail
              go_roundw
              case rel => exact ⟨j + 1, by go_num, by omega, HF'.out, HG'.out, HT'.out⟩
              case measure => simp [intOf]; omega
        · have r1 : decide ((j : Int) < (k : Int)) = false := decide_eq_false (by omega)
          obtain rfl : j = k := by omega
          have HF := Lib.hid hF
          have HGS := Lib.hid hGs
          have HT := Lib.hid hT
          clear hF hGs hT
          go_wp2_with fail
          obtain ⟨w3, hw3⟩ : ∃ w3 : World, w3 = wr := ⟨_, rfl⟩
          subst hw3
          obtain ⟨m, hm⟩ : ∃ m : Nat, m = j := ⟨_, rfl⟩
          subst hm
          clear hlt
          go_loopw [9] (fun i wr => ∃ j : Nat, i = .int .i64 j ∧ j ≤ m ∧ Below w3.heap.size w3 wr) (fun i _ => m - (intOf i).toNat)
          case atStart => exact ⟨0, rfl, Nat.zero_le _, Below.refl _ _⟩
          case round =>
            obtain ⟨j, rfl, hj, hB⟩ := hrel
            by_cases hlt : j < m
            · have r1 : decide ((j : Int) < (m : Int)) = true := decide_eq_true (by omega)
              obtain ⟨v, hv⟩ : ∃ v, vs[j]? = some v := ⟨_, List.getElem?_eq_getElem (by have := HM.out; omega)⟩
              obtain ⟨p, n, c, rfl, hnc, hcc⟩ := (HF.out j v hv).isSlice
              unfold maxLen at hcc
              obtain ⟨rfl, hn⟩ := HL.out j _ hv
              replace hn : n ≤ 10000000 := hn
              have HV := Lib.hid hv
              have HB := Lib.hid hB
              clear hv hB
              obtain ⟨u, hgc, hgf, hE⟩ := HGS.out.get hlt HV.out
              obtain ⟨h, cap, cur, rfl, -, -, hq1, hq2, -⟩ := id hE
              unfold maxLen at hq2
              replace hq1 : n + 64 ≤ cap := hq1
              have HU : Hid (U w3 G j = some (.slice (some ⟨h, 0, none⟩) (n + 64) cap)) := Lib.hid (U_mk hgc hgf)
              have HE := Lib.hid hE
              clear hgc hgf hE
              go_wp2_with fail
              go_loopw [10] (fun i wr => ∃ t : Nat, i = .int .i64 t ∧ t ≤ n + 64 ∧ Below w3.heap.size w3 wr) (fun i _ => n + 64 - (intOf i).toNat)
              case atStart => exact ⟨0, rfl, Nat.zero_le _, HB.out⟩
              case round =>
                clear HB
                obtain ⟨t, rfl, ht, hB⟩ := hrel
                have hug := U_below hB _ _ _ (U_lt HU.out) HU.out
                have hgc := U_cell hug
                have hul := HC.out.2 _ (HT.out.trans (Tn.of_below hB)) j _ HV.out
                have HB := Lib.hid hB
                clear hB
                by_cases htn : t < n + 64
                · have r2 : decide ((t : Int) < (n : Int) + 64) = true := decide_eq_true (by omega)
                  have q1 : (0 : Int) ≤ (t : Int) := by omega
                  have q2 : (t : Int) < (n : Int) + 64 := by omega
                  obtain ⟨xs, hcel, hrg⟩ := HE.out.getU (show t < vn (.slice p n c) + 64 from htn)
                  have HCEL := Lib.hid hcel
                  have HRG := Lib.hid hrg
                  clear hcel hrg
                  obtain ⟨M, hM⟩ : ∃ M, mk j t = M := ⟨_, rfl⟩
                  have hxs : xs = [.int .i64 0, .int .i64 M] := by rw [← hM]; exact HCEL.out
                  subst hxs
                  have c0 : ∀ n' : GrownB wr.heap.size wr, n'.it.cell? ⟨h, t * 2, none⟩ = some (.int .i64 0) := GrownB.cell (U_below HB.out _ _ _ (U_lt (HRG.out 0 _ rfl)) (HRG.out 0 _ rfl)) (Nat.lt_of_lt_of_le (U_lt (HRG.out 0 _ rfl)) HB.out.size)
                  have c1 : ∀ n' : GrownB wr.heap.size wr, n'.it.cell? ⟨h, t * 2 + 1, none⟩ = some (.int .i64 M) := GrownB.cell (U_below HB.out _ _ _ (U_lt (HRG.out 1 _ rfl)) (HRG.out 1 _ rfl)) (Nat.lt_of_lt_of_le (U_lt (HRG.out 1 _ rfl)) HB.out.size)
                  have hgB := GrownB.cell hug (U_lt hug)
                  have hlB := GrownB.cell hul (U_lt hul)
                  clear hug hul
                  go_wp2_with fail
                  refine wp_region_take_I wr.heap.size [0, 1, 2, 3, 4, 5, 6, 7, 8] (by decide) (by kernel_rfl) (by kernel_rfl) (by kernel_rfl) (by kernel_rfl) (fun _ _ d _ _ h => by cases d <;> exact h) ?_
                  simp only [List.map_cons, List.map_nil, List.getD_cons_zero, List.getD_cons_succ, bar, readKind, List.size_toArray, List.length_cons, List.length_nil, Nat.zero_add, Nat.reduceAdd, if_true, if_false, Bool.false_eq_true]
                  repeat (go_big_quiet_step (fail))
                  refine wpQuiet_nil ?_
                  refine tail_step (i := 9) (fuel := 25) (by kernel_rfl) rfl (by rfl) (fun K' hK => ?_)
                  go_simp
                  refine (HMK.out j t _ (by omega) (by omega)).mono ?_
                  rintro e wx ⟨ys, rfl, hcy, hbx⟩
                  have hAx : Below wr.heap.size wr wx := below_step (below_drew wr) hbx
                  refine hK.out _ _ ⟨⟨wx, hAx⟩, rfl⟩ (fun _ => ?_)
                  have hys : ys = [.int .i64 0, .int .i64 M] := by rw [← hM]; exact hcy
                  subst hys
                  clear hK K' hcy hbx hgB c0 c1
                  by_cases htk : t < n
                  · have r3 : decide ((t : Int) < (n : Int)) = true := decide_eq_true (by omega)
                    have q3 : (t : Int) < (n : Int) := by omega
                    obtain ⟨g, rfl, -⟩ := (HF.out j _ HV.out).lies (by omega)
                    obtain ⟨xs, hcel, hrg⟩ := (HF.out j _ HV.out).getU (show t < vn (.slice (some ⟨g, 0, none⟩) n c) from htk)
                    have HCEL2 := Lib.hid hcel
                    have HRG2 := Lib.hid hrg
                    clear hcel hrg HCEL HRG
                    have hxs : xs = [.int .i64 0, .int .i64 M] := by rw [← hM]; exact HCEL2.out
                    subst hxs
                    have d0 : ∀ n' : GrownB wr.heap.size wr, n'.it.cell? ⟨g, t * 2, none⟩ = some (.int .i64 0) := GrownB.cell (U_below HB.out _ _ _ (U_lt (HRG2.out 0 _ rfl)) (HRG2.out 0 _ rfl)) (Nat.lt_of_lt_of_le (U_lt (HRG2.out 0 _ rfl)) HB.out.size)
                    have d1 : ∀ n' : GrownB wr.heap.size wr, n'.it.cell? ⟨g, t * 2 + 1, none⟩ = some (.int .i64 M) := GrownB.cell (U_below HB.out _ _ _ (U_lt (HRG2.out 1 _ rfl)) (HRG2.out 1 _ rfl)) (Nat.lt_of_lt_of_le (U_lt (HRG2.out 1 _ rfl)) HB.out.size)
                    refine takeReadsL (by kernel_rfl) (fun _ _ d _ _ h => by cases d <;> exact h) ⟨⟨wx, hAx⟩, rfl⟩ 5 [10, 11, 12, 13, 14, 15, 16, 17, 18, 19, 20, 21, 22, 23, 24, 25, 26, 27, 28, 29] _ _ (by kernel_rfl) (by kernel_rfl) ?_
                    simp only [List.map_cons, List.map_nil, List.getD_cons_zero, List.getD_cons_succ, bar, readKind, List.size_toArray, List.length_cons, List.length_nil, Nat.zero_add, Nat.reduceAdd, if_true, if_false, Bool.false_eq_true]
                    repeat (go_big_quiet_step (fail))
                    refine wpQuiet_nil ?_
                    clear d0 d1
                    refine tail_step (i := 30) (fuel := 4) (by kernel_rfl) rfl (by rfl) (fun K' hK => ?_)
                    go_simp
                    refine (HMK.out j t _ (by omega) (by omega)).mono ?_
                    rintro e wz ⟨ys, rfl, hcy, hbz⟩
                    have hAz : Below wr.heap.size wr wz := below_step hAx hbz
                    refine hK.out _ _ ⟨⟨wz, hAz⟩, rfl⟩ (fun _ => ?_)
                    have hys : ys = [.int .i64 0, .int .i64 M] := by rw [← hM]; exact hcy
                    subst hys
                    clear hK K' hcy hbz
                    refine takeReadsL (by kernel_rfl) (fun _ _ d _ _ h => by cases d <;> exact h) ⟨⟨wz, hAz⟩, rfl⟩ 0 [31, 32, 33, 34] _ _ (by kernel_rfl) (by kernel_rfl) ?_
                    simp only [List.map_cons, List.map_nil, List.getD_cons_zero, List.getD_cons_succ, bar, readKind, List.size_toArray, List.length_cons, List.length_nil, Nat.zero_add, Nat.reduceAdd, if_true, if_false, Bool.false_eq_true]
                    repeat (go_big_quiet_step (fail))
                    refine wpQuiet_nil ?_
                    refine wpAnyH_done (by kernel_rfl) ?_ _
                    have HAV := Lib.hid hAz
                    clear hAz hAx
                    go_wp2_with fail
                    go_roundw
                    case rel => exact ⟨t + 1, by go_num, by omega, below_step HB.out HAV.out⟩
                    case measure => simp [intOf]; omega
                  · have r3 : decide ((t : Int) < (n : Int)) = false := decide_eq_false (by omega)
                    refine takeReadsL (by kernel_rfl) (fun _ _ d _ _ h => by cases d <;> exact h) ⟨⟨wx, hAx⟩, rfl⟩ 0 [10, 11, 12, 13, 14, 15, 16, 17, 18, 19, 20, 21, 22, 23, 24, 25, 26, 27, 28, 29, 30, 31, 32, 33, 34] _ _ (by kernel_rfl) (by kernel_rfl) ?_
                    simp only [List.map_cons, List.map_nil, List.getD_cons_zero, List.getD_cons_succ, bar, readKind, List.size_toArray, List.length_cons, List.length_nil, Nat.zero_add, Nat.reduceAdd, if_true, if_false, Bool.false_eq_true]
                    repeat (go_big_quiet_step (fail))
                    refine wpQuiet_nil ?_
                    refine wpAnyH_done (by kernel_rfl) ?_ _
                    have HAY := Lib.hid hAx
                    clear hAx
                    go_wp2_with fail
                    go_roundw
                    case rel => exact ⟨t + 1, by go_num, by omega, below_step HB.out HAY.out⟩
                    case measure => simp [intOf]; omega
                · have r2 : decide ((t : Int) < (n : Int) + 64) = false := decide_eq_false (by omega)
                  clear hug hul
                  go_wp2_with fail
                  go_roundw
                  case rel => exact ⟨j + 1, by go_num, by omega, HB.out⟩
                  case measure => simp [intOf]; omega
            · have r1 : decide ((j : Int) < (m : Int)) = false := decide_eq_false (by omega)
              obtain rfl : j = m := by omega
              go_wp2_with fail
              obtain ⟨w4, hw4⟩ : ∃ w4 : World, w4 = wr := ⟨_, rfl⟩
              subst hw4
              obtain ⟨m, hm⟩ : ∃ m : Nat, m = j := ⟨_, rfl⟩
              subst hm
              have HF4 := Lib.hid (HF.out.below KP_ok hB)
              have HG4 := Lib.hid ((HGS.out.start (d' := 0) (x' := 64)).below KP_ok hB)
              have HT4 := Lib.hid (HT.out.trans (Tn.of_below hB))
              clear HF HGS HT hB hlt
              go_loopw [11] (fun i wr => ∃ j : Nat, i = .int .i64 j ∧ j ≤ m ∧ Full KP 0 wr vs ∧ Gsl KP 41 G w.heap.size wr vs 0 64 j ∧ Tn KP.em (InV vs) w wr) (fun i _ => m - (intOf i).toNat)
              case atStart => exact ⟨0, rfl, Nat.zero_le _, HF4.out, HG4.out, HT4.out⟩
              case round =>
                clear HF4 HG4 HT4
                obtain ⟨j, rfl, hj, hF, hGs, hT⟩ := hrel
                by_cases hlt : j < m
                · have r1 : decide ((j : Int) < (m : Int)) = true := decide_eq_true (by omega)
                  obtain ⟨v, hv⟩ : ∃ v, vs[j]? = some v := ⟨_, List.getElem?_eq_getElem (by have := HM.out; omega)⟩
                  obtain ⟨p, n, c, rfl, hnc, hcc⟩ := (hF j v hv).isSlice
                  unfold maxLen at hcc
                  obtain ⟨rfl, hn⟩ := HL.out j _ hv
                  replace hn : n ≤ 10000000 := hn
                  have HV := Lib.hid hv
                  have HF := Lib.hid hF
                  have HGS := Lib.hid hGs
                  have HT := Lib.hid hT
                  clear hv hF hGs hT
                  obtain ⟨arr2, hmk2, harr2⟩ := KP_sty.make 64 (by decide) wr
                  have hmk2' : (Instr.makeSlice 41 (.int .i64 64) (.int .i64 64)).run Tryz.prog wr = .ok (.slice (some ⟨wr.heap.size, 0, none⟩) 64 64) (wr.alloc (.cells arr2 77)) := hmk2
                  clear hmk2
                  go_wp2_with fail
                  obtain ⟨wk, hwk⟩ : ∃ wk : World, wk = wr := ⟨_, rfl⟩
                  subst hwk
                  obtain ⟨w5, hw5⟩ : ∃ w5, wk.alloc (.cells arr2 77) = w5 := ⟨_, rfl⟩
                  obtain ⟨B, hBq⟩ : ∃ B, wk.heap.size = B := ⟨_, rfl⟩
                  have HB5 : Hid (Below wk.heap.size wk w5) := Lib.hid (by rw [← hw5]; exact below_alloc _ _)
                  have HR5 : Hid (RowI KP B w5 (.slice (some ⟨B, 0, none⟩) 64 64) 0 (j + m)) := Lib.hid (by rw [← hw5, ← hBq]; exact RowI.new wk 64 (j + m) harr2 (by decide) (by decide))
                  have HBq := Lib.hid hBq
                  rw [hw5, hBq]
                  clear hw5 hmk2' harr2 hBq
                  go_loopw [13] (fun i wr => ∃ t : Nat, i = .int .i64 t ∧ t ≤ 64 ∧ RowI KP B wr (.slice (some ⟨B, 0, none⟩) 64 64) t (j + m) ∧ Below wk.heap.size wk wr) (fun i _ => 64 - (intOf i).toNat)
                  case atStart => exact ⟨0, rfl, by decide, HR5.out, HB5.out⟩
                  case round =>
                    clear HR5 HB5
                    obtain ⟨t, rfl, ht, hR5, hB⟩ := hrel
                    have HR5 := Lib.hid hR5
                    have HB := Lib.hid hB
                    clear hR5 hB
                    by_cases hlt64 : t < 64
                    · have r2 : decide ((t : Int) < 64) = true := decide_eq_true (by omega)
                      have HMJ : Hid (∀ W, Calls Tryz.prog 210 #[.int .i64 ((j : Int) + (m : Int)), .int .i64 t] W fun e w' => ∃ xs, e = .returned (.agg xs.toArray) ∧ KP.cel w' (mk (j + m) t) xs ∧ Below W.heap.size W w') := fun W => by
                        have := HMK.out (j + m) t W (by omega) (by omega)
                        rwa [Int.natCast_add] at this
                      go_wp2_with fail
                      refine (HMJ.out _).mono ?_
                      rintro e wx ⟨xs, rfl, hcel, hbx⟩
                      have hRx := HR5.out.on KP_ok (Tn.of_below (X := fun _ => False) hbx) fun _ _ _ _ => id
                      obtain ⟨hth, hR', hT'⟩ := hRx.set KP_ok hlt64 hcel
                      have hth' : wx.there B (t * 2) xs.toArray.size := by rw [List.size_toArray, KP_ok.len _ _ _ hcel]; exact hth
                      have hsz' : (Tryz.prog.info? 77).map (·.size) = some xs.toArray.size := by rw [List.size_toArray, KP_ok.len _ _ _ hcel]; exact KP_sty.size
                      have hon' := all_oneCell_toArray (KP_ok.one _ _ _ hcel)
                      have HR' := Lib.hid hR'
                      have HB' : Hid (Below wk.heap.size wk (wx.setCells B (t * 2) xs)) := Lib.hid (below_step' HB.out hbx hT' HBq.out)
                      clear hRx hth hR' hT' hcel hbx HR5 HB HMJ
                      go_wp2_with (refine wpList_store_mid rfl 77 _ _ rfl B (t * 2) xs.toArray rfl rfl hth' hsz' hon' ?_)
                      go_roundw
                      case rel => exact ⟨t + 1, by go_num, by omega, HR'.out, HB'.out⟩
                      case measure => simp [intOf]; omega
                    · have r2 : decide ((t : Int) < 64) = false := decide_eq_false (by omega)
                      obtain rfl : t = 64 := by omega
                      obtain ⟨news, hl, hnews, hone⟩ := HR5.out.all KP_ok (by decide)
                      have hc := U_cell (HC.out.2 _ (HT.out.trans (Tn.of_below HB.out)) j _ HV.out)
                      obtain ⟨g', w6, hrun, hR6, hE6, hT6⟩ := ((HF.out.below KP_ok HB.out) j _ HV.out).many KP_ok KP_sty 41 (c := 64) hl (by decide) hnews hone (by show n + 64 ≤ _; omega)
                      have hF6 := Full.one KP_ok hD (HF.out.below KP_ok HB.out) HV.out hT6 hR6
                      have hG6 := Gsl.one KP_ok hD (HGS.out.below KP_ok HB.out) HIN.out HGW.out HV.out hT6
                      obtain ⟨u, hgc, hgf⟩ := hG6.cell (k := j) (by have := HM.out; omega)
                      obtain ⟨-, hG', hT'⟩ := hG6.put KP_ok (by decide) (by decide) HV.out (hE6.less (Nat.le_refl _) (Nat.le_trans HT.out.size HB.out.size))
                      obtain ⟨h, cap, cur, e, -⟩ := hE6
                      subst e
                      have HG' := Lib.hid hG'
                      have HF' := Lib.hid (hF6.put KP_ok HIN.out HGW.out hT')
                      have HT' := Lib.hid ((((HT.out.trans (Tn.of_below HB.out)).trans (hT6.inV HV.out))).trans' hT' fun b hb e => by have := HGW.out; omega)
                      clear hF6 hG6 hG' hT' hT6 hR6 HR5 HB HF HGS HT hl hnews hone
                      go_wp2_with (at_builtin; refine wpList_append_run rfl _ _ 41 rfl _ _ _ rfl rfl hrun ?_)
                      go_roundw
                      case rel => exact ⟨j + 1, by go_num, by omega, HF'.out, HG'.out, HT'.out⟩
                      case measure => simp [intOf]; omega
                · have r1 : decide ((j : Int) < (m : Int)) = false := decide_eq_false (by omega)
                  obtain rfl : j = m := by omega
                  have HF := Lib.hid hF
                  have HGS := Lib.hid hGs
                  have HT := Lib.hid hT
                  clear hF hGs hT
                  go_wp2_with fail
                  obtain ⟨w7, hw7⟩ : ∃ w7 : World, w7 = wr := ⟨_, rfl⟩
                  subst hw7
                  obtain ⟨m, hm⟩ : ∃ m : Nat, m = j := ⟨_, rfl⟩
                  subst hm
                  clear hlt
                  go_loopw [14] (fun i wr => ∃ j : Nat, i = .int .i64 j ∧ j ≤ m ∧ Below w7.heap.size w7 wr) (fun i _ => m - (intOf i).toNat)
                  case atStart => exact ⟨0, rfl, Nat.zero_le _, Below.refl _ _⟩
                  case round =>
                    obtain ⟨j, rfl, hj, hB⟩ := hrel
                    by_cases hlt : j < m
                    · have r1 : decide ((j : Int) < (m : Int)) = true := decide_eq_true (by omega)
                      obtain ⟨v, hv⟩ : ∃ v, vs[j]? = some v := ⟨_, List.getElem?_eq_getElem (by have := HM.out; omega)⟩
                      obtain ⟨p, n, c, rfl, hnc, hcc⟩ := (HF.out j v hv).isSlice
                      unfold maxLen at hcc
                      obtain ⟨rfl, hn⟩ := HL.out j _ hv
                      replace hn : n ≤ 10000000 := hn
                      have HV := Lib.hid hv
                      have HB := Lib.hid hB
                      clear hv hB
                      obtain ⟨u, hgc, hgf, hE⟩ := HGS.out.get hlt HV.out
                      obtain ⟨h, cap, cur, rfl, -, -, hq1, hq2, -⟩ := id hE
                      unfold maxLen at hq2
                      replace hq1 : n + 64 ≤ cap := hq1
                      have HU : Hid (U w7 G j = some (.slice (some ⟨h, 0, none⟩) (n + 64) cap)) := Lib.hid (U_mk hgc hgf)
                      have HE := Lib.hid hE
                      clear hgc hgf hE
                      go_wp2_with fail
                      go_loopw [15] (fun i wr => ∃ t : Nat, i = .int .i64 t ∧ t ≤ n ∧ Below w7.heap.size w7 wr) (fun i _ => n - (intOf i).toNat)
                      case atStart => exact ⟨0, rfl, Nat.zero_le _, HB.out⟩
                      case round =>
                        clear HB
                        obtain ⟨t, rfl, ht, hB⟩ := hrel
                        have hug := U_below hB _ _ _ (U_lt HU.out) HU.out
                        have hul := HC.out.2 _ (HT.out.trans (Tn.of_below hB)) j _ HV.out
                        have hlc := U_cell hul
                        have HB := Lib.hid hB
                        clear hB
                        by_cases htn : t < n
                        · have r2 : decide ((t : Int) < (n : Int)) = true := decide_eq_true (by omega)
                          have q1 : (0 : Int) ≤ (t : Int) := by omega
                          have q2 : (t : Int) < (n : Int) + 64 := by omega
                          have q3 : (t : Int) < (n : Int) := by omega
                          obtain ⟨g, rfl, -⟩ := (HF.out j _ HV.out).lies (by omega)
                          obtain ⟨xs, hcel, hrg⟩ := (HF.out j _ HV.out).getU (show t < vn (.slice (some ⟨g, 0, none⟩) n c) from htn)
                          have HCEL := Lib.hid hcel
                          have HRG := Lib.hid hrg
                          clear hcel hrg
                          obtain ⟨M, hM⟩ : ∃ M, mk j t = M := ⟨_, rfl⟩
                          have hxs : xs = [.int .i64 0, .int .i64 M] := by rw [← hM]; exact HCEL.out
                          subst hxs
                          have c0 : ∀ n' : GrownB wr.heap.size wr, n'.it.cell? ⟨g, t * 2, none⟩ = some (.int .i64 0) := GrownB.cell (U_below HB.out _ _ _ (U_lt (HRG.out 0 _ rfl)) (HRG.out 0 _ rfl)) (Nat.lt_of_lt_of_le (U_lt (HRG.out 0 _ rfl)) HB.out.size)
                          have c1 : ∀ n' : GrownB wr.heap.size wr, n'.it.cell? ⟨g, t * 2 + 1, none⟩ = some (.int .i64 M) := GrownB.cell (U_below HB.out _ _ _ (U_lt (HRG.out 1 _ rfl)) (HRG.out 1 _ rfl)) (Nat.lt_of_lt_of_le (U_lt (HRG.out 1 _ rfl)) HB.out.size)
                          obtain ⟨xs, hcel, hrg⟩ := HE.out.getU (show t < vn (.slice (some ⟨g, 0, none⟩) n c) + 0 from htn)
                          have HCEL2 := Lib.hid hcel
                          have HRG2 := Lib.hid hrg
                          clear hcel hrg
                          have hxs : xs = [.int .i64 0, .int .i64 M] := by rw [← hM]; exact HCEL2.out
                          subst hxs
                          have d0 : ∀ n' : GrownB wr.heap.size wr, n'.it.cell? ⟨h, t * 2, none⟩ = some (.int .i64 0) := GrownB.cell (U_below HB.out _ _ _ (U_lt (HRG2.out 0 _ rfl)) (HRG2.out 0 _ rfl)) (Nat.lt_of_lt_of_le (U_lt (HRG2.out 0 _ rfl)) HB.out.size)
                          have d1 : ∀ n' : GrownB wr.heap.size wr, n'.it.cell? ⟨h, t * 2 + 1, none⟩ = some (.int .i64 M) := GrownB.cell (U_below HB.out _ _ _ (U_lt (HRG2.out 1 _ rfl)) (HRG2.out 1 _ rfl)) (Nat.lt_of_lt_of_le (U_lt (HRG2.out 1 _ rfl)) HB.out.size)
                          have hgB := GrownB.cell hug (U_lt hug)
                          have hlB := GrownB.cell hul (U_lt hul)
                          clear hug hul
                          go_wp2_with fail
                          refine wp_region_take_I wr.heap.size [0, 1, 2, 3, 4, 5, 6, 7, 8] (by decide) (by kernel_rfl) (by kernel_rfl) (by kernel_rfl) (by kernel_rfl) (fun _ _ d _ _ h => by cases d <;> exact h) ?_
                          simp only [List.map_cons, List.map_nil, List.getD_cons_zero, List.getD_cons_succ, bar, readKind, List.size_toArray, List.length_cons, List.length_nil, Nat.zero_add, Nat.reduceAdd, if_true, if_false, Bool.false_eq_true]
                          repeat (go_big_quiet_step (fail))
                          refine wpQuiet_nil ?_
                          clear c0 c1
                          refine tail_step (i := 9) (fuel := 16) (by kernel_rfl) rfl (by rfl) (fun K' hK => ?_)
                          go_simp
                          refine (HMK.out j t _ (by omega) (by omega)).mono ?_
                          rintro e wx ⟨ys, rfl, hcy, hbx⟩
                          have hAx : Below wr.heap.size wr wx := below_step (below_drew wr) hbx
                          refine hK.out _ _ ⟨⟨wx, hAx⟩, rfl⟩ (fun _ => ?_)
                          have hys : ys = [.int .i64 0, .int .i64 M] := by rw [← hM]; exact hcy
                          subst hys
                          clear hK K' hcy hbx
                          refine takeReadsL (by kernel_rfl) (fun _ _ d _ _ h => by cases d <;> exact h) ⟨⟨wx, hAx⟩, rfl⟩ 4 [10, 11, 12, 13, 14, 15, 16, 17, 18, 19, 20, 21] _ _ (by kernel_rfl) (by kernel_rfl) ?_
                          simp only [List.map_cons, List.map_nil, List.getD_cons_zero, List.getD_cons_succ, bar, readKind, List.size_toArray, List.length_cons, List.length_nil, Nat.zero_add, Nat.reduceAdd, if_true, if_false, Bool.false_eq_true]
                          repeat (go_big_quiet_step (fail))
                          refine wpQuiet_nil ?_
                          clear d0 d1 hgB
                          refine tail_step (i := 22) (fuel := 3) (by kernel_rfl) rfl (by rfl) (fun K' hK => ?_)
                          go_simp
                          refine (HMK.out j t _ (by omega) (by omega)).mono ?_
                          rintro e wz ⟨ys, rfl, hcy, hbz⟩
                          have hAz : Below wr.heap.size wr wz := below_step hAx hbz
                          refine hK.out _ _ ⟨⟨wz, hAz⟩, rfl⟩ (fun _ => ?_)
                          have hys : ys = [.int .i64 0, .int .i64 M] := by rw [← hM]; exact hcy
                          subst hys
                          clear hK K' hcy hbz
                          refine takeReadsL (by kernel_rfl) (fun _ _ d _ _ h => by cases d <;> exact h) ⟨⟨wz, hAz⟩, rfl⟩ 0 [23, 24, 25] _ _ (by kernel_rfl) (by kernel_rfl) ?_
                          simp only [List.map_cons, List.map_nil, List.getD_cons_zero, List.getD_cons_succ, bar, readKind, List.size_toArray, List.length_cons, List.length_nil, Nat.zero_add, Nat.reduceAdd, if_true, if_false, Bool.false_eq_true]
                          repeat (go_big_quiet_step (fail))
                          refine wpQuiet_nil ?_
                          refine wpAnyH_done (by kernel_rfl) ?_ _
                          have HAV := Lib.hid hAz
                          clear hAz hAx
                          go_wp2_with fail
                          go_roundw
                          case rel => exact ⟨t + 1, by go_num, by omega, below_step HB.out HAV.out⟩
                          case measure => simp [intOf]; omega
                        · have r2 : decide ((t : Int) < (n : Int)) = false := decide_eq_false (by omega)
                          clear hug hul
                          go_wp2_with fail
                          go_roundw
                          case rel => exact ⟨j + 1, by go_num, by omega, HB.out⟩
                          case measure => simp [intOf]; omega
                    · have r1 : decide ((j : Int) < (m : Int)) = false := decide_eq_false (by omega)
                      have HB := Lib.hid hB
                      clear hB
                      go_wp2_with fail
                      go_ret
                      exact ⟨rfl, HT.out.trans (Tn.of_below HB.out)⟩
end Go.Proofs.YtkcmapimcgppmaaGreatDoor
end
