/-
  What the walks of rows that are written over ask of a kind of elements, of a list of rows. The bag into which lists are put: what it holds. Conditions: as each lemma states them.
-/
import Derived.Test.YtkcmapimcgppmaaGreatDoorM22
import Derived.Great.BuildSlice
import Derived.Test.YtkcmapimcgppmaaGreatDoorM01
import Derived.Test.YtkcmapimcgppmaaGreatDoorM04
import Derived.Test.YtkcmapimcgppmaaGreatDoorM11
import Derived.Test.YtkcmapimcgppmaaGreatDoorM05
set_option linter.all false
set_option linter.unusedVariables false
set_option linter.unusedSimpArgs false
set_option linter.unnecessarySimpa false
section
namespace Go.Proofs.YtkcmapimcgppmaaGreatDoor
open Go.RowKit

/-- The program's mark of a kind; its likeness. -/
def MarkOk (P : Program) (K : Kd) (f : Nat) : Prop := ∀ (k i : Nat) (w : World), k ≤ 100000000 → i ≤ 100000000 → Calls P f #[.int .i64 k, .int .i64 i] w fun e w' => ∃ xs, e = .returned (.agg xs.toArray) ∧ K.cel w' (mk k i) xs ∧ Below w.heap.size w w'
def SameOk (P : Program) (K : Kd) (f : Nat) : Prop := ∀ (M : Int) (w : World) (xs ys : List Value), K.cel w M xs → K.cel w M ys → Calls P f #[.agg xs.toArray, .agg ys.toArray] w fun e w' => e = .returned (.bool true) ∧ Below w.heap.size w w'
theorem Kd.Ok.below {K : Kd} (hK : K.Ok) {w w' : World} {M : Int} {xs : List Value} (h : K.cel w M xs) (hb : Below w.heap.size w w') : K.cel w' M xs := hK.on _ _ _ _ (Tn.of_below (X := fun _ => False) hb).keep h
theorem RowI.isSlice {K : Kd} {lo : Nat} {w : World} {v : Value} {d k : Nat} (h : RowI K lo w v d k) : ∃ p n c, v = .slice p n c ∧ n ≤ c ∧ c ≤ maxLen := by
  rcases h with ⟨p, rfl, -⟩ | ⟨g, n, cap, cur, rfl, h1, h2, h3, h4, h5, -⟩
  · exact ⟨p, 0, 0, rfl, Nat.le_refl _, Nat.zero_le _⟩
  · exact ⟨_, n, cap, rfl, h3, h5⟩
theorem RowI.lies {K : Kd} {lo : Nat} {w : World} {p : Option Addr} {n c d k : Nat} (h : RowI K lo w (.slice p n c) d k) (h0 : 0 < n) : ∃ g, p = some ⟨g, 0, none⟩ ∧ 0 < c := by
  rcases h with ⟨p, e, -⟩ | ⟨g, n, cap, cur, e, h1, h2, h3, h4, -⟩
  · cases e; omega
  · cases e; exact ⟨g, rfl, h4⟩
theorem RowsG.typed {K : Kd} {lo : Nat} {w : World} {vs : List Value} {d : Nat → Nat} (h : RowsG K lo w vs d) {b : Nat} (hb : InV vs b) : lo ≤ b ∧ ∃ cur, w.heap[b]? = some (Obj.cells cur K.e (0, 0)) := by
  obtain ⟨v, hv, e⟩ := hb
  obtain ⟨k, hk⟩ := List.getElem?_of_mem hv
  rcases h k v hk with ⟨p, rfl, -⟩ | ⟨g, n, cap, cur, rfl, h1, h2, h3, h4, -⟩
  · cases p <;> cases e
  · rw [vb_of h4] at e; cases e
    exact ⟨h1, cur, h2⟩
theorem RowsG.cong {K : Kd} {lo : Nat} {w : World} {vs : List Value} {d d' : Nat → Nat} (h : RowsG K lo w vs d) (he : ∀ k v, vs[k]? = some v → d k = d' k) : RowsG K lo w vs d' := fun k v hv => by rw [← he k v hv]; exact h k v hv
theorem RowsG.below {K : Kd} (hK : K.Ok) {lo : Nat} {w w' : World} {vs : List Value} {d : Nat → Nat} (h : RowsG K lo w vs d) (hb : Below w.heap.size w w') : RowsG K lo w' vs d := h.on hK (Tn.of_below (X := fun _ => False) hb) fun _ _ _ _ => id
/-- The rows ahead of k are marked, of row k the first i. -/
def dF (vs : List Value) (k i : Nat) : Nat → Nat := fun j => if j < k then vn (vs.getD j undef) else if j = k then i else 0
theorem dF_self (vs : List Value) (k i : Nat) : dF vs k i k = i := by simp [dF]
theorem RowsG.dNext {K : Kd} {lo : Nat} {w : World} {vs : List Value} {k i : Nat} (h : RowsG K lo w vs (fun j => if j = k then dF vs k i k + 1 else dF vs k i j)) : RowsG K lo w vs (dF vs k (i + 1)) :=
  h.cong fun j _ _ => by
    by_cases e : j = k
    · subst e; simp [dF]
    · simp [dF, e]
theorem RowsG.setF {K : Kd} (hK : K.Ok) {lo : Nat} {w : World} {vs : List Value} (hD : Dist vs) {k i g n cap : Nat} {xs : List Value} (h : RowsG K lo w vs (dF vs k i)) (hv : vs[k]? = some (.slice (some ⟨g, 0, none⟩) n cap)) (hi : i < n) (hx : K.cel w (mk k i) xs) :
    w.there g (i * K.sz) K.sz ∧ RowsG K lo (w.setCells g (i * K.sz) xs) vs (dF vs k (i + 1)) ∧ Tn K.em (InV vs) w (w.setCells g (i * K.sz) xs) := by
  have := RowsG.set hK hD h hv (by rw [dF_self]; exact hi) (by rw [dF_self]; exact hx)
  rw [dF_self] at this
  obtain ⟨h1, h2, h3⟩ := this
  refine ⟨h1, RowsG.dNext ?_, h3⟩
  rw [dF_self]
  exact h2
theorem getD_of {vs : List Value} {k : Nat} {v : Value} (h : vs[k]? = some v) : vs.getD k undef = v := by rw [List.getD_eq_getElem?_getD, h]; rfl
theorem RowsG.dEnd {K : Kd} {lo : Nat} {w : World} {vs : List Value} {k : Nat} {v : Value} (hv : vs[k]? = some v) (h : RowsG K lo w vs (dF vs k (vn v))) : RowsG K lo w vs (dF vs (k + 1) 0) :=
  h.cong fun j _ _ => by
    unfold dF
    by_cases e : j < k
    · rw [if_pos e, if_pos (by omega)]
    · rw [if_neg e]
      by_cases e2 : j = k
      · subst e2; rw [if_pos rfl, if_pos (by omega), getD_of hv]
      · rw [if_neg e2, if_neg (by omega)]; split <;> rfl
/-- All are marked. -/
def Full (K : Kd) (lo : Nat) (w : World) (vs : List Value) : Prop := ∀ k v, vs[k]? = some v → RowI K lo w v (vn v) k
theorem RowsG.full {K : Kd} {lo : Nat} {w : World} {vs : List Value} {m : Nat} (hm : vs.length = m) (h : RowsG K lo w vs (dF vs m 0)) : Full K lo w vs := fun k v hv => by
  have := h k v hv
  have hk : k < m := by rw [← hm]; exact (List.getElem?_eq_some_iff.1 hv).1
  unfold dF at this
  rwa [if_pos hk, getD_of hv] at this
theorem Full.on {K : Kd} (hK : K.Ok) {X : Nat → Prop} {lo : Nat} {w w' : World} {vs : List Value} (h : Full K lo w vs) (ht : Tn K.em X w w') (hx : ∀ (b : Nat) (cur : Array Value), w.heap[b]? = some (Obj.cells cur K.e (0, 0)) → InV vs b → ¬ X b) : Full K lo w' vs := fun k v hv =>
  (h k v hv).on hK ht fun b cur hc hb => hx b cur hc ⟨v, List.mem_of_getElem? hv, hb⟩
theorem Full.below {K : Kd} (hK : K.Ok) {lo : Nat} {w w' : World} {vs : List Value} (h : Full K lo w vs) (hb : Below w.heap.size w w') : Full K lo w' vs := h.on hK (Tn.of_below (X := fun _ => False) hb) fun _ _ _ _ => id
/-- A list of rows that lies in block L stays as it is while they are written over. -/
theorem list_cells {K : Kd} {eS em lo L : Nat} {w : World} {vs : List Value} {d : Nat → Nat} (hR : RowsG K lo w vs d) (hne : eS ≠ K.e) {arr : Array Value} (hL : w.heap[L]? = some (Obj.cells arr eS (0, 0))) (ha : ∀ (k : Nat) (v : Value), vs[k]? = some v → arr[k]? = some v) :
    ¬ InV vs L ∧ ∀ W, Tn em (InV vs) w W → ∀ (k : Nat) (v : Value), vs[k]? = some v → U W L k = some v := by
  have h1 : ¬ InV vs L := fun h => by
    obtain ⟨-, cur, e⟩ := hR.typed h
    rw [hL] at e; cases e; exact hne rfl
  refine ⟨h1, fun W ht k v hv => ?_⟩
  have h2 := ht.block L (heap_lt hL) h1
  rw [hL] at h2
  exact U_mk (by simp [World.cell?, h2, ha k v hv]) (by simp [World.frozen?, h2])

/-- One row has turned, of those that lie apart. -/
theorem Full.one {K : Kd} (hK : K.Ok) {lo : Nat} {w w' : World} {vs : List Value} (hD : Dist vs) (h : Full K lo w vs) {k : Nat} {v : Value} (hv : vs[k]? = some v) (ht : Tn K.em (fun b => vb v = some b) w w') (hr : RowI K lo w' v (vn v) k) : Full K lo w' vs := fun j u hu => by
  by_cases e : j = k
  · subst e
    rw [hv] at hu; cases hu
    exact hr
  · exact (h j u hu).on hK ht fun b _ _ hb hx => e (hD j k u v b hu hv hb hx)
theorem Tn.inV {em : Nat} {w w' : World} {vs : List Value} {k : Nat} {v : Value} (hv : vs[k]? = some v) (ht : Tn em (fun b => vb v = some b) w w') : Tn em (InV vs) w w' := ht.mono fun _ _ h => ⟨v, List.mem_of_getElem? hv, h⟩
/-- The list of what has grown stays while the next one grows. -/
theorem Gsl.one {K : Kd} (hK : K.Ok) {eS G s : Nat} {w w' : World} {vs : List Value} {d x k : Nat} (hD : Dist vs) (h : Gsl K eS G s w vs d x k) (hs : ∀ b, InV vs b → b < s) (hG : s ≤ G) {v : Value} (hv : vs[k]? = some v) (ht : Tn K.em (fun b => vb v = some b) w w') : Gsl K eS G s w' vs d x k :=
  h.on hK ht (fun _ _ e => by have := hs G ⟨v, List.mem_of_getElem? hv, e⟩; omega) fun b _ _ hb e => by
    rcases hb with ⟨j, u, hj, hu, e2⟩ | hb
    · have := hD j k u v b hu hv e2 e; omega
    · have := hs b ⟨v, List.mem_of_getElem? hv, e⟩; omega
/-- An entry of the list is put: the rows stay. -/
theorem Full.put {K : Kd} (hK : K.Ok) {lo G s : Nat} {w w' : World} {vs : List Value} (h : Full K lo w vs) (hs : ∀ b, InV vs b → b < s) (hG : s ≤ G) (ht : Tn K.em (fun b => b = G) w w') : Full K lo w' vs := h.on hK ht fun b _ _ hb e => by have := hs b hb; omega
theorem Gsl.start {K : Kd} {eS G s : Nat} {w : World} {vs : List Value} {d x d' x' j : Nat} (h : Gsl K eS G s w vs d x j) : Gsl K eS G s w vs d' x' 0 := by
  obtain ⟨arr, h1, h2, -⟩ := h
  exact ⟨arr, h1, h2, fun k v hk => by omega⟩
theorem Gsl.below {K : Kd} (hK : K.Ok) {eS G s : Nat} {w w' : World} {vs : List Value} {d x j : Nat} (h : Gsl K eS G s w vs d x j) (hb : Below w.heap.size w w') : Gsl K eS G s w' vs d x j :=
  h.on hK (Tn.of_below (X := fun _ => False) hb) (fun _ _ => id) fun _ _ _ _ => id
theorem Gsl.new {K : Kd} {eS s : Nat} (w : World) (vs : List Value) (d x : Nat) {arr : Array Value} (ha : arr.size = vs.length) : Gsl K eS w.heap.size s (w.alloc (.cells arr eS)) vs d x 0 :=
  ⟨arr, heap_alloc_new w _, ha, fun k v hk => by omega⟩
theorem Ent.getU {K : Kd} {s : Nat} {w : World} {v : Value} {h n cap d k i : Nat} (hE : Ent K s w v (.slice (some ⟨h, 0, none⟩) n cap) n d k) (hi : i < d) : ∃ xs, K.cel w (mk k i) xs ∧ ∀ j u, xs[j]? = some u → U w h (i * K.sz + j) = some u := by
  obtain ⟨h', cap', cur, h1, h2, h3, h4, h5, h6, h7⟩ := hE
  cases h1
  obtain ⟨xs, e1, e2⟩ := h7 i hi
  exact ⟨xs, e1, fun j u hj => U_mk (rangeAt_of h2 e2 j u hj) (by simp [World.frozen?, h2])⟩
theorem RowI.getU {K : Kd} {lo : Nat} {w : World} {g n cap d k i : Nat} (h : RowI K lo w (.slice (some ⟨g, 0, none⟩) n cap) d k) (hi : i < d) : ∃ xs, K.cel w (mk k i) xs ∧ ∀ j u, xs[j]? = some u → U w g (i * K.sz + j) = some u := by
  rcases h with ⟨p, -, rfl⟩ | ⟨g, n, cap, cur, e, h1, h2, h3, h4, h5, h6, h7, h8⟩
  · omega
  · cases e
    obtain ⟨xs, e1, e2⟩ := h8 i hi
    exact ⟨xs, e1, fun j u hj => U_mk (rangeAt_of h2 e2 j u hj) (by simp [World.frozen?, h2])⟩
/-- All cells of a row that is marked. -/
theorem RowI.all {K : Kd} (hK : K.Ok) {lo : Nat} {w : World} {B n k : Nat} (h : RowI K lo w (.slice (some ⟨B, 0, none⟩) n n) n k) (h0 : 0 < n) : ∃ news : List Value, news.length = n * K.sz ∧ (∀ j u, news[j]? = some u → w.cell? ((⟨B, 0, none⟩ : Addr).add j) = some u) ∧ ∀ u ∈ news, u.oneCell' = true := by
  rcases h with ⟨p, e, -⟩ | ⟨g, m, cap, cur, e, h1, h2, h3, h4, h5, h6, h7, h8⟩
  · cases e; omega
  · cases e
    refine ⟨cur.toList, by rw [Array.length_toList, h6], fun j u hu => ?_, fun u hu => ?_⟩
    · rw [Addr.add_mid]
      simpa [World.cell?, h2] using hu
    · obtain ⟨p, hp⟩ := List.getElem?_of_mem hu
      have hlt : p < n * K.sz := by rw [← h6, ← Array.length_toList]; exact (List.getElem?_eq_some_iff.1 hp).1
      have hpos := hK.pos
      obtain ⟨xs, e1, e2⟩ := h8 (p / K.sz) ((Nat.div_lt_iff_lt_mul hpos).2 hlt)
      have hl := hK.len _ _ _ e1
      have hm := Nat.mod_lt p hpos
      have := e2 (p % K.sz) (by omega)
      rw [show p / K.sz * K.sz + p % K.sz = p by rw [Nat.mul_comm]; exact Nat.div_add_mod p K.sz] at this
      rw [Array.getElem?_toList, this] at hp
      exact hK.one _ _ _ e1 u (List.mem_of_getElem? hp)
theorem RowI.new {K : Kd} (w : World) (n k : Nat) {arr : Array Value} (ha : arr.size = n * K.sz) (h0 : 0 < n) (hm : n ≤ maxLen) : RowI K w.heap.size (w.alloc (.cells arr K.e)) (.slice (some ⟨w.heap.size, 0, none⟩) n n) 0 k :=
  .inr ⟨_, n, n, arr, rfl, Nat.le_refl _, heap_alloc_new w _, Nat.le_refl _, h0, hm, ha, Nat.zero_le _, fun i hi => by omega⟩
theorem below_step' {em B : Nat} {w w1 w2 w3 : World} (h1 : Below w.heap.size w w1) (h2 : Below w1.heap.size w1 w2) (h3 : Tn em (fun b => b = B) w2 w3) (hB : w.heap.size = B) : Below w.heap.size w w3 :=
  have h := below_step h1 h2
  h.trans (h3.below h.size fun b hb => by omega)
theorem Gsl.cell {K : Kd} {eS G s : Nat} {w : World} {vs : List Value} {d x j k : Nat} (h : Gsl K eS G s w vs d x j) (hk : k < vs.length) : ∃ u, w.cell? ⟨G, k, none⟩ = some u ∧ w.frozen? ⟨G, k, none⟩ = false := by
  obtain ⟨arr, h1, h2, -⟩ := h
  exact ⟨arr[k]'(by omega), by simp [World.cell?, h1, h2, hk], by simp [World.frozen?, h1]⟩
section
variable {P : Program}
/-- An element is loaded; a slice of one is made; one of many. -/
theorem Sty.load {K : Kd} {t : Nat} (hS : Sty P K t) {d : TypeDesc} (hu : P.underlying K.e = some d) (hd : d.isRow = true) {w : World} {b o : Nat} {xs : List Value} (h : w.rangeAt b o xs) (hl : xs.length = K.sz) : (Instr.loadAt K.e (.pointer (some ⟨b, o, none⟩))).run P w = .ok (.agg xs.toArray) w := by
  obtain ⟨ht, i, z, hi, hz, hsz, hzs, hby⟩ := hS
  exact run_loadAt_mid w b o K.e xs d h hu hd (by rw [hi, Option.map_some, hsz, hl])
theorem Sty.size {K : Kd} {t : Nat} (hS : Sty P K t) : (P.info? K.e).map (·.size) = some K.sz := by
  obtain ⟨ht, i, z, hi, hz, hsz, hzs, hby⟩ := hS
  rw [hi, Option.map_some, hsz]
theorem Sty.make {K : Kd} {t : Nat} (hS : Sty P K t) (n : Nat) (hn : n ≤ 1000000000) (w : World) : ∃ arr : Array Value, (Instr.makeSlice t (.int .i64 n) (.int .i64 n)).run P w = .ok (.slice (some ⟨w.heap.size, 0, none⟩) n n) (w.alloc (.cells arr K.e)) ∧ arr.size = n * K.sz := by
  obtain ⟨ht, i, z, hi, hz, hsz, hzs, hby⟩ := hS
  have hb : n * i.bytes ≤ 1000000000 * 1000 := Nat.mul_le_mul hn hby
  have hb' : (i.bytes : Int) * (n : Int) ≤ 281474976710656 := by
    have h : ((i.bytes * n : Nat) : Int) ≤ 281474976710656 := by rw [Nat.mul_comm]; omega
    rwa [Int.natCast_mul] at h
  have := run_make (P := P) w t K.e i z ht hi hz .i64 .i64 n n (by omega) (by omega) hb' (by omega)
  simp only [Int.toNat_natCast, hsz] at this
  exact ⟨_, this, by simp [madeCells]⟩
end
end Go.Proofs.YtkcmapimcgppmaaGreatDoor
end
section
namespace Go.Proofs.YtkcmapimcgppmaaGreatDoor
open Go.RowKit

/-- The types of the bag's lists' elements. -/
def tyB (i : Nat) : Nat := [228, 230, 72, 232, 233, 235, 237, 41, 24, 22, 44, 45, 239, 63, 48, 56, 242].getD i 0
theorem tyB_inj' : ∀ i, i < 17 → ∀ j, j < 17 → tyB i = tyB j → i = j := by decide
theorem tyB_inj (i j : Nat) (hi : i < 17) (hj : j < 17) (h : tyB i = tyB j) : i = j := tyB_inj' i hi j hj h
theorem tyB_ne : ∀ i, i < 17 → tyB i ≠ 114 := by decide
/-- A bag in block β, all of it from block B0 on, its lists. -/
def BagAt (w : World) (β B0 : Nat) (f : Nat → List Value) : Prop :=
  B0 ≤ β ∧ ∃ cur : Array Value, w.heap[β]? = some (Obj.cells cur 114 (0, 0)) ∧ cur.size = 17 ∧ ∀ i, i < 17 → ∃ v, cur[i]? = some v ∧ (f i = [] → v = .slice none 0 0) ∧ w.ownsRow B0 (tyB i) 1 v (f i).length (f i)
theorem BagAt.below {w w' : World} {β B0 : Nat} {f : Nat → List Value} (h : BagAt w β B0 f) (hb : Below w.heap.size w w') : BagAt w' β B0 f := by
  obtain ⟨h0, cur, h1, h2, h3⟩ := h
  refine ⟨h0, cur, by rw [hb.block β (heap_lt h1)]; exact h1, h2, fun i hi => ?_⟩
  obtain ⟨v, h4, h5, h6⟩ := h3 i hi
  exact ⟨v, h4, h5, ownsRow_below h6 hb⟩
theorem BagAt.cell {w : World} {β B0 : Nat} {f : Nat → List Value} (h : BagAt w β B0 f) {i : Nat} (hi : i < 17) : ∃ v, w.cell? ⟨β, i, none⟩ = some v ∧ w.frozen? ⟨β, i, none⟩ = false ∧ (f i = [] → v = .slice none 0 0) ∧ w.ownsRow B0 (tyB i) 1 v (f i).length (f i) := by
  obtain ⟨h0, cur, h1, h2, h3⟩ := h
  obtain ⟨v, h4, h5, h6⟩ := h3 i hi
  exact ⟨v, by simp [World.cell?, h1, h4], by simp [World.frozen?, h1], h5, h6⟩
theorem ownsRow_other {w w' : World} {base e size n : Nat} {v : Value} {xs : List Value} (h : w.ownsRow base e size v n xs) (hk : ∀ (b : Nat) (cur : Array Value), w.heap[b]? = some (Obj.cells cur e (0, 0)) → w'.heap[b]? = w.heap[b]?) : w'.ownsRow base e size v n xs := by
  refine ⟨h.1, h.2.imp id ?_⟩
  rintro ⟨g, cap, cur, rfl, h1, h2, h3⟩
  exact ⟨g, cap, cur, rfl, h1, by rw [hk g cur h2]; exact h2, h3⟩
/-- What putting leaves: what lay below B0, and all blocks of other types than the bag's. -/
structure PF (B0 : Nat) (w w' : World) : Prop where
  below : Below B0 w w'
  keep : ∀ (b : Nat) (cur : Array Value) (e : Nat), e ≠ 114 → (∀ i, i < 17 → e ≠ tyB i) → w.heap[b]? = some (Obj.cells cur e (0, 0)) → w'.heap[b]? = some (Obj.cells cur e (0, 0))
theorem PF.trans {B0 : Nat} {a b c : World} (h : PF B0 a b) (k : PF B0 b c) : PF B0 a c := ⟨h.below.trans k.below, fun i cur e h1 h2 h3 => k.keep i cur e h1 h2 (h.keep i cur e h1 h2 h3)⟩
theorem PF.of_below {B0 : Nat} {w w' : World} (h : Below w.heap.size w w') (hB : B0 ≤ w.heap.size) : PF B0 w w' := ⟨h.mono hB, fun b _ _ _ _ hb => by rw [h.block b (heap_lt hb)]; exact hb⟩
theorem PF.refl (B0 : Nat) (w : World) : PF B0 w w := ⟨Below.refl _ _, fun _ _ _ _ _ h => h⟩
/-- One more is put into a list. -/
theorem BagAt.put {P : Program} {K : Kd} {t i : Nat} (hS : Sty P K t) (he : K.e = tyB i) (hsz : K.sz = 1) (ty : TypeId) {w : World} {β B0 : Nat} {f : Nat → List Value} (h : BagAt w β B0 f) (hi : i < 17) (l : Value) (h1 : l.oneCell' = true) (hn : (f i).length + 1 ≤ 1000000000) (hB : B0 ≤ w.heap.size) :
    ∃ v v' w2, w.cell? ⟨β, i, none⟩ = some v ∧ (w.alloc (.cells #[l] K.e)).cell? ⟨β, i, none⟩ = some v ∧ (Builtin.append_ #[t, t] ty #[v, .slice (some ⟨w.heap.size, 0, none⟩) 1 1]).run P (w.alloc (.cells #[l] K.e)) = .ok v' w2 ∧ (∃ a n c, v' = .slice a n c) ∧
      (∃ u, w2.cell? ⟨β, i, none⟩ = some u) ∧ w2.frozen? ⟨β, i, none⟩ = false ∧ BagAt (w2.setCell ⟨β, i, none⟩ v') β B0 (fun j => if j = i then f i ++ [l] else f j) ∧ PF B0 w (w2.setCell ⟨β, i, none⟩ v') := by
  have hba := below_alloc w (.cells #[l] K.e)
  obtain ⟨h0, cur, g1, g2, g3⟩ := h.below hba
  obtain ⟨v, g4, g5, g6⟩ := g3 i hi
  obtain ⟨v0, c1, -, -, -⟩ := h.cell hi
  have c2 : (w.alloc (.cells #[l] K.e)).cell? ⟨β, i, none⟩ = some v := by simp [World.cell?, g1, g4]
  have hv0 : v0 = v := by
    have := U_below hba β i v0 (by obtain ⟨_, cur', q, -⟩ := h; exact heap_lt q) (U_mk c1 (by obtain ⟨_, cur', q, -⟩ := h; simp [World.frozen?, q]))
    rw [U_cell this] at c2; cases c2; rfl
  subst hv0
  obtain ⟨ht, ti, z, hti, hz, hs, hzs, hby⟩ := hS
  rw [hsz] at hs hzs
  obtain ⟨v', w2, hr, ho, hf⟩ := append_law (P := P) (w.alloc (.cells #[l] K.e)) B0 t ty K.e ti z 1 ht hti hz hs hzs (by decide) v0 (f i).length (f i) (by rw [← he] at g6; exact g6) (.slice (some ⟨w.heap.size, 0, none⟩) 1 1) 1 [l]
    (.inr ⟨_, _, rfl, new_cells w [l] K.e⟩) rfl (by simpa using h1) hn hby (Nat.le_trans hB hba.size)
  obtain ⟨W, hW⟩ : ∃ W, w.alloc (.cells #[l] K.e) = W := ⟨_, rfl⟩
  rw [hW] at hba g1 g6 hf g3 c2
  have hown : ∀ b, v0.ownBlock = some b → ∃ cur, W.heap[b]? = some (Obj.cells cur (tyB i) (0, 0)) ∧ B0 ≤ b := by
    intro b hb
    rcases g6.2 with ⟨rfl, -⟩ | ⟨g, cap, cur', rfl, q1, q2, -⟩
    · cases hb
    · cases hb; exact ⟨cur', q2, q1⟩
  -- blocks of other types stay
  have hkeep : ∀ (b : Nat) (cur : Array Value) (e : Nat), e ≠ tyB i → W.heap[b]? = some (Obj.cells cur e (0, 0)) → w2.heap[b]? = W.heap[b]? := by
    intro b cur' e hne hb
    rcases hf with ⟨-, hg⟩ | ⟨-, hg⟩
    · refine hg.block b (heap_lt hb) (fun e2 => ?_)
      obtain ⟨cur2, q, -⟩ := hown b e2.symm
      rw [hb] at q; cases q; exact hne rfl
    · exact hg.block b (heap_lt hb)
  have hB2 : Below B0 W w2 := by
    rcases hf with ⟨-, hg⟩ | ⟨-, hg⟩
    · exact ⟨hg.os, hg.tape, hg.output, hg.size, fun b hb => hg.block b (Nat.lt_of_lt_of_le hb (Nat.le_trans hB hba.size)) (fun e => by
        obtain ⟨-, -, q⟩ := hown b e.symm
        omega)⟩
    · exact hg.mono (Nat.le_trans hB hba.size)
  have g1' := hkeep β cur 114 (fun e => tyB_ne i hi e.symm) g1
  rw [g1] at g1'
  have hset : (w2.setCell ⟨β, i, none⟩ v').heap[β]? = some (Obj.cells (cur.setIfInBounds i v') 114 (0, 0)) := by
    rw [setCell_eq_setRow w2 β i cur 114 (0, 0) v' g1']; exact setRow_heap w2 β cur _ 114 _ g1'
  have hoth : ∀ b, b ≠ β → (w2.setCell ⟨β, i, none⟩ v').heap[b]? = w2.heap[b]? := fun b hb => Below.heap_setCell _ _ _ _ (by simpa using hb)
  have hsl : ∃ a n c, v' = .slice a n c := by
    rcases ho.2 with ⟨rfl, -⟩ | ⟨g, cap, cur', rfl, -⟩
    · exact ⟨_, _, _, rfl⟩
    · exact ⟨_, _, _, rfl⟩
  refine ⟨v0, v', w2, c1, by rw [hW]; exact c2, hr, hsl, ⟨v0, by simp [World.cell?, g1', g4]⟩, by simp [World.frozen?, g1'], ⟨h0, _, hset, by rw [Array.size_setIfInBounds, g2], fun j hj => ?_⟩, ?_⟩
  · by_cases e : j = i
    · subst e
      refine ⟨v', by rw [Array.getElem?_setIfInBounds, if_pos rfl, if_pos (by omega)], by simp, ?_⟩
      simp only [if_true, List.length_append, List.length_singleton]
      rw [← he]
      refine ownsRow_other ho fun b cur' hb => hoth b (fun e2 => ?_)
      subst e2
      rw [g1'] at hb; injection hb with hb; injection hb with _ hb
      exact tyB_ne j hi (he ▸ hb.symm)
    · obtain ⟨u, q1, q2, q3⟩ := g3 j hj
      refine ⟨u, by rw [Array.getElem?_setIfInBounds, if_neg (Ne.symm e)]; exact q1, by simpa [e] using q2, ?_⟩
      simp only [if_neg e]
      refine ownsRow_other (ownsRow_other q3 fun b cur' hb => hkeep b cur' (tyB j) (fun e2 => e (tyB_inj j i hj hi e2)) hb) fun b cur' hb => hoth b (fun e2 => ?_)
      subst e2
      rw [g1'] at hb; injection hb with hb; injection hb with _ hb
      exact tyB_ne j hj hb.symm
  · have h3 : Below B0 w w2 := (hba.mono hB).trans hB2
    refine ⟨⟨h3.os, h3.tape, h3.output, by simpa [World.setCell] using h3.size, fun b hb => by rw [hoth b (by omega)]; exact h3.block b hb⟩, fun b cur' e he1 he2 hb => ?_⟩
    have q1 : W.heap[b]? = some (Obj.cells cur' e (0, 0)) := by rw [hba.block b (heap_lt hb)]; exact hb
    have q2 := hkeep b cur' e (he2 i hi) q1
    rw [hoth b (fun e2 => by subst e2; rw [g1] at q1; injection q1 with q1; injection q1 with _ q1; exact he1 q1.symm), q2]
    exact q1
/-- A row whose elements are known values. -/
def RowV (hi : Nat) (v : Value) (n : Nat) (C : Nat → Nat → Prop) : Prop :=
  ∃ (p : Option Addr) (c : Nat), v = .slice p n c ∧ n ≤ c ∧ c ≤ maxLen ∧ (0 < n → ∃ b o, p = some ⟨b, o, none⟩ ∧ b < hi ∧ C b o)
/-- Lists of parts within levels: the levels' row, those of their parts. -/
def GL (F : Mem) (hi : Nat) (v : Value) (us : List Value) : Prop := RowV hi v us.length fun b o => ∀ i u, us[i]? = some u → F b (o + i) = some u ∧ ∃ p n c, u = .slice p n c
/-- Terms' lists: of each its levels' parts, its levels, its kids, what lies within these. -/
inductive VT where
  | nil
  | cons (us : List Value) (vl vk : Value) (x r : VT)
namespace VT
def len : VT → Nat
  | nil => 0
  | cons _ _ _ _ r => r.len + 1
def app : VT → VT → VT
  | nil, y => y
  | cons us vl vk x r, y => cons us vl vk x (r.app y)
def size : VT → Nat
  | nil => 0
  | cons us _ _ x r => us.length + x.size + r.size + 2
def P : VT → List Value
  | nil => []
  | cons us _ _ x r => us ++ (x.P ++ r.P)
def L : VT → List Value
  | nil => []
  | cons _ vl _ x r => vl :: (x.L ++ r.L)
def T : VT → List Value
  | nil => []
  | cons _ _ vk x r => vk :: (x.T ++ r.T)
theorem app_nil (x : VT) : x.app nil = x := by induction x with
  | nil => rfl
  | cons us vl vk x r _ ih => simp [app, ih]
theorem app_assoc (x y z : VT) : (x.app y).app z = x.app (y.app z) := by induction x with
  | nil => rfl
  | cons us vl vk x r _ ih => simp [app, ih]
theorem app_len (x y : VT) : (x.app y).len = x.len + y.len := by induction x with
  | nil => simp [app, len]
  | cons us vl vk x r _ ih => simp [app, len, ih]; omega
theorem app_size (x y : VT) : (x.app y).size = x.size + y.size := by induction x with
  | nil => simp [app, size]
  | cons us vl vk x r _ ih => simp [app, size, ih]; omega
theorem app_P (x y : VT) : (x.app y).P = x.P ++ y.P := by induction x with
  | nil => rfl
  | cons us vl vk x r _ ih => simp [app, P, ih]
theorem app_L (x y : VT) : (x.app y).L = x.L ++ y.L := by induction x with
  | nil => rfl
  | cons us vl vk x r _ ih => simp [app, L, ih]
theorem app_T (x y : VT) : (x.app y).T = x.T ++ y.T := by induction x with
  | nil => rfl
  | cons us vl vk x r _ ih => simp [app, T, ih]
theorem len_le (x : VT) : x.len ≤ x.size := by induction x with
  | nil => exact Nat.le_refl _
  | cons us vl vk x r _ ih => simp only [len, size]; omega
theorem lens (x : VT) : x.P.length ≤ x.size ∧ x.L.length ≤ x.size ∧ x.T.length ≤ x.size := by induction x with
  | nil => exact ⟨Nat.le_refl _, Nat.le_refl _, Nat.le_refl _⟩
  | cons us vl vk x r ihx ih => simp only [P, L, T, size, List.length_append, List.length_cons]; omega
end VT
/-- They lie so. -/
def GTs (F : Mem) (hi : Nat) : VT → Nat → Nat → Prop
  | .nil, _, _ => True
  | .cons us vl vk x r, b, o => (∃ n0 n1 n2, F b o = some (.int .i64 n0) ∧ F b (o + 1) = some (.int .i64 n1) ∧ F b (o + 2) = some (.int .i64 n2)) ∧ F b (o + 3) = some vl ∧ F b (o + 4) = some vk ∧ GL F hi vl us ∧
      RowV hi vk x.len (fun b' o' => GTs F hi x b' o') ∧ GTs F hi r b (o + 5)
def GK (F : Mem) (hi : Nat) (v : Value) (x : VT) : Prop := RowV hi v x.len fun b o => GTs F hi x b o
theorem GTs.app {F : Mem} {hi : Nat} {x y : VT} : ∀ {b o : Nat}, GTs F hi (x.app y) b o ↔ GTs F hi x b o ∧ GTs F hi y b (o + x.len * 5) := by
  induction x with
  | nil => intro b o; simp [VT.app, GTs, VT.len]
  | cons us vl vk x r _ ih =>
    intro b o
    simp only [VT.app, GTs, ih, VT.len, and_assoc]
    rw [show o + 5 + r.len * 5 = o + (r.len + 1) * 5 by omega]
/-- The bag with more. -/
def fadd (f : Nat → List Value) (p l t : List Value) : Nat → List Value := fun j => if j = 7 then f 7 ++ p else if j = 8 then f 8 ++ l else if j = 9 then f 9 ++ t else f j
theorem fadd_nil (f : Nat → List Value) : fadd f [] [] [] = f := by
  funext j; unfold fadd
  split
  · subst_vars; simp
  · split
    · subst_vars; simp
    · split
      · subst_vars; simp
      · rfl
theorem fadd7 (f : Nat → List Value) (v : Value) : (fun j => if j = 7 then f 7 ++ [v] else f j) = fadd f [v] [] [] := by
  funext j; unfold fadd
  by_cases h7 : j = 7
  · simp [h7]
  · by_cases h8 : j = 8
    · simp [h8]
    · by_cases h9 : j = 9
      · simp [h9]
      · simp [h7, h8, h9]
theorem fadd8 (f : Nat → List Value) (v : Value) : (fun j => if j = 8 then f 8 ++ [v] else f j) = fadd f [] [v] [] := by
  funext j; unfold fadd
  by_cases h7 : j = 7
  · simp [h7]
  · by_cases h8 : j = 8
    · simp [h8]
    · by_cases h9 : j = 9
      · simp [h9]
      · simp [h7, h8, h9]
theorem fadd9 (f : Nat → List Value) (v : Value) : (fun j => if j = 9 then f 9 ++ [v] else f j) = fadd f [] [] [v] := by
  funext j; unfold fadd
  by_cases h7 : j = 7
  · simp [h7]
  · by_cases h8 : j = 8
    · simp [h8]
    · by_cases h9 : j = 9
      · simp [h9]
      · simp [h7, h8, h9]
theorem fadd_fadd (f : Nat → List Value) (p l t p' l' t' : List Value) : fadd (fadd f p l t) p' l' t' = fadd f (p ++ p') (l ++ l') (t ++ t') := by
  funext j; unfold fadd
  simp only [if_true, List.append_assoc]
  split
  · rfl
  · split
    · simp
    · split
      · simp
      · rfl
end Go.Proofs.YtkcmapimcgppmaaGreatDoor
end
