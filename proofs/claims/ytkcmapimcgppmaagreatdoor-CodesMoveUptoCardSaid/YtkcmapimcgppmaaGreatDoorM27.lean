/-
  What is owned can be put into the bag, and written over. Conditions: no more than 5000000 nodes, levels, parts. No lists lie apart. Conditions: as each lemma states them.
-/
import Derived.Test.YtkcmapimcgppmaaGreatDoorM26
import Derived.Test.YtkcmapimcgppmaaGreatDoorM02
import Derived.Test.YtkcmapimcgppmaaGreatDoorProg
import Derived.WalkKit
set_option linter.all false
set_option linter.unusedVariables false
set_option linter.unusedSimpArgs false
set_option linter.unnecessarySimpa false
section
namespace Go.Proofs.YtkcmapimcgppmaaGreatDoor
open Go.RowKit

/-- A row in blocks of its own, of no more than N elements; such rows. -/
def RowX (w : World) (base sz e N : Nat) (v : Value) (B : List Nat) : Prop := ∃ m xs, RowO w base sz e v m xs B ∧ m ≤ N * sz
def Ows (w : World) (base sz e N : Nat) : List Value → List Nat → Prop
  | [], Bs => Bs = []
  | v :: vs, Bs => ∃ B Bs', RowX w base sz e N v B ∧ Ows w base sz e N vs Bs' ∧ Bs = B ++ Bs'
theorem Ows.app {w : World} {base sz e N : Nat} {us : List Value} {Bs' : List Nat} (h2 : Ows w base sz e N us Bs') : ∀ {vs : List Value} {Bs : List Nat}, Ows w base sz e N vs Bs → Ows w base sz e N (vs ++ us) (Bs ++ Bs')
  | [], _, h => by cases h; exact h2
  | v :: vs, _, ⟨B, Bs1, h3, h4, e⟩ => ⟨B, Bs1 ++ Bs', h3, h2.app h4, by rw [e, List.append_assoc]⟩
theorem Ows.mono {w : World} {base sz e N N' : Nat} (hN : N ≤ N') : ∀ {vs : List Value} {Bs : List Nat}, Ows w base sz e N vs Bs → Ows w base sz e N' vs Bs
  | [], _, h => h
  | v :: vs, _, ⟨B, Bs1, ⟨m, xs, h3, h4⟩, h5, e⟩ => ⟨B, Bs1, ⟨m, xs, h3, Nat.le_trans h4 (Nat.mul_le_mul_right _ hN)⟩, h5.mono hN, e⟩
theorem RowX.typed {w : World} {base sz e N : Nat} {v : Value} {B : List Nat} (h : RowX w base sz e N v B) : ∀ b ∈ B, base ≤ b ∧ ∃ cur, w.heap[b]? = some (Obj.cells cur e (0, 0)) := by
  obtain ⟨m, xs, h, -⟩ := h
  rcases h with ⟨p, -, -, -, rfl⟩ | ⟨g, n, cap, cur, rfl, -, hb, hg, -⟩
  · intro b hb; cases hb
  · intro b hm
    obtain rfl : b = g := by simpa using hm
    exact ⟨hb, cur, hg⟩
theorem Ows.typed {w : World} {base sz e N : Nat} : ∀ {vs : List Value} {Bs : List Nat}, Ows w base sz e N vs Bs → ∀ b ∈ Bs, base ≤ b ∧ ∃ cur, w.heap[b]? = some (Obj.cells cur e (0, 0))
  | [], _, h, b, hb => by cases h; cases hb
  | v :: vs, _, ⟨B, Bs1, h3, h4, e⟩, b, hb => by
    subst e
    rcases List.mem_append.1 hb with hb | hb
    · exact h3.typed b hb
    · exact h4.typed b hb
theorem RowX.kept {w w' : World} {base sz e N : Nat} {v : Value} {B : List Nat} (h : RowX w base sz e N v B) (hk : ∀ b ∈ B, w'.heap[b]? = w.heap[b]?) : RowX w' base sz e N v B := by
  obtain ⟨m, xs, h, hm⟩ := h
  exact ⟨m, xs, h.kept hk, hm⟩
theorem Ows.kept {w w' : World} {base sz e N : Nat} : ∀ {vs : List Value} {Bs : List Nat}, Ows w base sz e N vs Bs → (∀ b ∈ Bs, w'.heap[b]? = w.heap[b]?) → Ows w' base sz e N vs Bs
  | [], _, h, _ => h
  | v :: vs, _, ⟨B, Bs1, h3, h4, e⟩, hk => by
    subst e
    exact ⟨B, Bs1, h3.kept fun b hb => hk b (List.mem_append_left _ hb), h4.kept fun b hb => hk b (List.mem_append_right _ hb), rfl⟩
theorem RowX.lower {w : World} {base base' sz e N : Nat} {v : Value} {B : List Nat} (h : RowX w base sz e N v B) (hl : base' ≤ base) : RowX w base' sz e N v B := by
  obtain ⟨m, xs, h, hm⟩ := h
  exact ⟨m, xs, h.lower hl, hm⟩
theorem RowX.vb {w : World} {base sz e N : Nat} {v : Value} {B : List Nat} (h : RowX w base sz e N v B) {b : Nat} (hb : vb v = some b) : b ∈ B := by
  obtain ⟨m, xs, h, -⟩ := h
  rcases h with ⟨p, rfl, -, -, rfl⟩ | ⟨g, n, cap, cur, rfl, rfl, -, hg, -⟩
  · cases p <;> cases hb
  · cases cap with
    | zero => cases hb
    | succ c => cases hb; exact List.mem_singleton.2 rfl
theorem RowX.rowI {K : Kd} (hp : 0 < K.sz) {w : World} {base N : Nat} {v : Value} {B : List Nat} (h : RowX w base K.sz K.e N v B) (k : Nat) : RowI K 0 w v 0 k ∧ vn v ≤ N := by
  obtain ⟨m, xs, h, hm⟩ := h
  rcases h with ⟨p, rfl, -, -, rfl⟩ | ⟨g, n, cap, cur, rfl, rfl, -, hg, h3, h4, h5, h6, -⟩
  · exact ⟨.inl ⟨p, rfl, rfl⟩, Nat.zero_le _⟩
  · have hn : n ≤ N := by rw [h6] at hm; exact Nat.le_of_mul_le_mul_right hm hp
    refine ⟨?_, hn⟩
    by_cases h0 : cap = 0
    · subst h0
      obtain rfl : n = 0 := by omega
      exact .inl ⟨_, rfl, rfl⟩
    · exact .inr ⟨g, n, cap, cur, rfl, Nat.zero_le _, hg, h3, by omega, h4, h5, Nat.zero_le _, fun i hi => by omega⟩
theorem Ows.at_ {w : World} {base sz e N : Nat} : ∀ {vs : List Value} {Bs : List Nat}, Ows w base sz e N vs Bs → ∀ (k : Nat) (v : Value), vs[k]? = some v → ∃ B, RowX w base sz e N v B ∧ ∀ b ∈ B, b ∈ Bs
  | [], _, _, k, v, hv => by simp at hv
  | u :: vs, _, ⟨B, Bs1, h3, h4, e⟩, k, v, hv => by
    subst e
    cases k with
    | zero => simp at hv; subst hv; exact ⟨B, h3, fun b hb => List.mem_append_left _ hb⟩
    | succ k =>
      obtain ⟨B', h5, h6⟩ := h4.at_ k v (by simpa using hv)
      exact ⟨B', h5, fun b hb => List.mem_append_right _ (h6 b hb)⟩
theorem Ows.rows {K : Kd} (hp : 0 < K.sz) {w : World} {base N : Nat} {vs : List Value} {Bs : List Nat} (h : Ows w base K.sz K.e N vs Bs) : RowsG K 0 w vs (fun _ => 0) := fun k v hv => by
  obtain ⟨B, h1, -⟩ := h.at_ k v hv
  exact (h1.rowI hp k).1
theorem Ows.inV {w : World} {base sz e N : Nat} {vs : List Value} {Bs : List Nat} (h : Ows w base sz e N vs Bs) {b : Nat} (hb : InV vs b) : b ∈ Bs := by
  obtain ⟨v, hv, e1⟩ := hb
  obtain ⟨k, hk⟩ := List.getElem?_of_mem hv
  obtain ⟨B, h1, h2⟩ := h.at_ k v hk
  exact h2 b (h1.vb e1)
theorem Ows.dist {w : World} {base sz e N : Nat} : ∀ {vs : List Value} {Bs : List Nat}, Ows w base sz e N vs Bs → Bs.Nodup → Dist vs
  | [], _, _, _ => fun k k' v v' b hv => by simp at hv
  | u :: vs, _, ⟨B, Bs1, h3, h4, e⟩, hn => by
    subst e
    obtain ⟨-, n2, n3⟩ := List.nodup_append.1 hn
    have ih := h4.dist n2
    intro k k' v v' b hv hv' hb hb'
    cases k with
    | zero =>
      cases k' with
      | zero => rfl
      | succ k' =>
        simp at hv hv'
        subst hv
        obtain ⟨B', h5, h6⟩ := h4.at_ k' v' hv'
        exact absurd rfl (n3 b (h3.vb hb) b (h6 b (h5.vb hb')))
    | succ k =>
      cases k' with
      | zero =>
        simp at hv hv'
        subst hv'
        obtain ⟨B', h5, h6⟩ := h4.at_ k v hv
        exact absurd rfl (n3 b (h3.vb hb') b (h6 b (h5.vb hb)))
      | succ k' => rw [ih k k' v v' b (by simpa using hv) (by simpa using hv') hb hb']

/-- What is owned: levels. -/
theorem own_levels {w : World} {base : Nat} {l : List Lv} : ∀ {xs : List Value} {S : List Nat}, Own w base (lvDs ty l) xs S → Ows w base 2 77 (lvSize l) xs S ∧ ∀ u ∈ xs, ∃ p n c, u = Value.slice p n c := by
  induction l with
  | nil => rintro xs S ⟨rfl, rfl⟩; exact ⟨rfl, fun u hu => by cases hu⟩
  | cons p r ih =>
    rintro xs S ⟨v, ys, zs, us, B, S1, S2, S3, rfl, h1, h2, h3, h4, rfl⟩
    obtain ⟨rfl, rfl⟩ := h3
    have hS1 : S1 = [] := by
      have : ∀ (p : Lv) (xs : List Value) (S : List Nat), Own w base (ptDs p) xs S → S = [] := by
        intro p
        induction p with
        | nil => rintro xs S ⟨-, rfl⟩; rfl
        | cons a r ih => rintro xs S ⟨_, -, _, -, h⟩; exact ih _ _ h
      exact this p zs S1 h2
    subst hS1
    obtain ⟨h5, h6⟩ := ih h4
    refine ⟨⟨B, S3, ⟨_, _, h1, ?_⟩, h5.mono ?_, rfl⟩, fun u hu => ?_⟩
    · rw [ptDs_len]; exact Nat.mul_le_mul_right _ (by simp only [lvSize]; omega)
    · simp only [lvSize]; omega
    · rcases List.mem_cons.1 hu with rfl | hu
      · rcases h1 with ⟨p, rfl, -⟩ | ⟨g, n, cap, cur, -, rfl, -⟩
        · exact ⟨_, _, _, rfl⟩
        · exact ⟨_, _, _, rfl⟩
      · exact h6 u hu
theorem RowO.rowV {w : World} {base sz e : Nat} {v : Value} {xs : List Value} {B : List Nat} {n : Nat} (hs : 0 < sz) (h : RowO w base sz e v (n * sz) xs B) : ∃ (p : Option Addr) (c : Nat), v = .slice p n c ∧ n ≤ c ∧ c ≤ maxLen ∧ (0 < n → ∃ b, p = some ⟨b, 0, none⟩ ∧ b < w.heap.size ∧ ∀ j u, xs[j]? = some u → U w b (0 + j) = some u) := by
  rcases h with ⟨p, rfl, h0, -⟩ | ⟨g, n', cap, cur, rfl, rfl, -, hg, h3, h4, h5, h6, h7, h8, h9⟩
  · have hn : n = 0 := by
      rcases Nat.mul_eq_zero.1 h0 with h | h
      · exact h
      · omega
    subst hn
    exact ⟨p, 0, rfl, Nat.le_refl _, Nat.zero_le _, fun h => by omega⟩
  · have hn : n = n' := Nat.eq_of_mul_eq_mul_right hs h6
    subst hn
    exact ⟨_, cap, rfl, h3, h4, fun _ => ⟨g, rfl, heap_lt hg, row_cell hg h9⟩⟩
/-- Terms. -/
theorem own_terms {w : World} {base : Nat} {t : Ts} : ∀ {xs : List Value} {S : List Nat}, Own w base (tDs ty t) xs S → ∃ V : VT, V.len = t.len ∧ V.size ≤ 2 * t.size ∧
    (∀ b o, (∀ j u, xs[j]? = some u → U w b (o + j) = some u) → GTs (U w) w.heap.size V b o) ∧
    ∃ BP BL BT, Ows w base 2 77 t.size V.P BP ∧ Ows w base 1 43 t.size V.L BL ∧ Ows w base 5 26 t.size V.T BT ∧ (BP ++ (BL ++ BT)).Perm S := by
  induction t with
  | nil => rintro xs S ⟨rfl, rfl⟩; exact ⟨.nil, rfl, Nat.zero_le _, fun _ _ _ => trivial, [], [], [], rfl, rfl, rfl, List.Perm.refl _⟩
  | cons h x r ihx ihr =>
    rintro xs S ⟨_, rfl, _, rfl, _, rfl, vl, _, ls, sp, Bl, S1, S2, S3, rfl, h1, h2, h3, ⟨vk, ys, ks, sp2, Bk, T1, T2, T3, rfl, k1, k2, k3, k4, rfl⟩, rfl⟩
    obtain ⟨rfl, rfl⟩ := h3
    obtain ⟨rfl, rfl⟩ := k3
    obtain ⟨hl1, hl2⟩ := own_levels h2
    obtain ⟨X, hx1, hx2, hx3, XP, XL, XT, hx4, hx5, hx6, hx7⟩ := ihx k2
    obtain ⟨R, hr1, hr2, hr3, RP', RL', RT', hr4, hr5, hr6, hr7⟩ := ihr k4
    have hls : ls.length = h.l.length := by have := h2.len; rw [lvDs_len] at this; exact this
    have hll : h.l.length ≤ lvSize h.l := by
      have : ∀ l : List Lv, l.length ≤ lvSize l := by
        intro l
        induction l with
        | nil => simp
        | cons a r ih => simp only [List.length_cons, lvSize]; omega
      exact this _
    have hs1 : x.len ≤ x.size := by
      have : ∀ t : Ts, t.len ≤ t.size := by
        intro t
        induction t with
        | nil => exact Nat.le_refl _
        | cons h x r _ ih => simp only [Ts.len, Ts.size]; omega
      exact this x
    rw [List.append_nil] at h1 k1
    have h1' : RowO w base 1 43 vl (ls.length * 1) ls Bl := by
      rw [lvDs_len, ← hls] at h1
      rw [Nat.mul_one]; exact h1
    have k1' : RowO w base 5 26 vk (X.len * 5) ks Bk := by
      rw [tDs_len, ← hx1] at k1; exact k1
    refine ⟨.cons ls vl vk X R, by simp [VT.len, Ts.len, hr1], ?_, fun b o hc => ?_, S1 ++ (XP ++ RP'), Bl ++ (XL ++ RL'), Bk ++ (XT ++ RT'), ?_, ?_, ?_, ?_⟩
    · simp only [VT.size, Ts.size]; omega
    · refine ⟨⟨h.k, h.n, h.a, by simpa using hc 0 _ rfl, hc 1 _ rfl, hc 2 _ rfl⟩, hc 3 _ rfl, hc 4 _ rfl, ?_, ?_, hr3 b (o + 5) fun j u hu => ?_⟩
      · obtain ⟨p, c, rfl, q1, q2, q3⟩ := h1'.rowV (by decide)
        refine ⟨p, c, rfl, q1, q2, fun h0 => ?_⟩
        obtain ⟨b', rfl, q4, q5⟩ := q3 h0
        exact ⟨b', 0, rfl, q4, fun i u hu => ⟨q5 i u hu, hl2 u (List.mem_of_getElem? hu)⟩⟩
      · obtain ⟨p, c, rfl, q1, q2, q3⟩ := k1'.rowV (by decide)
        refine ⟨p, c, rfl, q1, q2, fun h0 => ?_⟩
        obtain ⟨b', rfl, q4, q5⟩ := q3 h0
        exact ⟨b', 0, rfl, q4, hx3 b' 0 q5⟩
      · have := hc (j + 5) u (by simpa using hu)
        rw [show o + 5 + j = o + (j + 5) by omega]; exact this
    · exact ((hr4.mono (by simp only [Ts.size]; omega)).app (hx4.mono (by simp only [Ts.size]; omega))).app (hl1.mono (by simp only [Ts.size]; omega))
    · refine ⟨Bl, XL ++ RL', ⟨_, _, h1', by rw [hls]; exact Nat.mul_le_mul_right _ (by simp only [Ts.size]; omega)⟩, (hr5.mono (by simp only [Ts.size]; omega)).app (hx5.mono (by simp only [Ts.size]; omega)), rfl⟩
    · refine ⟨Bk, XT ++ RT', ⟨_, _, k1', by rw [hx1]; exact Nat.mul_le_mul_right _ (by simp only [Ts.size]; omega)⟩, (hr6.mono (by simp only [Ts.size]; omega)).app (hx6.mono (by simp only [Ts.size]; omega)), rfl⟩
    · refine List.perm_iff_count.2 fun a => ?_
      have e1 := List.perm_iff_count.1 hx7 a
      have e2 := List.perm_iff_count.1 hr7 a
      simp only [List.count_append, List.count_nil] at e1 e2 ⊢
      omega
end Go.Proofs.YtkcmapimcgppmaaGreatDoor
end
section
namespace Go.Proofs.YtkcmapimcgppmaaGreatDoor
open Go.RowKit

set_option maxRecDepth 100000 in
set_option maxHeartbeats 4000000 in
theorem flat131_none (w : World) : Calls Tryz.prog 131 #[.slice none 0 0] w fun e w' => e = .returned (.bool true) ∧ Below w.heap.size w w' := by
  have r1 : decide ((0 : Int) < 0) = false := rfl
  obtain ⟨w1, hmk, -, hb1⟩ := RowG.make (t := 98) (e := 228) (sz := 1) (P := Tryz.prog) (ElT.mk' (z := .slice none 0 0) (size := 1) (bytes := 24) Tryz.underlying98 (by kernel_rfl) rfl (by decide) (by decide)) w w.heap.size 0 .i64 .i64 (by decide) (Nat.le_refl _)
  have hmk' : (Instr.makeSlice 98 (.int .i64 0) (.int .i64 0)).run Tryz.prog w = .ok (.slice (some ⟨w.heap.size, 0, none⟩) 0 0) w1 := hmk
  have HB := Lib.hid hb1
  clear hmk hb1
  go_enter Tryz.func131, Tryz.ntmps131
  go_wp2_with fail
  go_loopw [3] (fun i wr => i = .int .i64 0 ∧ wr = w) (fun _ _ => 0)
  case atStart => exact ⟨rfl, rfl⟩
  case round =>
  obtain ⟨rfl, hwr⟩ := hrel
  have hwr' := hwr.symm
  clear hwr
  subst hwr'
  go_wp2_with fail
  clear hmk'
  go_loopw [6] (fun i wr => i = .int .i64 0 ∧ wr = w1) (fun _ _ => 0)
  case atStart => exact ⟨rfl, rfl⟩
  case round =>
  obtain ⟨rfl, hwr⟩ := hrel
  have hwr' := hwr.symm
  clear hwr
  subst hwr'
  go_wp2_with fail
  go_loopw [9] (fun i wr => i = .int .i64 0 ∧ wr = w1) (fun _ _ => 0)
  case atStart => exact ⟨rfl, rfl⟩
  case round =>
  obtain ⟨rfl, hwr⟩ := hrel
  have hwr' := hwr.symm
  clear hwr
  subst hwr'
  go_wp2_with fail
  go_loopw [11] (fun i wr => i = .int .i64 0 ∧ wr = w1) (fun _ _ => 0)
  case atStart => exact ⟨rfl, rfl⟩
  case round =>
  obtain ⟨rfl, hwr⟩ := hrel
  have hwr' := hwr.symm
  clear hwr
  subst hwr'
  go_wp2_with fail
  go_loopw [14] (fun i wr => i = .int .i64 0 ∧ wr = w1) (fun _ _ => 0)
  case atStart => exact ⟨rfl, rfl⟩
  case round =>
  obtain ⟨rfl, hwr⟩ := hrel
  have hwr' := hwr.symm
  clear hwr
  subst hwr'
  go_wp2_with fail
  go_ret
  exact ⟨rfl, HB.out⟩
set_option maxRecDepth 100000 in
set_option maxHeartbeats 4000000 in
theorem flat132_none (w : World) : Calls Tryz.prog 132 #[.slice none 0 0] w fun e w' => e = .returned (.bool true) ∧ Below w.heap.size w w' := by
  have r1 : decide ((0 : Int) < 0) = false := rfl
  obtain ⟨w1, hmk, -, hb1⟩ := RowG.make (t := 99) (e := 230) (sz := 1) (P := Tryz.prog) (ElT.mk' (z := .slice none 0 0) (size := 1) (bytes := 24) Tryz.underlying99 (by kernel_rfl) rfl (by decide) (by decide)) w w.heap.size 0 .i64 .i64 (by decide) (Nat.le_refl _)
  have hmk' : (Instr.makeSlice 99 (.int .i64 0) (.int .i64 0)).run Tryz.prog w = .ok (.slice (some ⟨w.heap.size, 0, none⟩) 0 0) w1 := hmk
  have HB := Lib.hid hb1
  clear hmk hb1
  go_enter Tryz.func132, Tryz.ntmps132
  go_wp2_with fail
  go_loopw [3] (fun i wr => i = .int .i64 0 ∧ wr = w) (fun _ _ => 0)
  case atStart => exact ⟨rfl, rfl⟩
  case round =>
  obtain ⟨rfl, hwr⟩ := hrel
  have hwr' := hwr.symm
  clear hwr
  subst hwr'
  go_wp2_with fail
  clear hmk'
  go_loopw [6] (fun i wr => i = .int .i64 0 ∧ wr = w1) (fun _ _ => 0)
  case atStart => exact ⟨rfl, rfl⟩
  case round =>
  obtain ⟨rfl, hwr⟩ := hrel
  have hwr' := hwr.symm
  clear hwr
  subst hwr'
  go_wp2_with fail
  go_loopw [9] (fun i wr => i = .int .i64 0 ∧ wr = w1) (fun _ _ => 0)
  case atStart => exact ⟨rfl, rfl⟩
  case round =>
  obtain ⟨rfl, hwr⟩ := hrel
  have hwr' := hwr.symm
  clear hwr
  subst hwr'
  go_wp2_with fail
  go_loopw [11] (fun i wr => i = .int .i64 0 ∧ wr = w1) (fun _ _ => 0)
  case atStart => exact ⟨rfl, rfl⟩
  case round =>
  obtain ⟨rfl, hwr⟩ := hrel
  have hwr' := hwr.symm
  clear hwr
  subst hwr'
  go_wp2_with fail
  go_loopw [14] (fun i wr => i = .int .i64 0 ∧ wr = w1) (fun _ _ => 0)
  case atStart => exact ⟨rfl, rfl⟩
  case round =>
  obtain ⟨rfl, hwr⟩ := hrel
  have hwr' := hwr.symm
  clear hwr
  subst hwr'
  go_wp2_with fail
  go_ret
  exact ⟨rfl, HB.out⟩
set_option maxRecDepth 100000 in
set_option maxHeartbeats 4000000 in
theorem flat133_none (w : World) : Calls Tryz.prog 133 #[.slice none 0 0] w fun e w' => e = .returned (.bool true) ∧ Below w.heap.size w w' := by
  have r1 : decide ((0 : Int) < 0) = false := rfl
  obtain ⟨w1, hmk, -, hb1⟩ := RowG.make (t := 100) (e := 72) (sz := 1) (P := Tryz.prog) (ElT.mk' (z := .slice none 0 0) (size := 1) (bytes := 24) Tryz.underlying100 (by kernel_rfl) rfl (by decide) (by decide)) w w.heap.size 0 .i64 .i64 (by decide) (Nat.le_refl _)
  have hmk' : (Instr.makeSlice 100 (.int .i64 0) (.int .i64 0)).run Tryz.prog w = .ok (.slice (some ⟨w.heap.size, 0, none⟩) 0 0) w1 := hmk
  have HB := Lib.hid hb1
  clear hmk hb1
  go_enter Tryz.func133, Tryz.ntmps133
  go_wp2_with fail
  go_loopw [3] (fun i wr => i = .int .i64 0 ∧ wr = w) (fun _ _ => 0)
  case atStart => exact ⟨rfl, rfl⟩
  case round =>
  obtain ⟨rfl, hwr⟩ := hrel
  have hwr' := hwr.symm
  clear hwr
  subst hwr'
  go_wp2_with fail
  clear hmk'
  go_loopw [6] (fun i wr => i = .int .i64 0 ∧ wr = w1) (fun _ _ => 0)
  case atStart => exact ⟨rfl, rfl⟩
  case round =>
  obtain ⟨rfl, hwr⟩ := hrel
  have hwr' := hwr.symm
  clear hwr
  subst hwr'
  go_wp2_with fail
  go_loopw [9] (fun i wr => i = .int .i64 0 ∧ wr = w1) (fun _ _ => 0)
  case atStart => exact ⟨rfl, rfl⟩
  case round =>
  obtain ⟨rfl, hwr⟩ := hrel
  have hwr' := hwr.symm
  clear hwr
  subst hwr'
  go_wp2_with fail
  go_loopw [11] (fun i wr => i = .int .i64 0 ∧ wr = w1) (fun _ _ => 0)
  case atStart => exact ⟨rfl, rfl⟩
  case round =>
  obtain ⟨rfl, hwr⟩ := hrel
  have hwr' := hwr.symm
  clear hwr
  subst hwr'
  go_wp2_with fail
  go_loopw [14] (fun i wr => i = .int .i64 0 ∧ wr = w1) (fun _ _ => 0)
  case atStart => exact ⟨rfl, rfl⟩
  case round =>
  obtain ⟨rfl, hwr⟩ := hrel
  have hwr' := hwr.symm
  clear hwr
  subst hwr'
  go_wp2_with fail
  go_ret
  exact ⟨rfl, HB.out⟩
set_option maxRecDepth 100000 in
set_option maxHeartbeats 4000000 in
theorem flat134_none (w : World) : Calls Tryz.prog 134 #[.slice none 0 0] w fun e w' => e = .returned (.bool true) ∧ Below w.heap.size w w' := by
  have r1 : decide ((0 : Int) < 0) = false := rfl
  obtain ⟨w1, hmk, -, hb1⟩ := RowG.make (t := 101) (e := 232) (sz := 1) (P := Tryz.prog) (ElT.mk' (z := .slice none 0 0) (size := 1) (bytes := 24) Tryz.underlying101 (by kernel_rfl) rfl (by decide) (by decide)) w w.heap.size 0 .i64 .i64 (by decide) (Nat.le_refl _)
  have hmk' : (Instr.makeSlice 101 (.int .i64 0) (.int .i64 0)).run Tryz.prog w = .ok (.slice (some ⟨w.heap.size, 0, none⟩) 0 0) w1 := hmk
  have HB := Lib.hid hb1
  clear hmk hb1
  go_enter Tryz.func134, Tryz.ntmps134
  go_wp2_with fail
  go_loopw [3] (fun i wr => i = .int .i64 0 ∧ wr = w) (fun _ _ => 0)
  case atStart => exact ⟨rfl, rfl⟩
  case round =>
  obtain ⟨rfl, hwr⟩ := hrel
  have hwr' := hwr.symm
  clear hwr
  subst hwr'
  go_wp2_with fail
  clear hmk'
  go_loopw [6] (fun i wr => i = .int .i64 0 ∧ wr = w1) (fun _ _ => 0)
  case atStart => exact ⟨rfl, rfl⟩
  case round =>
  obtain ⟨rfl, hwr⟩ := hrel
  have hwr' := hwr.symm
  clear hwr
  subst hwr'
  go_wp2_with fail
  go_loopw [9] (fun i wr => i = .int .i64 0 ∧ wr = w1) (fun _ _ => 0)
  case atStart => exact ⟨rfl, rfl⟩
  case round =>
  obtain ⟨rfl, hwr⟩ := hrel
  have hwr' := hwr.symm
  clear hwr
  subst hwr'
  go_wp2_with fail
  go_loopw [11] (fun i wr => i = .int .i64 0 ∧ wr = w1) (fun _ _ => 0)
  case atStart => exact ⟨rfl, rfl⟩
  case round =>
  obtain ⟨rfl, hwr⟩ := hrel
  have hwr' := hwr.symm
  clear hwr
  subst hwr'
  go_wp2_with fail
  go_loopw [14] (fun i wr => i = .int .i64 0 ∧ wr = w1) (fun _ _ => 0)
  case atStart => exact ⟨rfl, rfl⟩
  case round =>
  obtain ⟨rfl, hwr⟩ := hrel
  have hwr' := hwr.symm
  clear hwr
  subst hwr'
  go_wp2_with fail
  go_ret
  exact ⟨rfl, HB.out⟩
set_option maxRecDepth 100000 in
set_option maxHeartbeats 4000000 in
theorem flat135_none (w : World) : Calls Tryz.prog 135 #[.slice none 0 0] w fun e w' => e = .returned (.bool true) ∧ Below w.heap.size w w' := by
  have r1 : decide ((0 : Int) < 0) = false := rfl
  obtain ⟨w1, hmk, -, hb1⟩ := RowG.make (t := 102) (e := 233) (sz := 1) (P := Tryz.prog) (ElT.mk' (z := .slice none 0 0) (size := 1) (bytes := 24) Tryz.underlying102 (by kernel_rfl) rfl (by decide) (by decide)) w w.heap.size 0 .i64 .i64 (by decide) (Nat.le_refl _)
  have hmk' : (Instr.makeSlice 102 (.int .i64 0) (.int .i64 0)).run Tryz.prog w = .ok (.slice (some ⟨w.heap.size, 0, none⟩) 0 0) w1 := hmk
  have HB := Lib.hid hb1
  clear hmk hb1
  go_enter Tryz.func135, Tryz.ntmps135
  go_wp2_with fail
  go_loopw [3] (fun i wr => i = .int .i64 0 ∧ wr = w) (fun _ _ => 0)
  case atStart => exact ⟨rfl, rfl⟩
  case round =>
  obtain ⟨rfl, hwr⟩ := hrel
  have hwr' := hwr.symm
  clear hwr
  subst hwr'
  go_wp2_with fail
  clear hmk'
  go_loopw [6] (fun i wr => i = .int .i64 0 ∧ wr = w1) (fun _ _ => 0)
  case atStart => exact ⟨rfl, rfl⟩
  case round =>
  obtain ⟨rfl, hwr⟩ := hrel
  have hwr' := hwr.symm
  clear hwr
  subst hwr'
  go_wp2_with fail
  go_loopw [9] (fun i wr => i = .int .i64 0 ∧ wr = w1) (fun _ _ => 0)
  case atStart => exact ⟨rfl, rfl⟩
  case round =>
  obtain ⟨rfl, hwr⟩ := hrel
  have hwr' := hwr.symm
  clear hwr
  subst hwr'
  go_wp2_with fail
  go_loopw [11] (fun i wr => i = .int .i64 0 ∧ wr = w1) (fun _ _ => 0)
  case atStart => exact ⟨rfl, rfl⟩
  case round =>
  obtain ⟨rfl, hwr⟩ := hrel
  have hwr' := hwr.symm
  clear hwr
  subst hwr'
  go_wp2_with fail
  go_loopw [14] (fun i wr => i = .int .i64 0 ∧ wr = w1) (fun _ _ => 0)
  case atStart => exact ⟨rfl, rfl⟩
  case round =>
  obtain ⟨rfl, hwr⟩ := hrel
  have hwr' := hwr.symm
  clear hwr
  subst hwr'
  go_wp2_with fail
  go_ret
  exact ⟨rfl, HB.out⟩
set_option maxRecDepth 100000 in
set_option maxHeartbeats 4000000 in
theorem flat136_none (w : World) : Calls Tryz.prog 136 #[.slice none 0 0] w fun e w' => e = .returned (.bool true) ∧ Below w.heap.size w w' := by
  have r1 : decide ((0 : Int) < 0) = false := rfl
  obtain ⟨w1, hmk, -, hb1⟩ := RowG.make (t := 103) (e := 235) (sz := 1) (P := Tryz.prog) (ElT.mk' (z := .slice none 0 0) (size := 1) (bytes := 24) Tryz.underlying103 (by kernel_rfl) rfl (by decide) (by decide)) w w.heap.size 0 .i64 .i64 (by decide) (Nat.le_refl _)
  have hmk' : (Instr.makeSlice 103 (.int .i64 0) (.int .i64 0)).run Tryz.prog w = .ok (.slice (some ⟨w.heap.size, 0, none⟩) 0 0) w1 := hmk
  have HB := Lib.hid hb1
  clear hmk hb1
  go_enter Tryz.func136, Tryz.ntmps136
  go_wp2_with fail
  go_loopw [3] (fun i wr => i = .int .i64 0 ∧ wr = w) (fun _ _ => 0)
  case atStart => exact ⟨rfl, rfl⟩
  case round =>
  obtain ⟨rfl, hwr⟩ := hrel
  have hwr' := hwr.symm
  clear hwr
  subst hwr'
  go_wp2_with fail
  clear hmk'
  go_loopw [6] (fun i wr => i = .int .i64 0 ∧ wr = w1) (fun _ _ => 0)
  case atStart => exact ⟨rfl, rfl⟩
  case round =>
  obtain ⟨rfl, hwr⟩ := hrel
  have hwr' := hwr.symm
  clear hwr
  subst hwr'
  go_wp2_with fail
  go_loopw [9] (fun i wr => i = .int .i64 0 ∧ wr = w1) (fun _ _ => 0)
  case atStart => exact ⟨rfl, rfl⟩
  case round =>
  obtain ⟨rfl, hwr⟩ := hrel
  have hwr' := hwr.symm
  clear hwr
  subst hwr'
  go_wp2_with fail
  go_loopw [11] (fun i wr => i = .int .i64 0 ∧ wr = w1) (fun _ _ => 0)
  case atStart => exact ⟨rfl, rfl⟩
  case round =>
  obtain ⟨rfl, hwr⟩ := hrel
  have hwr' := hwr.symm
  clear hwr
  subst hwr'
  go_wp2_with fail
  go_loopw [14] (fun i wr => i = .int .i64 0 ∧ wr = w1) (fun _ _ => 0)
  case atStart => exact ⟨rfl, rfl⟩
  case round =>
  obtain ⟨rfl, hwr⟩ := hrel
  have hwr' := hwr.symm
  clear hwr
  subst hwr'
  go_wp2_with fail
  go_ret
  exact ⟨rfl, HB.out⟩
set_option maxRecDepth 100000 in
set_option maxHeartbeats 4000000 in
theorem flat137_none (w : World) : Calls Tryz.prog 137 #[.slice none 0 0] w fun e w' => e = .returned (.bool true) ∧ Below w.heap.size w w' := by
  have r1 : decide ((0 : Int) < 0) = false := rfl
  obtain ⟨w1, hmk, -, hb1⟩ := RowG.make (t := 104) (e := 237) (sz := 1) (P := Tryz.prog) (ElT.mk' (z := .slice none 0 0) (size := 1) (bytes := 24) Tryz.underlying104 (by kernel_rfl) rfl (by decide) (by decide)) w w.heap.size 0 .i64 .i64 (by decide) (Nat.le_refl _)
  have hmk' : (Instr.makeSlice 104 (.int .i64 0) (.int .i64 0)).run Tryz.prog w = .ok (.slice (some ⟨w.heap.size, 0, none⟩) 0 0) w1 := hmk
  have HB := Lib.hid hb1
  clear hmk hb1
  go_enter Tryz.func137, Tryz.ntmps137
  go_wp2_with fail
  go_loopw [3] (fun i wr => i = .int .i64 0 ∧ wr = w) (fun _ _ => 0)
  case atStart => exact ⟨rfl, rfl⟩
  case round =>
  obtain ⟨rfl, hwr⟩ := hrel
  have hwr' := hwr.symm
  clear hwr
  subst hwr'
  go_wp2_with fail
  clear hmk'
  go_loopw [6] (fun i wr => i = .int .i64 0 ∧ wr = w1) (fun _ _ => 0)
  case atStart => exact ⟨rfl, rfl⟩
  case round =>
  obtain ⟨rfl, hwr⟩ := hrel
  have hwr' := hwr.symm
  clear hwr
  subst hwr'
  go_wp2_with fail
  go_loopw [9] (fun i wr => i = .int .i64 0 ∧ wr = w1) (fun _ _ => 0)
  case atStart => exact ⟨rfl, rfl⟩
  case round =>
  obtain ⟨rfl, hwr⟩ := hrel
  have hwr' := hwr.symm
  clear hwr
  subst hwr'
  go_wp2_with fail
  go_loopw [11] (fun i wr => i = .int .i64 0 ∧ wr = w1) (fun _ _ => 0)
  case atStart => exact ⟨rfl, rfl⟩
  case round =>
  obtain ⟨rfl, hwr⟩ := hrel
  have hwr' := hwr.symm
  clear hwr
  subst hwr'
  go_wp2_with fail
  go_loopw [14] (fun i wr => i = .int .i64 0 ∧ wr = w1) (fun _ _ => 0)
  case atStart => exact ⟨rfl, rfl⟩
  case round =>
  obtain ⟨rfl, hwr⟩ := hrel
  have hwr' := hwr.symm
  clear hwr
  subst hwr'
  go_wp2_with fail
  go_ret
  exact ⟨rfl, HB.out⟩
set_option maxRecDepth 100000 in
set_option maxHeartbeats 4000000 in
theorem flat141_none (w : World) : Calls Tryz.prog 141 #[.slice none 0 0] w fun e w' => e = .returned (.bool true) ∧ Below w.heap.size w w' := by
  have r1 : decide ((0 : Int) < 0) = false := rfl
  obtain ⟨w1, hmk, -, hb1⟩ := RowG.make (t := 107) (e := 44) (sz := 1) (P := Tryz.prog) (ElT.mk' (z := .slice none 0 0) (size := 1) (bytes := 24) Tryz.underlying107 (by kernel_rfl) rfl (by decide) (by decide)) w w.heap.size 0 .i64 .i64 (by decide) (Nat.le_refl _)
  have hmk' : (Instr.makeSlice 107 (.int .i64 0) (.int .i64 0)).run Tryz.prog w = .ok (.slice (some ⟨w.heap.size, 0, none⟩) 0 0) w1 := hmk
  have HB := Lib.hid hb1
  clear hmk hb1
  go_enter Tryz.func141, Tryz.ntmps141
  go_wp2_with fail
  go_loopw [3] (fun i wr => i = .int .i64 0 ∧ wr = w) (fun _ _ => 0)
  case atStart => exact ⟨rfl, rfl⟩
  case round =>
  obtain ⟨rfl, hwr⟩ := hrel
  have hwr' := hwr.symm
  clear hwr
  subst hwr'
  go_wp2_with fail
  clear hmk'
  go_loopw [6] (fun i wr => i = .int .i64 0 ∧ wr = w1) (fun _ _ => 0)
  case atStart => exact ⟨rfl, rfl⟩
  case round =>
  obtain ⟨rfl, hwr⟩ := hrel
  have hwr' := hwr.symm
  clear hwr
  subst hwr'
  go_wp2_with fail
  go_loopw [9] (fun i wr => i = .int .i64 0 ∧ wr = w1) (fun _ _ => 0)
  case atStart => exact ⟨rfl, rfl⟩
  case round =>
  obtain ⟨rfl, hwr⟩ := hrel
  have hwr' := hwr.symm
  clear hwr
  subst hwr'
  go_wp2_with fail
  go_loopw [11] (fun i wr => i = .int .i64 0 ∧ wr = w1) (fun _ _ => 0)
  case atStart => exact ⟨rfl, rfl⟩
  case round =>
  obtain ⟨rfl, hwr⟩ := hrel
  have hwr' := hwr.symm
  clear hwr
  subst hwr'
  go_wp2_with fail
  go_loopw [14] (fun i wr => i = .int .i64 0 ∧ wr = w1) (fun _ _ => 0)
  case atStart => exact ⟨rfl, rfl⟩
  case round =>
  obtain ⟨rfl, hwr⟩ := hrel
  have hwr' := hwr.symm
  clear hwr
  subst hwr'
  go_wp2_with fail
  go_ret
  exact ⟨rfl, HB.out⟩
set_option maxRecDepth 100000 in
set_option maxHeartbeats 4000000 in
theorem flat142_none (w : World) : Calls Tryz.prog 142 #[.slice none 0 0] w fun e w' => e = .returned (.bool true) ∧ Below w.heap.size w w' := by
  have r1 : decide ((0 : Int) < 0) = false := rfl
  obtain ⟨w1, hmk, -, hb1⟩ := RowG.make (t := 108) (e := 45) (sz := 1) (P := Tryz.prog) (ElT.mk' (z := .slice none 0 0) (size := 1) (bytes := 24) Tryz.underlying108 (by kernel_rfl) rfl (by decide) (by decide)) w w.heap.size 0 .i64 .i64 (by decide) (Nat.le_refl _)
  have hmk' : (Instr.makeSlice 108 (.int .i64 0) (.int .i64 0)).run Tryz.prog w = .ok (.slice (some ⟨w.heap.size, 0, none⟩) 0 0) w1 := hmk
  have HB := Lib.hid hb1
  clear hmk hb1
  go_enter Tryz.func142, Tryz.ntmps142
  go_wp2_with fail
  go_loopw [3] (fun i wr => i = .int .i64 0 ∧ wr = w) (fun _ _ => 0)
  case atStart => exact ⟨rfl, rfl⟩
  case round =>
  obtain ⟨rfl, hwr⟩ := hrel
  have hwr' := hwr.symm
  clear hwr
  subst hwr'
  go_wp2_with fail
  clear hmk'
  go_loopw [6] (fun i wr => i = .int .i64 0 ∧ wr = w1) (fun _ _ => 0)
  case atStart => exact ⟨rfl, rfl⟩
  case round =>
  obtain ⟨rfl, hwr⟩ := hrel
  have hwr' := hwr.symm
  clear hwr
  subst hwr'
  go_wp2_with fail
  go_loopw [9] (fun i wr => i = .int .i64 0 ∧ wr = w1) (fun _ _ => 0)
  case atStart => exact ⟨rfl, rfl⟩
  case round =>
  obtain ⟨rfl, hwr⟩ := hrel
  have hwr' := hwr.symm
  clear hwr
  subst hwr'
  go_wp2_with fail
  go_loopw [11] (fun i wr => i = .int .i64 0 ∧ wr = w1) (fun _ _ => 0)
  case atStart => exact ⟨rfl, rfl⟩
  case round =>
  obtain ⟨rfl, hwr⟩ := hrel
  have hwr' := hwr.symm
  clear hwr
  subst hwr'
  go_wp2_with fail
  go_loopw [14] (fun i wr => i = .int .i64 0 ∧ wr = w1) (fun _ _ => 0)
  case atStart => exact ⟨rfl, rfl⟩
  case round =>
  obtain ⟨rfl, hwr⟩ := hrel
  have hwr' := hwr.symm
  clear hwr
  subst hwr'
  go_wp2_with fail
  go_ret
  exact ⟨rfl, HB.out⟩
set_option maxRecDepth 100000 in
set_option maxHeartbeats 4000000 in
theorem flat143_none (w : World) : Calls Tryz.prog 143 #[.slice none 0 0] w fun e w' => e = .returned (.bool true) ∧ Below w.heap.size w w' := by
  have r1 : decide ((0 : Int) < 0) = false := rfl
  obtain ⟨w1, hmk, -, hb1⟩ := RowG.make (t := 109) (e := 239) (sz := 1) (P := Tryz.prog) (ElT.mk' (z := .slice none 0 0) (size := 1) (bytes := 24) Tryz.underlying109 (by kernel_rfl) rfl (by decide) (by decide)) w w.heap.size 0 .i64 .i64 (by decide) (Nat.le_refl _)
  have hmk' : (Instr.makeSlice 109 (.int .i64 0) (.int .i64 0)).run Tryz.prog w = .ok (.slice (some ⟨w.heap.size, 0, none⟩) 0 0) w1 := hmk
  have HB := Lib.hid hb1
  clear hmk hb1
  go_enter Tryz.func143, Tryz.ntmps143
  go_wp2_with fail
  go_loopw [3] (fun i wr => i = .int .i64 0 ∧ wr = w) (fun _ _ => 0)
  case atStart => exact ⟨rfl, rfl⟩
  case round =>
  obtain ⟨rfl, hwr⟩ := hrel
  have hwr' := hwr.symm
  clear hwr
  subst hwr'
  go_wp2_with fail
  clear hmk'
  go_loopw [6] (fun i wr => i = .int .i64 0 ∧ wr = w1) (fun _ _ => 0)
  case atStart => exact ⟨rfl, rfl⟩
  case round =>
  obtain ⟨rfl, hwr⟩ := hrel
  have hwr' := hwr.symm
  clear hwr
  subst hwr'
  go_wp2_with fail
  go_loopw [9] (fun i wr => i = .int .i64 0 ∧ wr = w1) (fun _ _ => 0)
  case atStart => exact ⟨rfl, rfl⟩
  case round =>
  obtain ⟨rfl, hwr⟩ := hrel
  have hwr' := hwr.symm
  clear hwr
  subst hwr'
  go_wp2_with fail
  go_loopw [11] (fun i wr => i = .int .i64 0 ∧ wr = w1) (fun _ _ => 0)
  case atStart => exact ⟨rfl, rfl⟩
  case round =>
  obtain ⟨rfl, hwr⟩ := hrel
  have hwr' := hwr.symm
  clear hwr
  subst hwr'
  go_wp2_with fail
  go_loopw [14] (fun i wr => i = .int .i64 0 ∧ wr = w1) (fun _ _ => 0)
  case atStart => exact ⟨rfl, rfl⟩
  case round =>
  obtain ⟨rfl, hwr⟩ := hrel
  have hwr' := hwr.symm
  clear hwr
  subst hwr'
  go_wp2_with fail
  go_ret
  exact ⟨rfl, HB.out⟩
set_option maxRecDepth 100000 in
set_option maxHeartbeats 4000000 in
theorem flat144_none (w : World) : Calls Tryz.prog 144 #[.slice none 0 0] w fun e w' => e = .returned (.bool true) ∧ Below w.heap.size w w' := by
  have r1 : decide ((0 : Int) < 0) = false := rfl
  obtain ⟨w1, hmk, -, hb1⟩ := RowG.make (t := 110) (e := 63) (sz := 1) (P := Tryz.prog) (ElT.mk' (z := .slice none 0 0) (size := 1) (bytes := 24) Tryz.underlying110 (by kernel_rfl) rfl (by decide) (by decide)) w w.heap.size 0 .i64 .i64 (by decide) (Nat.le_refl _)
  have hmk' : (Instr.makeSlice 110 (.int .i64 0) (.int .i64 0)).run Tryz.prog w = .ok (.slice (some ⟨w.heap.size, 0, none⟩) 0 0) w1 := hmk
  have HB := Lib.hid hb1
  clear hmk hb1
  go_enter Tryz.func144, Tryz.ntmps144
  go_wp2_with fail
  go_loopw [3] (fun i wr => i = .int .i64 0 ∧ wr = w) (fun _ _ => 0)
  case atStart => exact ⟨rfl, rfl⟩
  case round =>
  obtain ⟨rfl, hwr⟩ := hrel
  have hwr' := hwr.symm
  clear hwr
  subst hwr'
  go_wp2_with fail
  clear hmk'
  go_loopw [6] (fun i wr => i = .int .i64 0 ∧ wr = w1) (fun _ _ => 0)
  case atStart => exact ⟨rfl, rfl⟩
  case round =>
  obtain ⟨rfl, hwr⟩ := hrel
  have hwr' := hwr.symm
  clear hwr
  subst hwr'
  go_wp2_with fail
  go_loopw [9] (fun i wr => i = .int .i64 0 ∧ wr = w1) (fun _ _ => 0)
  case atStart => exact ⟨rfl, rfl⟩
  case round =>
  obtain ⟨rfl, hwr⟩ := hrel
  have hwr' := hwr.symm
  clear hwr
  subst hwr'
  go_wp2_with fail
  go_loopw [11] (fun i wr => i = .int .i64 0 ∧ wr = w1) (fun _ _ => 0)
  case atStart => exact ⟨rfl, rfl⟩
  case round =>
  obtain ⟨rfl, hwr⟩ := hrel
  have hwr' := hwr.symm
  clear hwr
  subst hwr'
  go_wp2_with fail
  go_loopw [14] (fun i wr => i = .int .i64 0 ∧ wr = w1) (fun _ _ => 0)
  case atStart => exact ⟨rfl, rfl⟩
  case round =>
  obtain ⟨rfl, hwr⟩ := hrel
  have hwr' := hwr.symm
  clear hwr
  subst hwr'
  go_wp2_with fail
  go_ret
  exact ⟨rfl, HB.out⟩
set_option maxRecDepth 100000 in
set_option maxHeartbeats 4000000 in
theorem flat145_none (w : World) : Calls Tryz.prog 145 #[.slice none 0 0] w fun e w' => e = .returned (.bool true) ∧ Below w.heap.size w w' := by
  have r1 : decide ((0 : Int) < 0) = false := rfl
  obtain ⟨w1, hmk, -, hb1⟩ := RowG.make (t := 111) (e := 48) (sz := 1) (P := Tryz.prog) (ElT.mk' (z := .slice none 0 0) (size := 1) (bytes := 24) Tryz.underlying111 (by kernel_rfl) rfl (by decide) (by decide)) w w.heap.size 0 .i64 .i64 (by decide) (Nat.le_refl _)
  have hmk' : (Instr.makeSlice 111 (.int .i64 0) (.int .i64 0)).run Tryz.prog w = .ok (.slice (some ⟨w.heap.size, 0, none⟩) 0 0) w1 := hmk
  have HB := Lib.hid hb1
  clear hmk hb1
  go_enter Tryz.func145, Tryz.ntmps145
  go_wp2_with fail
  go_loopw [3] (fun i wr => i = .int .i64 0 ∧ wr = w) (fun _ _ => 0)
  case atStart => exact ⟨rfl, rfl⟩
  case round =>
  obtain ⟨rfl, hwr⟩ := hrel
  have hwr' := hwr.symm
  clear hwr
  subst hwr'
  go_wp2_with fail
  clear hmk'
  go_loopw [6] (fun i wr => i = .int .i64 0 ∧ wr = w1) (fun _ _ => 0)
  case atStart => exact ⟨rfl, rfl⟩
  case round =>
  obtain ⟨rfl, hwr⟩ := hrel
  have hwr' := hwr.symm
  clear hwr
  subst hwr'
  go_wp2_with fail
  go_loopw [9] (fun i wr => i = .int .i64 0 ∧ wr = w1) (fun _ _ => 0)
  case atStart => exact ⟨rfl, rfl⟩
  case round =>
  obtain ⟨rfl, hwr⟩ := hrel
  have hwr' := hwr.symm
  clear hwr
  subst hwr'
  go_wp2_with fail
  go_loopw [11] (fun i wr => i = .int .i64 0 ∧ wr = w1) (fun _ _ => 0)
  case atStart => exact ⟨rfl, rfl⟩
  case round =>
  obtain ⟨rfl, hwr⟩ := hrel
  have hwr' := hwr.symm
  clear hwr
  subst hwr'
  go_wp2_with fail
  go_loopw [14] (fun i wr => i = .int .i64 0 ∧ wr = w1) (fun _ _ => 0)
  case atStart => exact ⟨rfl, rfl⟩
  case round =>
  obtain ⟨rfl, hwr⟩ := hrel
  have hwr' := hwr.symm
  clear hwr
  subst hwr'
  go_wp2_with fail
  go_ret
  exact ⟨rfl, HB.out⟩
set_option maxRecDepth 100000 in
set_option maxHeartbeats 4000000 in
theorem flat146_none (w : World) : Calls Tryz.prog 146 #[.slice none 0 0] w fun e w' => e = .returned (.bool true) ∧ Below w.heap.size w w' := by
  have r1 : decide ((0 : Int) < 0) = false := rfl
  obtain ⟨w1, hmk, -, hb1⟩ := RowG.make (t := 62) (e := 56) (sz := 1) (P := Tryz.prog) (ElT.mk' (z := .slice none 0 0) (size := 1) (bytes := 24) Tryz.underlying62 (by kernel_rfl) rfl (by decide) (by decide)) w w.heap.size 0 .i64 .i64 (by decide) (Nat.le_refl _)
  have hmk' : (Instr.makeSlice 62 (.int .i64 0) (.int .i64 0)).run Tryz.prog w = .ok (.slice (some ⟨w.heap.size, 0, none⟩) 0 0) w1 := hmk
  have HB := Lib.hid hb1
  clear hmk hb1
  go_enter Tryz.func146, Tryz.ntmps146
  go_wp2_with fail
  go_loopw [3] (fun i wr => i = .int .i64 0 ∧ wr = w) (fun _ _ => 0)
  case atStart => exact ⟨rfl, rfl⟩
  case round =>
  obtain ⟨rfl, hwr⟩ := hrel
  have hwr' := hwr.symm
  clear hwr
  subst hwr'
  go_wp2_with fail
  clear hmk'
  go_loopw [6] (fun i wr => i = .int .i64 0 ∧ wr = w1) (fun _ _ => 0)
  case atStart => exact ⟨rfl, rfl⟩
  case round =>
  obtain ⟨rfl, hwr⟩ := hrel
  have hwr' := hwr.symm
  clear hwr
  subst hwr'
  go_wp2_with fail
  go_loopw [9] (fun i wr => i = .int .i64 0 ∧ wr = w1) (fun _ _ => 0)
  case atStart => exact ⟨rfl, rfl⟩
  case round =>
  obtain ⟨rfl, hwr⟩ := hrel
  have hwr' := hwr.symm
  clear hwr
  subst hwr'
  go_wp2_with fail
  go_loopw [11] (fun i wr => i = .int .i64 0 ∧ wr = w1) (fun _ _ => 0)
  case atStart => exact ⟨rfl, rfl⟩
  case round =>
  obtain ⟨rfl, hwr⟩ := hrel
  have hwr' := hwr.symm
  clear hwr
  subst hwr'
  go_wp2_with fail
  go_loopw [14] (fun i wr => i = .int .i64 0 ∧ wr = w1) (fun _ _ => 0)
  case atStart => exact ⟨rfl, rfl⟩
  case round =>
  obtain ⟨rfl, hwr⟩ := hrel
  have hwr' := hwr.symm
  clear hwr
  subst hwr'
  go_wp2_with fail
  go_ret
  exact ⟨rfl, HB.out⟩
set_option maxRecDepth 100000 in
set_option maxHeartbeats 4000000 in
theorem flat147_none (w : World) : Calls Tryz.prog 147 #[.slice none 0 0] w fun e w' => e = .returned (.bool true) ∧ Below w.heap.size w w' := by
  have r1 : decide ((0 : Int) < 0) = false := rfl
  obtain ⟨w1, hmk, -, hb1⟩ := RowG.make (t := 112) (e := 242) (sz := 1) (P := Tryz.prog) (ElT.mk' (z := .slice none 0 0) (size := 1) (bytes := 24) Tryz.underlying112 (by kernel_rfl) rfl (by decide) (by decide)) w w.heap.size 0 .i64 .i64 (by decide) (Nat.le_refl _)
  have hmk' : (Instr.makeSlice 112 (.int .i64 0) (.int .i64 0)).run Tryz.prog w = .ok (.slice (some ⟨w.heap.size, 0, none⟩) 0 0) w1 := hmk
  have HB := Lib.hid hb1
  clear hmk hb1
  go_enter Tryz.func147, Tryz.ntmps147
  go_wp2_with fail
  go_loopw [3] (fun i wr => i = .int .i64 0 ∧ wr = w) (fun _ _ => 0)
  case atStart => exact ⟨rfl, rfl⟩
  case round =>
  obtain ⟨rfl, hwr⟩ := hrel
  have hwr' := hwr.symm
  clear hwr
  subst hwr'
  go_wp2_with fail
  clear hmk'
  go_loopw [6] (fun i wr => i = .int .i64 0 ∧ wr = w1) (fun _ _ => 0)
  case atStart => exact ⟨rfl, rfl⟩
  case round =>
  obtain ⟨rfl, hwr⟩ := hrel
  have hwr' := hwr.symm
  clear hwr
  subst hwr'
  go_wp2_with fail
  go_loopw [9] (fun i wr => i = .int .i64 0 ∧ wr = w1) (fun _ _ => 0)
  case atStart => exact ⟨rfl, rfl⟩
  case round =>
  obtain ⟨rfl, hwr⟩ := hrel
  have hwr' := hwr.symm
  clear hwr
  subst hwr'
  go_wp2_with fail
  go_loopw [11] (fun i wr => i = .int .i64 0 ∧ wr = w1) (fun _ _ => 0)
  case atStart => exact ⟨rfl, rfl⟩
  case round =>
  obtain ⟨rfl, hwr⟩ := hrel
  have hwr' := hwr.symm
  clear hwr
  subst hwr'
  go_wp2_with fail
  go_loopw [14] (fun i wr => i = .int .i64 0 ∧ wr = w1) (fun _ _ => 0)
  case atStart => exact ⟨rfl, rfl⟩
  case round =>
  obtain ⟨rfl, hwr⟩ := hrel
  have hwr' := hwr.symm
  clear hwr
  subst hwr'
  go_wp2_with fail
  go_ret
  exact ⟨rfl, HB.out⟩
end Go.Proofs.YtkcmapimcgppmaaGreatDoor
end
