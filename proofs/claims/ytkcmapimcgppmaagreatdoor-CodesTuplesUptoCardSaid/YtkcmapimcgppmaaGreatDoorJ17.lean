/-
  slices.Grow of nil, slices.Concat of rows of terms. Conditions: no more than 4000000 terms. Levels, terms that read as the same are told to be. Terms that read as the same are told to be. The worker for this program: each function that is known by hand. Conditions: those of what was shown before. The chapter's example is as it should be. Conditions: the table of kinds lies where it was laid. The document's small makers of terms. The document's case. Conditions: no more than 1000000 nodes, levels, parts; numbers that a word holds. The program's small makers of terms, its case. Conditions: no more than 1000000 nodes, levels, parts; numbers that a word holds; the table of kinds lies where it was laid. Contracts over data, told of calls: what is given, what comes back. Conditions: as each lemma states them.
-/
import Derived.Test.YtkcmapimcgppmaaGreatDoorJ14
import Derived.Test.YtkcmapimcgppmaaGreatDoorJ05
import Derived.Lib.AppendZeros
import Derived.Test.YtkcmapimcgppmaaGreatDoorJ02
import Derived.Laws.StructEq
import Derived.Test.YtkcmapimcgppmaaGreatDoorJ16
import Derived.Test.YtkcmapimcgppmaaGreatDoorJ08
set_option linter.all false
set_option linter.unusedVariables false
set_option linter.unusedSimpArgs false
set_option linter.unnecessarySimpa false
section
namespace Go.Proofs.YtkcmapimcgppmaaGreatDoor
open Go.RowKit

set_option maxRecDepth 100000 in
set_option maxHeartbeats 4000000 in
theorem grow_any (n : Nat) (hn : n ≤ 4000000) (w : World) : Calls Tryz.prog 219 #[.slice none 0 0, .int .i64 n] w fun e w' => ∃ v, e = .returned v ∧ Below w.heap.size w w' ∧ w'.ownsRow w.heap.size 26 5 v 0 [] := by
  have r0 : decide ((n : Int) < 0) = false := decide_eq_false (by omega)
  have hw0 : IntKind.i64.wrap ((n : Int) - 0) = n := by rw [IntKind.wrap_i64]; omega
  by_cases h0 : n = 0
  · subst h0
    go_enter Tryz.func219, Tryz.ntmps219
    go_wp2_with fail
    go_ret
    exact ⟨_, rfl, Below.refl _ _, World.ownsRow_nil _ _ _ _⟩
  · have r1 : decide ((0 : Int) < n) = true := decide_eq_true (by omega)
    obtain ⟨i, z, bytes, ht, hi, hz, hsize, hby, hzs, hsz, hbb⟩ := elT.is
    have hb : n * i.bytes ≤ 4000000 * 1000 := Nat.mul_le_mul hn (by omega)
    have hrun := Lib.run_append_nil_zeros (P := Tryz.prog) w 22 3 22 26 i z .i64 .i64 ht Tryz.underlying3 hi hz n (by omega) (by omega) (by omega) (by omega)
    have hge := grownCap_ge w n 0 26
    have hcm : grownCap w n 0 26 ≤ maxLen := grownCap_le_maxLen w n 0 26 (by unfold maxLen; omega)
    have hc1 : n ≤ grownCap w n 0 26 := by simpa using hge
    obtain ⟨C, hC⟩ : ∃ C, grownCap w n 0 26 = C := ⟨_, rfl⟩
    rw [hC] at hrun hc1 hcm
    have HB := Lib.hid (Below.alloc (a := w) (w := w.drew) (B := w.heap.size) ⟨rfl, rfl, rfl, Nat.le_refl _, fun _ _ => rfl⟩ (Nat.le_refl _) (.cells (Builtin.zeroCells z.cells n ++ Builtin.zeroCells z.cells (C - n)) 26))
    have HO := Lib.hid (World.ownsRow_made w.drew (base := w.heap.size) (e := 26) (size := 5) (Builtin.zeroCells z.cells n ++ Builtin.zeroCells z.cells (C - n)) C (Nat.le_refl _) hcm (by simp only [Array.size_append, size_zeroCells, hzs, ← Nat.add_mul]; congr 1; omega))
    obtain ⟨W, hW⟩ : ∃ W, w.drew.alloc (.cells (Builtin.zeroCells z.cells n ++ Builtin.zeroCells z.cells (C - n)) 26) = W := ⟨_, rfl⟩
    rw [hW] at hrun HB HO
    clear ht hi hz hsize hby hzs hsz hbb hb hge hC hW
    unfold maxLen at hcm
    go_enter Tryz.func219, Tryz.ntmps219
    go_wp2_with (at_builtin; refine Lib.wpList_append_run _ rfl _ _ 22 3 rfl _ _ rfl rfl _ _ hrun ?_)
    go_ret
    exact ⟨_, rfl, HB.out, HO.out⟩

/-- Rows of terms, as cells; all behind each other. -/
def rowsDs : List Ts → Ds
  | [] => .nil
  | t :: r => .row 5 26 (tDs ty t) .nil (rowsDs r)
def catT : List Ts → Ts
  | [] => .nil
  | t :: r => t.app (catT r)
theorem rowsDs_len (l : List Ts) : (rowsDs l).len = l.length := by
  induction l with
  | nil => rfl
  | cons t r ih => simp [rowsDs, Ds.len, ih]
theorem catT_app (a b : List Ts) : catT (a ++ b) = (catT a).app (catT b) := by
  induction a with
  | nil => rfl
  | cons t r ih => simp [catT, ih, Ts.app_assoc]
/-- What lies in a slice of rows. -/
theorem rows_at {F : Nat → Nat → Option Value} {hi : Nat} : ∀ {l : List Ts} {b o : Nat}, At F hi (rowsDs l) b o → ∀ k t, l[k]? = some t → ∃ v, F b (o + k) = some v ∧ Rd F hi v 5 (tDs ty t) .nil := by
  intro l
  induction l with
  | nil => intro b o _ k t h; simp at h
  | cons t0 r ih =>
    intro b o h1 k t h
    obtain ⟨⟨v, h2, h3⟩, h4⟩ := At_row.1 h1
    cases k with
    | zero =>
      simp at h
      subst h
      exact ⟨v, h2, h3⟩
    | succ k =>
      obtain ⟨u, h5, h6⟩ := ih h4 k t (by simpa using h)
      exact ⟨u, by rw [show o + (k + 1) = o + 1 + k by omega]; exact h5, h6⟩
theorem rd_elems {F : Nat → Nat → Option Value} {hi : Nat} {v : Value} {t : Ts} (h : Rd F hi v 5 (tDs ty t) .nil) : ∃ p c ys, v = .slice p t.len c ∧ t.len ≤ c ∧ c ≤ maxLen ∧ Vs F hi (tDs ty t) ys ∧ ys.length = t.len * 5 ∧ ((v = .slice none 0 0 ∧ t.len = 0) ∨ ∃ a, p = some a ∧ ∀ j u, ys[j]? = some u → ∃ b o, a = ⟨b, o, none⟩ ∧ b < hi ∧ F b (o + j) = some u) := by
  obtain ⟨p, n, c, rfl, h2, h3, h4, -, h5⟩ := h
  have hn : n = t.len := by rw [tDs_len] at h2; omega
  subst hn
  by_cases h0 : t.len = 0
  · have ht : t = .nil := by cases t <;> simp [Ts.len] at h0 ⊢
    subst ht
    refine ⟨p, c, [], rfl, h3, h4, rfl, rfl, ?_⟩
    rcases h5 with ⟨rfl, rfl⟩ | ⟨-, -, hp⟩ | ⟨b, o, rfl, -⟩
    · exact .inl ⟨rfl, rfl⟩
    · obtain ⟨a, rfl⟩ := Option.ne_none_iff_exists'.1 hp
      exact .inr ⟨a, rfl, fun j u hu => by simp at hu⟩
    · exact .inr ⟨_, rfl, fun j u hu => by simp at hu⟩
  · rcases h5 with ⟨rfl, rfl⟩ | ⟨h6, -⟩ | ⟨b, o, rfl, hb, hat, -⟩
    · omega
    · omega
    · obtain ⟨ys, h6, h7⟩ := At.vs hat
      exact ⟨_, c, ys, rfl, h3, h4, h6, by rw [h6.len, tDs_len], .inr ⟨_, rfl, fun j u hu => ⟨b, o, rfl, hb, h7 j u hu⟩⟩⟩
theorem owns_rd {w : World} {base e n : Nat} {v : Value} {xs : List Value} {t : Ts} {F F' : Nat → Nat → Option Value} {hi : Nat} (h : w.ownsRow base e 5 v n xs) (hv : Vs F hi (tDs ty t) xs) (hF : ∀ b o v, b < hi → F b o = some v → F' b o = some v) (hU : ∀ b o v, base ≤ b → U w b o = some v → F' b o = some v) (hh : hi ≤ w.heap.size) : Rd F' w.heap.size v 5 (tDs ty t) .nil := by
  obtain ⟨h1, h2⟩ := h
  have hl := hv.len
  have hv' : Vs F' w.heap.size (tDs ty t) xs := hv.mono hF hh
  rcases h2 with ⟨rfl, rfl⟩ | ⟨g, cap, cur, rfl, h3, h4, h5, h6, h7, h8⟩
  · have : t = .nil := by
      rw [tDs_len] at hl
      cases t
      · rfl
      · simp [Ts.len] at hl; omega
    subst this
    exact Rd.none_ _ _ _
  · refine ⟨_, n, cap, rfl, by omega, h5, h6, by simp [Ds.len]; rw [← hl, h1]; exact Nat.mul_le_mul_right 5 h5, .inr (.inr ⟨g, 0, rfl, (Array.getElem?_eq_some_iff.1 h4).1, hv'.at_ (fun j u hu => hU _ _ _ h3 (row_cell h4 (by rw [h1]; exact h8) j u hu)), trivial⟩)⟩
theorem take_get {α : Type} {l : List α} {j : Nat} {t : α} (h : l[j]? = some t) : l.take (j + 1) = l.take j ++ [t] := by
  rw [List.take_add_one, h]; rfl
set_option maxRecDepth 100000 in
set_option maxHeartbeats 4000000 in
theorem concat_any (l : List Ts) (va : Value) (w : World) (F : Nat → Nat → Option Value) (hFU : ∀ b o v, F b o = some v → U w b o = some v) (ha : Rd F w.heap.size va 1 (rowsDs l) .nil) (hl : l.length ≤ 4000000) (hn : (catT l).len ≤ 4000000) : Calls Tryz.prog 166 #[va] w fun e w' => ∃ v, e = .returned v ∧ Below w.heap.size w w' ∧ Rd (fun b o => if b < w.heap.size then F b o else U w' b o) w'.heap.size v 5 (tDs ty (catT l)) .nil := by
  have HFU := Lib.hid hFU
  clear hFU
  obtain ⟨q, n, c, rfl, h2, h3, h4, -, h5⟩ := ha
  have hnl : n = l.length := by rw [rowsDs_len] at h2; omega
  subst hnl
  unfold maxLen at h4
  have hel : ∀ j t, l[j]? = some t → ∃ b o v, q = some ⟨b, o, none⟩ ∧ b < w.heap.size ∧ F b (o + j) = some v ∧ Rd F w.heap.size v 5 (tDs ty t) .nil := fun j t hj => by
    have hlt : j < l.length := (List.getElem?_eq_some_iff.1 hj).1
    rcases h5 with ⟨rfl, rfl⟩ | ⟨h6, -⟩ | ⟨b, o, rfl, hb, hat, -⟩
    · omega
    · omega
    · obtain ⟨v, h7, h8⟩ := rows_at hat j t hj
      exact ⟨b, o, v, rfl, hb, h7, h8⟩
  have htk : ∀ j, (catT (l.take j)).len ≤ 4000000 := fun j => by
    have := congrArg Ts.len (catT_app (l.take j) (l.drop j))
    rw [List.take_append_drop, Ts.app_len] at this
    omega
  have HEL := Lib.hid hel
  have HTK := Lib.hid htk
  clear h5 hel htk h2
  go_enter Tryz.func166, Tryz.ntmps166
  go_wp2_with fail
  go_loopw [3, 5, 11] (fun s _ i wr => ∃ j : Nat, j ≤ l.length ∧ i = .int .i64 (j : Int) ∧ s = .int .i64 ((catT (l.take j)).len : Int) ∧ wr = w) (fun _ _ i _ => l.length - (intOf i).toNat)
  case atStart => exact ⟨0, Nat.zero_le _, rfl, rfl, rfl⟩
  case round =>
    obtain ⟨j, hj, rfl, rfl, hwr⟩ := hrel
    have hwr' : w = wr := hwr.symm
    clear hwr
    subst hwr'
    by_cases hlt : j < l.length
    · have r1 : decide ((j : Int) < l.length) = true := decide_eq_true (by omega)
      have i1 : (0 : Int) ≤ j := by omega
      have i2 : (j : Int) < l.length := by omega
      obtain ⟨t, ht⟩ : ∃ t, l[j]? = some t := ⟨l[j], List.getElem?_eq_getElem hlt⟩
      obtain ⟨b, o, v, rfl, hb, hc, hr⟩ := HEL.out j t ht
      obtain ⟨p, cc, ys, rfl, -, -, -, -, -⟩ := rd_elems hr
      have e0 := U_cell (HFU.out _ _ _ hc)
      have hcat : (catT (l.take (j + 1))).len = (catT (l.take j)).len + t.len := by rw [take_get ht, catT_app, Ts.app_len]; simp [catT, Ts.len, Ts.app_len]
      have h6 := HTK.out (j + 1)
      rw [hcat] at h6
      have r2 : decide ((((catT (l.take j)).len : Int) + (t.len : Int)) < 0) = false := decide_eq_false (by omega)
      have hw1 : IntKind.i64.wrap (((catT (l.take j)).len : Int) + (t.len : Int)) = ((catT (l.take j)).len : Int) + (t.len : Int) := by rw [IntKind.wrap_i64]; omega
      clear hr hc
      go_wp2_with fail
      go_roundw
      case rel => exact ⟨j + 1, by omega, by go_num, by rw [hcat]; go_num, trivial⟩
      case measure => simp [intOf]; omega
    · obtain rfl : j = l.length := by omega
      have r1 : decide ((l.length : Int) < l.length) = false := decide_eq_false (by omega)
      go_wp2_with fail
      refine (grow_any (catT l).len hn w).mono ?_
      rintro e w1 ⟨v1, rfl, hb1, ho1⟩
      have HB1 := Lib.hid hb1
      obtain ⟨i, z, bytes, ti, hi, hz, hsize, hby, hzs, hsz, hbb⟩ := elT.is
      have HLAW := Lib.hid (fun (W : World) (v : Value) (n : Nat) (xs : List Value) (hown : W.ownsRow w.heap.size 26 5 v n xs) (x : Value) (m : Nat) (news : List Value) (hx : (x = .slice none 0 0 ∧ m = 0) ∨ ∃ a c, x = .slice (some a) m c ∧ ∀ j u, news[j]? = some u → W.cell? (a.add j) = some u) (hl : news.length = m * 5) (h1 : ∀ u ∈ news, u.oneCell' = true) (h63 : n + m ≤ 1000000000) (hbase : w.heap.size ≤ W.heap.size) =>
        append_law (P := Tryz.prog) W w.heap.size 22 22 26 i z 5 ti hi hz hsize hzs hsz v n xs hown x m news hx hl h1 h63 (by omega) hbase)
      obtain ⟨p1, c1, rfl⟩ : ∃ p c, v1 = .slice p 0 c := by
        rcases ho1.2 with ⟨rfl, -⟩ | ⟨g, cap, cur, rfl, -⟩ <;> exact ⟨_, _, rfl⟩
      have HO1 := Lib.hid ho1
      clear hb1 ho1 ti hi hz hsize hby hzs hsz hbb
      go_wp2_with fail
      go_loopw [6, 8, 27] (fun v _ i wx => ∃ (j : Nat) (xs : List Value), j ≤ l.length ∧ i = .int .i64 (j : Int) ∧ Below w.heap.size w wx ∧ wx.ownsRow w.heap.size 26 5 v (catT (l.take j)).len xs ∧ Vs F w.heap.size (tDs ty (catT (l.take j))) xs) (fun _ _ i _ => l.length - (intOf i).toNat)
      case atStart => exact ⟨0, [], Nat.zero_le _, rfl, HB1.out, HO1.out, rfl⟩
      case round =>
        obtain ⟨j, xs, hj, rfl, hbx, hox, hvx⟩ := hrel
        have HBX := Lib.hid hbx
        have HOX := Lib.hid hox
        have HVX := Lib.hid hvx
        clear hbx hox hvx
        by_cases hlt : j < l.length
        · have r1 : decide ((j : Int) < l.length) = true := decide_eq_true (by omega)
          have i1 : (0 : Int) ≤ j := by omega
          have i2 : (j : Int) < l.length := by omega
          obtain ⟨t, ht⟩ : ∃ t, l[j]? = some t := ⟨l[j], List.getElem?_eq_getElem hlt⟩
          obtain ⟨b, o, v, rfl, hb, hc, hr⟩ := HEL.out j t ht
          obtain ⟨p, cc, ys, rfl, -, -, hys, hyl, hyc⟩ := rd_elems hr
          have e0 := U_cell (U_below HBX.out _ _ _ hb (HFU.out _ _ _ hc))
          have hcat : (catT (l.take (j + 1))) = (catT (l.take j)).app t := by rw [take_get ht, catT_app]; simp [catT, Ts.app_nil]
          have h6 := congrArg Ts.len hcat
          rw [Ts.app_len] at h6
          have h7 := HTK.out (j + 1)
          obtain ⟨v', w', hrun, ho', hg'⟩ := HLAW.out _ _ _ _ HOX.out (.slice p t.len cc) t.len ys (hyc.imp id fun ⟨a, e, h⟩ => ⟨a, cc, by rw [e], fun j u hu => by
            obtain ⟨b1, o1, rfl, h8, h9⟩ := h j u hu
            rw [Addr.add_lit]
            exact (HBX.out.cell (p := ⟨b1, o1 + j, none⟩) h8).trans (U_cell (HFU.out _ _ _ h9))⟩) hyl (Vs.one (tDs_ones ty t) hys) (by omega) HBX.out.size
          have hb' : Below w.heap.size w w' := by
            rcases hg' with ⟨-, hg⟩ | ⟨-, hg⟩
            · exact HBX.out.grown hg HBX.out.size (fun k hk => (HOX.out.lt k hk).1)
            · exact HBX.out.trans (hg.mono HBX.out.size)
          have hv' : Vs F w.heap.size (tDs ty (catT (l.take (j + 1)))) (xs ++ ys) := by
            rw [hcat, tDs_app]
            exact Vs.app hys HVX.out
          rw [← h6] at ho'
          have HB' := Lib.hid hb'
          have HO' := Lib.hid ho'
          have HV' := Lib.hid hv'
          clear hr hc hys hyc hg' hb' ho' hv'
          go_wp2_with (at_builtin; refine wpList_append_run rfl _ _ 22 rfl _ _ _ rfl rfl hrun ?_)
          go_roundw
          case rel => exact ⟨j + 1, _, by omega, by go_num, HB'.out, HO'.out, HV'.out⟩
          case measure => simp [intOf]; omega
        · obtain rfl : j = l.length := by omega
          have r1 : decide ((l.length : Int) < l.length) = false := decide_eq_false (by omega)
          go_wp2_with fail
          go_ret
          have h1 := HOX.out
          have h2 := HVX.out
          rw [List.take_length] at h1 h2
          exact ⟨_, rfl, HBX.out, owns_rd h1 h2 (fun b o v hb hu => by rw [if_pos hb]; exact hu) (fun b o v hb hu => by rw [if_neg (by omega)]; exact hu) HBX.out.size⟩
end Go.Proofs.YtkcmapimcgppmaaGreatDoor
end
section
namespace Go.Proofs.YtkcmapimcgppmaaGreatDoor
open Go.RowKit

set_option maxHeartbeats 1000000 in
theorem sameParts_any (p : Lv) (va vb : Value) (w : World) (ha : RP w va p) (hb : RP w vb p) : Calls Tryz.prog 204 #[va, vb] w fun e w' => e = .returned (.bool true) ∧ Below w.heap.size w w' := by
  obtain ⟨q, c, rfl, hc1, hc2, -⟩ := ha.slice
  obtain ⟨q', c', rfl, hc3, hc4, -⟩ := hb.slice
  unfold maxLen at hc2 hc4
  have HA := Lib.hid ha
  have HB := Lib.hid hb
  have hne : ((p.length : Int) != (p.length : Int)) = false := by simp
  clear ha hb
  go_enter Tryz.func204, Tryz.ntmps204
  go_wp2_with fail
  clear hne
  go_loopw [5] (fun i wr => ∃ k : Nat, k ≤ p.length ∧ i = .int .i64 k ∧ Below w.heap.size w wr) (fun i _ => p.length - (intOf i).toNat)
  case atStart => exact ⟨0, Nat.zero_le _, rfl, Below.refl _ _⟩
  case round =>
    obtain ⟨k, hk, rfl, hB⟩ := hrel
    by_cases hlt : k < p.length
    · have r1 : decide ((k : Int) < (p.length : Int)) = true := decide_eq_true (by omega)
      obtain ⟨b, o, rfl, hb1, hu1, hu2⟩ := (HA.out.on hB).at_ hlt
      obtain ⟨b', o', rfl, hb2, hu3, hu4⟩ := (HB.out.on hB).at_ hlt
      have e1 := U_cell hu1
      have e2 := U_cell hu2
      have e3 := U_cell hu3
      have e4 := U_cell hu4
      have HBB := Lib.hid hB
      clear hu1 hu2 hu3 hu4 hB
      go_wp2_with fail
      go_region_with fail
      all_goals (go_wp2_with fail)
      all_goals go_roundw
      all_goals first
        | exact ⟨k + 1, by omega, by go_num, below_step HBB.out (below_drew wr)⟩
        | (simp [intOf]; omega)
    · have r1 : decide ((k : Int) < (p.length : Int)) = false := decide_eq_false (by omega)
      go_wp2_with fail
      go_ret
      exact ⟨rfl, hB⟩

set_option maxHeartbeats 1000000 in
theorem sameLevel_any (p : Lv) (q q' : Option Addr) (n n' c c' : Nat) (w : World) (ha : RP w (.slice q n c) p) (hb : RP w (.slice q' n' c') p) : Calls Tryz.prog 127 #[.agg #[.slice q n c], .agg #[.slice q' n' c']] w fun e w' => e = .returned (.bool true) ∧ Below w.heap.size w w' := by
  have HS : Hid (∀ W, Below w.heap.size w W → Calls Tryz.prog 204 #[.slice q n c, .slice q' n' c'] W fun e w' => e = .returned (.bool true) ∧ Below W.heap.size W w') := fun W hW => sameParts_any p _ _ W (ha.on hW) (hb.on hW)
  clear ha hb
  go_enter Tryz.func127, Tryz.ntmps127
  go_wp2_with fail
  have hB := below_step (below_alloc w (.cells #[.slice q n c] 43)) (below_alloc _ (.cells #[.slice q' n' c'] 43))
  refine (HS.out _ hB).mono ?_
  rintro e w1 ⟨rfl, hb1⟩
  have HB1 := Lib.hid (below_step hB hb1)
  clear hb1 hB
  go_wp2_with fail
  go_ret
  exact ⟨rfl, HB1.out⟩

set_option maxHeartbeats 1000000 in
theorem sameLevels_any (l : List Lv) (va vb : Value) (w : World) (ha : RL ty w va l) (hb : RL ty w vb l) : Calls Tryz.prog 61 #[va, vb] w fun e w' => e = .returned (.bool true) ∧ Below w.heap.size w w' := by
  obtain ⟨q, c, rfl, hc1, hc2, -⟩ := ha.slice
  obtain ⟨q', c', rfl, hc3, hc4, -⟩ := hb.slice
  unfold maxLen at hc2 hc4
  have HA := Lib.hid ha
  have HB := Lib.hid hb
  have hne : ((l.length : Int) != (l.length : Int)) = false := by simp
  clear ha hb
  go_enter Tryz.func61, Tryz.ntmps61
  go_wp2_with fail
  clear hne
  go_loopw [5] (fun i wr => ∃ k : Nat, k ≤ l.length ∧ i = .int .i64 k ∧ Below w.heap.size w wr) (fun i _ => l.length - (intOf i).toNat)
  case atStart => exact ⟨0, Nat.zero_le _, rfl, Below.refl _ _⟩
  case round =>
    obtain ⟨k, hk, rfl, hB⟩ := hrel
    by_cases hlt : k < l.length
    · have r1 : decide ((k : Int) < (l.length : Int)) = true := decide_eq_true (by omega)
      obtain ⟨b, o, rfl, hb1, r, d, hu1, -, -, hr1⟩ := (HA.out.on hB).at_ hlt
      obtain ⟨b', o', rfl, hb2, r', d', hu2, -, -, hr2⟩ := (HB.out.on hB).at_ hlt
      have e1 := U_cell hu1
      have e2 := U_cell hu2
      have HBB := Lib.hid hB
      have HS : Hid (∀ W, Below wr.heap.size wr W → Calls Tryz.prog 127 #[.agg #[.slice r l[k].length d], .agg #[.slice r' l[k].length d']] W fun e w' => e = .returned (.bool true) ∧ Below W.heap.size W w') := fun W hW => sameLevel_any l[k] _ _ _ _ _ _ W (hr1.on hW) (hr2.on hW)
      obtain ⟨z, hz⟩ : ∃ z : Nat, l[k].length = z := ⟨_, rfl⟩
      rw [hz] at e1 e2 HS
      clear hu1 hu2 hB hr1 hr2 hz
      go_wp2_with fail
      go_region_with (go_at_call 127; refine (HS.out _ (by first | exact below_drew _ | assumption)).mono ?_; rintro e wx ⟨rfl, hbx⟩
                      have hBx : Below wr.heap.size wr wx := below_step (by first | exact below_drew _ | assumption) hbx)
      all_goals (go_wp2_with fail)
      all_goals go_roundw
      all_goals first
        | exact ⟨k + 1, by omega, by go_num, below_step HBB.out hBx⟩
        | (simp [intOf]; omega)
    · have r1 : decide ((k : Int) < (l.length : Int)) = false := decide_eq_false (by omega)
      go_wp2_with fail
      go_ret
      exact ⟨rfl, hB⟩
end Go.Proofs.YtkcmapimcgppmaaGreatDoor
end
section
namespace Go.Proofs.YtkcmapimcgppmaaGreatDoor
open Go.RowKit

set_option maxHeartbeats 2000000 in
theorem sameTerm_of (h : Hd) (x : Ts) (va vb : Value) (w : World) (ha : RM ty w va h x) (hb : RM ty w vb h x)
    (hk : ∀ W v v', RT ty W v x → RT ty W v' x → Calls Tryz.prog 20 #[v, v'] W fun e w' => e = .returned (.bool true) ∧ Below W.heap.size W w') :
    Calls Tryz.prog 16 #[va, vb] w fun e w' => e = .returned (.bool true) ∧ Below w.heap.size w w' := by
  obtain ⟨q, c, r, d, rfl, -, -, -, -, hl, hx⟩ := ha.agg
  obtain ⟨q', c', r', d', rfl, -, -, -, -, hl', hx'⟩ := hb.agg
  obtain ⟨n, hn⟩ : ∃ n, h.l.length = n := ⟨_, rfl⟩
  obtain ⟨m, hm⟩ : ∃ m, x.len = m := ⟨_, rfl⟩
  rw [hn] at hl hl' ⊢
  rw [hm] at hx hx' ⊢
  obtain ⟨k0, hk0⟩ : ∃ k, h.k = k := ⟨_, rfl⟩
  obtain ⟨n0, hn0⟩ : ∃ k, h.n = k := ⟨_, rfl⟩
  obtain ⟨a0, ha0⟩ : ∃ k, h.a = k := ⟨_, rfl⟩
  rw [hk0, hn0, ha0]
  obtain ⟨W0, hW0⟩ : ∃ W0, (w.alloc (.cells #[.int .i64 k0, .int .i64 n0, .int .i64 a0, .slice q n c, .slice r m d] 26)).alloc (.cells #[.int .i64 k0, .int .i64 n0, .int .i64 a0, .slice q' n c', .slice r' m d'] 26) = W0 := ⟨_, rfl⟩
  have hB0 : Below w.heap.size w W0 := by rw [← hW0]; exact below_step (below_alloc _ _) (below_alloc _ _)
  have hs0 : W0.heap.size = w.heap.size + 2 := by rw [← hW0]; simp
  have p1 : ∀ o v, (#[.int .i64 k0, .int .i64 n0, .int .i64 a0, .slice q n c, .slice r m d] : Array Value)[o]? = some v → U W0 w.heap.size o = some v := fun o v hv => by
    rw [← hW0]; exact U_below (below_alloc _ _) _ _ _ (by simp) (laid_cell hv)
  have p2 : ∀ o v, (#[.int .i64 k0, .int .i64 n0, .int .i64 a0, .slice q' n c', .slice r' m d'] : Array Value)[o]? = some v → U W0 (w.heap.size + 1) o = some v := fun o v hv => by
    have := laid_cell (w := w.alloc (.cells #[.int .i64 k0, .int .i64 n0, .int .i64 a0, .slice q n c, .slice r m d] 26)) (ty := 26) hv
    rw [World.size_alloc, hW0] at this
    exact this
  have c0 := U_cell (p1 0 _ rfl)
  have c1 := U_cell (p1 1 _ rfl)
  have c2 := U_cell (p1 2 _ rfl)
  have c3 := U_cell (p1 3 _ rfl)
  have c4 := U_cell (p1 4 _ rfl)
  have d0 := U_cell (p2 0 _ rfl)
  have d1 := U_cell (p2 1 _ rfl)
  have d2 := U_cell (p2 2 _ rfl)
  have d3 := U_cell (p2 3 _ rfl)
  have d4 := U_cell (p2 4 _ rfl)
  have H61 : Hid (∀ W, Below w.heap.size w W → Calls Tryz.prog 61 #[.slice q n c, .slice q' n c'] W fun e w' => e = .returned (.bool true) ∧ Below W.heap.size W w') := fun W hW => sameLevels_any h.l _ _ W (hl.on hW) (hl'.on hW)
  have H20 : Hid (∀ W, Below w.heap.size w W → Calls Tryz.prog 20 #[.slice r m d, .slice r' m d'] W fun e w' => e = .returned (.bool true) ∧ Below W.heap.size W w') := fun W hW => hk W _ _ (hx.on hW) (hx'.on hW)
  have HB0 := Lib.hid hB0
  have P1 := Lib.hid p1
  have P2 := Lib.hid p2
  have HS0 := Lib.hid hs0
  clear hl hl' hx hx' hk ha hb hn hm hk0 hn0 ha0 hB0 p1 p2 hs0
  have b0 : (k0 == k0) = true := by simp
  have b1 : (n0 == n0) = true := by simp
  have b2 : (a0 == a0) = true := by simp
  go_enter Tryz.func16, Tryz.ntmps16
  go_wp2_with fail
  refine (H61.out _ HB0.out).mono ?_
  rintro e w1 ⟨rfl, hb1⟩
  have g4 := (hb1.cell (p := ⟨w.heap.size, 4, none⟩) (by have := HS0.out; simp; omega)).trans c4
  have k4 := (hb1.cell (p := ⟨w.heap.size + 1, 4, none⟩) (by have := HS0.out; simp; omega)).trans d4
  have HB1 := Lib.hid (below_step HB0.out hb1)
  clear hb1 hW0 c0 c1 c2 c3 c4 d0 d1 d2 d3 d4
  go_wp2_with fail
  refine (H20.out _ HB1.out).mono ?_
  rintro e w2 ⟨rfl, hb2⟩
  have HB2 := Lib.hid (below_step HB1.out hb2)
  clear hb2
  go_wp2_with fail
  go_ret
  exact ⟨rfl, HB2.out⟩

set_option maxHeartbeats 2000000 in
theorem sameTerms_any (M : Nat) : ∀ (t : Ts) (va vb : Value) (w : World), t.count < M → RT ty w va t → RT ty w vb t → Calls Tryz.prog 20 #[va, vb] w fun e w' => e = .returned (.bool true) ∧ Below w.heap.size w w' := by
  induction M with
  | zero => intro t va vb w hm; omega
  | succ M ih =>
    intro t va vb w hm ha hb
    obtain ⟨q, c, rfl, hc1, hc2, -⟩ := ha.slice
    obtain ⟨q', c', rfl, hc3, hc4, -⟩ := hb.slice
    unfold maxLen at hc2 hc4
    have HA := Lib.hid ha
    have HB := Lib.hid hb
    have IH := Lib.hid ih
    have HM := Lib.hid hm
    have hne : ((t.len : Int) != (t.len : Int)) = false := by simp
    clear ha hb ih hm
    go_enter Tryz.func20, Tryz.ntmps20
    go_wp2_with fail
    clear hne
    go_loopw [5] (fun i wr => ∃ k : Nat, k ≤ t.len ∧ i = .int .i64 k ∧ Below w.heap.size w wr) (fun i _ => t.len - (intOf i).toNat)
    case atStart => exact ⟨0, Nat.zero_le _, rfl, Below.refl _ _⟩
    case round =>
      obtain ⟨k, hk, rfl, hB⟩ := hrel
      by_cases hlt : k < t.len
      · have r1 : decide ((k : Int) < (t.len : Int)) = true := decide_eq_true (by omega)
        obtain ⟨b, o, rfl, hb1, hu1, hu2, hu3, ⟨r, d, hu4, -, -, hr1⟩, ⟨s, f, hu5, -, -, hs1⟩⟩ := (HA.out.on hB).at_ hlt
        obtain ⟨b', o', rfl, hb2, hv1, hv2, hv3, ⟨r', d', hv4, -, -, hr2⟩, ⟨s', f', hv5, -, -, hs2⟩⟩ := (HB.out.on hB).at_ hlt
        have e1 := U_cell hu1
        have e2 := U_cell hu2
        have e3 := U_cell hu3
        have e4 := U_cell hu4
        have e5 := U_cell hu5
        have f1 := U_cell hv1
        have f2 := U_cell hv2
        have f3 := U_cell hv3
        have f4 := U_cell hv4
        have f5 := U_cell hv5
        have hcnt := Ts.count_kd hlt
        have HBB := Lib.hid hB
        have HS : Hid (∀ W, Below wr.heap.size wr W → Calls Tryz.prog 16 #[.agg #[.int .i64 (t.hd k).k, .int .i64 (t.hd k).n, .int .i64 (t.hd k).a, .slice r (t.hd k).l.length d, .slice s (t.kd k).len f], .agg #[.int .i64 (t.hd k).k, .int .i64 (t.hd k).n, .int .i64 (t.hd k).a, .slice r' (t.hd k).l.length d', .slice s' (t.kd k).len f']] W fun e w' => e = .returned (.bool true) ∧ Below W.heap.size W w') := fun W hW =>
          sameTerm_of (t.hd k) (t.kd k) _ _ W ⟨_, _, _, _, _, _, rfl, hr1.on hW, hs1.on hW⟩ ⟨_, _, _, _, _, _, rfl, hr2.on hW, hs2.on hW⟩ (fun W' v v' h1 h2 => IH.out (t.kd k) v v' W' (by have := HM.out; omega) h1 h2)
        obtain ⟨z, hz⟩ : ∃ z : Nat, (t.hd k).l.length = z := ⟨_, rfl⟩
        obtain ⟨y, hy⟩ : ∃ y : Nat, (t.kd k).len = y := ⟨_, rfl⟩
        rw [hz] at e4 f4 HS
        rw [hy] at e5 f5 HS
        clear hu1 hu2 hu3 hu4 hu5 hv1 hv2 hv3 hv4 hv5 hB hr1 hr2 hs1 hs2 hz hy hcnt
        go_wp2_with fail
        go_region_with (go_at_call 16; refine (HS.out _ (by first | exact below_drew _ | assumption)).mono ?_; rintro e wx ⟨rfl, hbx⟩
                        have hBx : Below wr.heap.size wr wx := below_step (by first | exact below_drew _ | assumption) hbx)
        all_goals (go_wp2_with fail)
        all_goals go_roundw
        all_goals first
          | exact ⟨k + 1, by omega, by go_num, below_step HBB.out hBx⟩
          | (simp [intOf]; omega)
      · have r1 : decide ((k : Int) < (t.len : Int)) = false := decide_eq_false (by omega)
        go_wp2_with fail
        go_ret
        exact ⟨rfl, hB⟩
theorem sameTerm_any (h : Hd) (x : Ts) (va vb : Value) (w : World) (ha : RM ty w va h x) (hb : RM ty w vb h x) : Calls Tryz.prog 16 #[va, vb] w fun e w' => e = .returned (.bool true) ∧ Below w.heap.size w w' :=
  sameTerm_of h x va vb w ha hb fun W v v' h1 h2 => sameTerms_any _ x v v' W (Nat.lt_succ_self _) h1 h2
end Go.Proofs.YtkcmapimcgppmaaGreatDoor
end
section
namespace Go.Proofs.YtkcmapimcgppmaaGreatDoor
open Go.RowKit

theorem rep_tm {F : Mem} {w : World} {t : Tm} {v : Value} (h : RepV (argGh F w) (tmL t) [v]) : RMx F w.heap.size v t.h t.x := by
  obtain ⟨ys, e, h⟩ := h
  obtain ⟨-, _, rfl, -, _, rfl, -, _, rfl, -, v1, _, rfl, h1, -, -, v2, _, rfl, h2, -, rfl⟩ := h
  cases e
  obtain ⟨p, n, c, rfl, -⟩ := id h1
  obtain ⟨p', n', c', rfl, -⟩ := id h2
  exact ⟨p, n, c, p', n', c', rfl, h1, h2⟩
theorem tm_rep {g : Gh} {t : Tm} {v : Value} (h : RMx g.F g.w.heap.size v t.h t.x) : RepV g (tmL t) [v] := by
  obtain ⟨p, n, c, p', n', c', rfl, h1, h2⟩ := h
  exact ⟨_, rfl, rfl, _, rfl, rfl, _, rfl, rfl, _, rfl, lvDs_good _, _, _, rfl, h1, Gh.Ow_none, tDs_good _, _, _, rfl, h2, Gh.Ow_none, rfl⟩
theorem k218 (k : Int) (t : Ts) (b : Tm) : HH 218 [.agg (.row none 5 26 (tDs ty t) .nil), iA k, tmL b] (tmL (aboveT k t b)) := by
  refine ⟨code_of Tryz.func218 (by decide) rfl, rfl, fun F w vs hF hG hv => ?_⟩
  obtain ⟨u, v, z, rfl, h1, h2, h3⟩ := list3 hv
  rw [iA_eq h2]
  obtain ⟨ys, e1, -, v1, _, rfl, h4, -, rfl⟩ := h1
  cases e1
  have hb := rep_tm h3
  obtain ⟨p, n, c, p', n', c', rfl, -, -⟩ := id hb
  refine (above_any k v1 t _ _ _ _ _ b w F hF h4 hb).mono ?_
  rintro e w' ⟨v, rfl, h5, h6⟩
  exact ⟨v, fun _ => [], rfl, h5, tm_rep h6, fun k b hb => (by cases hb), fun k k' b hb => (by cases hb)⟩
theorem rows_good (l : List Ts) : (rowsDs l).good := by
  induction l with
  | nil => trivial
  | cons t r ih => exact ⟨tDs_good t, trivial, ih⟩
theorem k166 (l : List Ts) (hl : l.length ≤ 4000000) (hn : (catT l).len ≤ 4000000) : HH 166 [.c (.row none 1 22 (rowsDs l) .nil)] (.c (.row none 5 26 (tDs ty (catT l)) .nil)) := by
  refine ⟨code_of Tryz.func166 (by decide) rfl, rfl, fun F w vs hF hG hv => ?_⟩
  obtain ⟨u, rfl, h1⟩ := list1 hv
  obtain ⟨-, v1, _, e1, h4, -, -⟩ := h1
  cases e1
  refine (concat_any l u w F hF h4 hl hn).mono ?_
  rintro e w' ⟨v, rfl, h5, h6⟩
  exact ⟨v, fun _ => [], rfl, h5, ⟨tDs_good _, v, [], rfl, h6, Gh.Ow_none, rfl⟩, fun k b hb => (by cases hb), fun k k' b hb => (by cases hb)⟩
theorem ptDs_good (p : Lv) : (ptDs p).good := by
  induction p with
  | nil => trivial
  | cons a r ih => exact ⟨rfl, rfl, ih⟩
theorem k202 (p : Lv) (hn : p.length ≤ 2000000) : HH 202 [.c (.row none 2 77 (ptDs p) .nil)] (.c (.row none 2 77 (ptDs p) .nil)) := by
  refine ⟨code_of Tryz.func202 (by decide) rfl, rfl, fun F w vs hF hG hv => ?_⟩
  obtain ⟨u, rfl, h1⟩ := list1 hv
  obtain ⟨-, v1, _, e1, h4, -, -⟩ := h1
  cases e1
  refine (cloneParts_any p u w (h4.mono (fun b o v _ hv => hF b o v hv) (Nat.le_refl _)) hn).mono ?_
  rintro e w' ⟨v, S, rfl, h5, h6, h7⟩
  obtain ⟨v', _, e2, h8, -⟩ := Vs.res (F := F) (fp := fun _ => []) (Nat.le_refl _) h6
  cases e2
  exact ⟨v, fun _ => [], rfl, h5, ⟨ptDs_good p, v, [], rfl, h8, Gh.Ow_none, rfl⟩, fun k b hb => (by cases hb), fun k k' b hb => (by cases hb)⟩
theorem k16 (t : Tm) : HH 16 [tmL t, tmL t] (.v (.bool true)) := by
  refine ⟨code_of Tryz.func16 (by decide) rfl, rfl, fun F w vs hF hG hv => ?_⟩
  obtain ⟨u, v, rfl, h1, h2⟩ := list2 hv
  refine (sameTerm_any t.h t.x u v w (tmA_rm hF h1) (tmA_rm hF h2)).mono ?_
  rintro e w' ⟨rfl, h5⟩
  exact ⟨_, fun _ => [], rfl, h5, rfl, fun k b hb => (by cases hb), fun k k' b hb => (by cases hb)⟩
theorem k12n : HH 12 [.v (.slice none 0 0)] (tmO (tup .nil)) := by
  obtain ⟨h1, h2, h3⟩ := h12 .nil trivial (by decide)
  refine ⟨h1, h2, fun F w vs hF hG hv => h3 F w vs hF hG ?_⟩
  obtain ⟨u, rfl, h4⟩ := list1 hv
  have e : u = .slice none 0 0 := by simpa [RepV] using h4
  subst e
  exact ⟨_, [], rfl, ⟨trivial, _, [], rfl, Rd.none_ _ _ _, Gh.Ow_none, rfl⟩, rfl⟩

/-- Numbers that a word holds. -/
def lvB (l : List Lv) : Bool := l.all fun p => p.all fun q => inB q.1 && inB q.2
def hdB (h : Hd) : Bool := inB h.k && (inB h.n && (inB h.a && lvB h.l))
theorem hdB_ok {h : Hd} (hb : hdB h = true) : h.fits := by
  simp only [hdB, Bool.and_eq_true] at hb
  refine ⟨inB_ok hb.1, inB_ok hb.2.1, inB_ok hb.2.2.1, fun p hp q hq => ?_⟩
  have := List.all_eq_true.1 (List.all_eq_true.1 hb.2.2.2 p hp) q hq
  simp only [Bool.and_eq_true] at this
  exact ⟨inB_ok this.1, inB_ok this.2⟩
def tsFit : Ts → Bool
  | .nil => true
  | .cons h x r => hdB h && (tsFit x && tsFit r)
theorem tsFit_ok : ∀ {t : Ts}, tsFit t = true → t.fits
  | .nil, _ => trivial
  | .cons h x r, hb => by
    simp only [tsFit, Bool.and_eq_true] at hb
    exact ⟨hdB_ok hb.1, tsFit_ok hb.2.1, tsFit_ok hb.2.2⟩
def tmFit (t : Tm) : Bool := (hdB t.h && tsFit t.x) && decide (t.size ≤ 1000000)
theorem tmFit_ok {t : Tm} (h : tmFit t = true) : t.fits ∧ t.size ≤ 1000000 := by
  simp only [tmFit, Bool.and_eq_true, decide_eq_true_eq] at h
  exact ⟨⟨hdB_ok h.1.1, tsFit_ok h.1.2⟩, h.2⟩

def liftB (a : AV) : Option AV := match a with
  | .cons (.agg d) (.cons (.v (.int .i64 n)) (.cons (.v (.int .i64 f)) .nil)) => match tmB d with
    | some t => if tmFit t then some (tmL (t.lift n f)) else none
    | none => none
  | _ => none
theorem liftB_ok {a r : AV} (h : liftB a = some r) : Holds Tryz.prog KA 60 a r ∧ Holds Tryz.prog KA 63 a r := by
  unfold liftB at h
  split at h
  · rename_i d n f
    split at h
    · rename_i t ht
      split at h
      · rename_i hf
        cases h
        obtain ⟨h1, h2⟩ := tmFit_ok hf
        rw [tmB_ok ht]
        exact ⟨(h60 t n f h1 h2).frz, (h63 t n f h1 (by omega)).frz⟩
      · cases h
    · cases h
  · cases h
def tupB (a : AV) : Option AV := match a with
  | .cons (.c d) .nil => match tsB d with
    | some t => if tsFit t && decide (t.size ≤ 1000000) then some (tmL (tup t)) else none
    | none => none
  | .cons (.v (.slice none 0 0)) .nil => some (tmL (tup .nil))
  | _ => none
theorem tupB_ok {a r : AV} (h : tupB a = some r) : Holds Tryz.prog KA 12 a r := by
  unfold tupB at h
  split at h
  · rename_i d
    split at h
    · rename_i t ht
      split at h
      · rename_i hf
        cases h
        simp only [Bool.and_eq_true, decide_eq_true_eq] at hf
        rw [tsB_ok ht]
        exact (h12 t (tsFit_ok hf.1) hf.2).frz
      · cases h
    · cases h
  · cases h; exact k12n.frz
  · cases h
def sliceB' (r : AV) : Bool := match r with
  | .c (.row none _ _ _ .nil) => true
  | .c (.nilr _ _ .nil) => true
  | .v (.slice none 0 0) => true
  | _ => false
theorem sliceB'_ok {r : AV} (h : sliceB' r = true) : r.frz = r ∧ ∀ g v, RepV g r [v] → ∃ p n c, v = .slice p n c := by
  unfold sliceB' at h
  split at h
  · refine ⟨rfl, ?_⟩
    rintro g v ⟨-, v1, _, e, ⟨p, n, c, rfl, -⟩, -⟩
    cases e
    exact ⟨p, n, c, rfl⟩
  · refine ⟨rfl, ?_⟩
    rintro g v ⟨_, e, -⟩
    cases e
    exact ⟨_, _, _, rfl⟩
  · refine ⟨rfl, fun g v h => ?_⟩
    cases h
    exact ⟨_, _, _, rfl⟩
  · cases h
def triedB (call : Nat → AV → Option AV) (a : AV) : Option AV := match a with
  | .cons (.fn (.func g) x y) .nil => if x.isLL && (x.unl && y.unl) then match call g (x.app y) with
      | some r => if sliceB' r then some r else none
      | none => none
    else none
  | _ => none
theorem triedB_ok {call : Nat → AV → Option AV} (hc : ∀ f a r, call f a = some r → Holds Tryz.prog KA f a r) {a r : AV} (h : triedB call a = some r) : Holds Tryz.prog KA 79 a r ∧ Holds Tryz.prog KA 112 a r := by
  unfold triedB at h
  split at h
  · split at h
    · rename_i hb
      simp only [Bool.and_eq_true] at hb
      split at h
      · rename_i r' hr
        split at h
        · rename_i hs
          cases h
          obtain ⟨h1, h2⟩ := sliceB'_ok hs
          have h3 := triedC_holds hb.1 hb.2.1 hb.2.2 (hc _ _ _ hr) h2
          have h4 := triedT_holds hb.1 hb.2.1 hb.2.2 (hc _ _ _ hr) h2
          rw [h1] at h3 h4
          exact ⟨h3, h4⟩
        · cases h
      · cases h
    · cases h
  · cases h
def aboveB (a : AV) : Option AV := match a with
  | .cons (.agg d) (.cons (.v (.int .i64 k)) (.cons (.agg b) .nil)) => match tsB d, tmB b with
    | some t, some b => some (tmL (aboveT k t b))
    | _, _ => none
  | _ => none
theorem tsB_d {d : Dc} {t : Ts} (h : tsB d = some t) : d = .row none 5 26 (tDs ty t) .nil := by
  have := tsB_ok h
  injection this
theorem aboveB_ok {a r : AV} (h : aboveB a = some r) : Holds Tryz.prog KA 218 a r := by
  unfold aboveB at h
  split at h
  · split at h
    · rename_i t b ht hb
      cases h
      rw [tmB_ok hb, tsB_d ht]
      exact k218 _ t b
    · cases h
  · cases h
def rowsOf : Ds → List Ts
  | .row _ _ x _ r => tsOf x :: rowsOf r
  | _ => []
def concatB (a : AV) : Option AV := match a with
  | .cons (.c (.row none 1 22 x .nil)) .nil => let l := rowsOf x; if x.eqB (rowsDs l) && (decide (l.length ≤ 4000000) && decide ((catT l).len ≤ 4000000)) then some (.c (.row none 5 26 (tDs ty (catT l)) .nil)) else none
  | _ => none
theorem concatB_ok {a r : AV} (h : concatB a = some r) : Holds Tryz.prog KA 166 a r := by
  unfold concatB at h
  split at h
  · rename_i x
    simp only at h
    obtain ⟨l, hl⟩ : ∃ l, rowsOf x = l := ⟨_, rfl⟩
    rw [hl] at h
    split at h
    · rename_i hb
      cases h
      simp only [Bool.and_eq_true, decide_eq_true_eq] at hb
      rw [Ds.eqB_ok hb.1]
      exact k166 l hb.2.1 hb.2.2
    · cases h
  · cases h
def cloneB (a : AV) : Option AV := match a with
  | .cons (.c (.row none 2 77 x .nil)) .nil => let p := ptOf x; if x.eqB (ptDs p) && decide (p.length ≤ 2000000) then some (.c (.row none 2 77 (ptDs p) .nil)) else none
  | _ => none
theorem cloneB_ok {a r : AV} (h : cloneB a = some r) : Holds Tryz.prog KA 202 a r := by
  unfold cloneB at h
  split at h
  · rename_i x
    simp only at h
    obtain ⟨p, hp⟩ : ∃ p, ptOf x = p := ⟨_, rfl⟩
    rw [hp] at h
    split at h
    · rename_i hb
      cases h
      simp only [Bool.and_eq_true, decide_eq_true_eq] at hb
      rw [Ds.eqB_ok hb.1]
      exact k202 p hb.2
    · cases h
  · cases h
def sameB (a : AV) : Option AV := match a with
  | .cons (.agg x) (.cons (.agg y) .nil) => match tmB x with
    | some _ => if x.eqB y then some (.v (.bool true)) else none
    | none => none
  | _ => none
theorem sameB_ok {a r : AV} (h : sameB a = some r) : Holds Tryz.prog KA 16 a r := by
  unfold sameB at h
  split at h
  · split at h
    · rename_i t ht
      split at h
      · rename_i hb
        cases h
        rw [← Dc.eqB_ok hb, tmB_ok ht]
        exact k16 t
      · cases h
    · cases h
  · cases h
/-- What is known by hand. -/
def hand : Hand
  | 60 => some fun _ => liftB
  | 63 => some fun _ => liftB
  | 12 => some fun _ => tupB
  | 79 => some triedB
  | 112 => some triedB
  | 218 => some fun _ => aboveB
  | 166 => some fun _ => concatB
  | 202 => some fun _ => cloneB
  | 16 => some fun _ => sameB
  | _ => none
theorem hand_ok : ∀ call, (∀ f a r, call f a = some r → Holds Tryz.prog KA f a r) → ∀ f g, hand f = some g → ∀ a r, g call a = some r → Holds Tryz.prog KA f a r := by
  intro call hc f g hg a r h
  unfold hand at hg
  split at hg
  all_goals cases hg
  · exact (liftB_ok h).1
  · exact (liftB_ok h).2
  · exact tupB_ok h
  · exact (triedB_ok hc h).1
  · exact (triedB_ok hc h).2
  · exact aboveB_ok h
  · exact concatB_ok h
  · exact cloneB_ok h
  · exact sameB_ok h
theorem names_ok (f : Nat) (fn : Func) (h : Tryz.prog.funcs[f]? = some fn) : fn.name ≠ "runtime.NumGoroutine" := by
  have : (Tryz.prog.funcs.toList.all fun fn => fn.name != "runtime.NumGoroutine") = true := by kernel_rfl
  have := List.all_eq_true.1 this fn (List.mem_of_getElem? (by simpa using h))
  simpa using this
/-- What the worker gives holds. -/
theorem work (n : Nat) {f : Nat} {a r : AV} (h : (mach Tryz.prog tb hand n).1 f a = some r) : Holds Tryz.prog KA f a r := (mach_ok tbOk stKA mixed names_ok hand_ok n).1 f a r h
end Go.Proofs.YtkcmapimcgppmaaGreatDoor
end
section
namespace Go.Proofs.YtkcmapimcgppmaaGreatDoor
open Go.RowKit
theorem g9 : HH 9 [] (.v (.bool true)) := work 100000 (by kernel_rfl)
end Go.Proofs.YtkcmapimcgppmaaGreatDoor
end
section
namespace Go.Proofs.YtkcmapimcgppmaaGreatDoor
open Go.RowKit
attribute [local simp] ty_p ty_l ty_t kH tDs lvDs Tm.ts finH elemH ac_skip ac_label ac_region ac_seq ac_cond ac_block ac_loop ac_exit ac_ret seqK_n seqK_r seqK_e vo_nil vo_cons blkK loopK callOf vout aout abuiltin aslice ev startSt nmOf St.out putE updo upd contOf freshC K0 asC fillD fieldOf rowD astore aapp srcOf elsOf tb Dc.tk Dc.dp Dc.over Dc.app Dc.ln Dc.ds Dc.sing Dc.cont AV.cont Ds.hd Value.oneCell' retK resOf one1 AV.imp Dc.imp φOf calleeOf AV.isLL AV.list AV.app AV.arg AV.isL AV.ren Dc.ren Dc.lent tmC tmA tsA iA lo? abin AV.nth Dc.own Dc.toks
theorem g129 (k : Int) (x : Ds) : HH 129 [iA k, .c (.row none 5 26 x .nil)] (.agg (.lit (.int .i64 k) (.lit (.int .i64 0) (.lit (.int .i64 0) (.nilr 1 43 (.row none 5 26 x .nil)))))) := by
  refine ab Tryz.func129 Tryz.ntmps129 Tryz.results129 rfl (by decide) (by simp) rfl rfl ?_
  simp
  exact ⟨[], by simp⟩
theorem g62 (n : Int) : HH 62 [iA n] (.agg (.lit (.int .i64 22) (.lit (.int .i64 n) (.lit (.int .i64 0) (.nilr 1 43 (.nilr 5 26 .nil)))))) := by
  refine ab Tryz.func62 Tryz.ntmps62 Tryz.results62 rfl (by decide) (by simp) rfl rfl ?_
  simp
  exact ⟨[], by simp⟩
theorem g65 (k n : Int) : HH 65 [iA k, iA n] (.agg (.lit (.int .i64 23) (.lit (.int .i64 k) (.lit (.int .i64 n) (.nilr 1 43 (.nilr 5 26 .nil)))))) := by
  refine ab Tryz.func65 Tryz.ntmps65 Tryz.results65 rfl (by decide) (by simp) rfl rfl ?_
  simp
  exact ⟨[], by simp⟩
theorem g66 (k : Int) (t : Tm) : HH 66 [iA k, tmL t] (tmL ⟨kH k, t.ts⟩) := by
  refine ab Tryz.func66 Tryz.ntmps66 Tryz.results66 rfl (by decide) (by simp) rfl rfl ?_
  simp
  refine asks (g129 k (tDs ty t.ts)) ?_ ?_ ?_ <;> simp
  exact ⟨[], by simp⟩
theorem g64 (k : Int) (t u : Tm) : HH 64 [iA k, tmL t, tmL u] (tmL ⟨kH k, .cons t.h t.x u.ts⟩) := by
  refine ab Tryz.func64 Tryz.ntmps64 Tryz.results64 rfl (by decide) (by simp) rfl rfl ?_
  simp
  refine asks (g129 k (tDs ty (.cons t.h t.x u.ts))) ?_ ?_ ?_ <;> simp
  exact ⟨[], by simp⟩
theorem tDs_tl (h : Hd) (x r : Ts) : Ds.lit (.int .i64 h.k) (.lit (.int .i64 h.n) (.lit (.int .i64 h.a) (.row 1 43 (lvDs ty h.l) .nil (.row 5 26 (tDs ty x) .nil (tDs ty r))))) = tDs ty (.cons h x r) := rfl
theorem parts_len : ∀ (n : Nat) (t : Tm), (partsT n t).len = n
  | 0, _ => rfl
  | 1, _ => rfl
  | n + 2, t => by simp [partsT, Ts.len, parts_len (n + 1)]
theorem kid_fits (k : Int) (t : Tm) (hk : 0 ≤ k ∧ k ≤ 100) (h : t.fits) : Tm.fits ⟨kH k, t.ts⟩ :=
  ⟨⟨⟨by show -9223372036854775808 ≤ k; omega, by show k ≤ 9223372036854775807; omega⟩, ⟨by show (-9223372036854775808 : Int) ≤ 0; decide, by show (0 : Int) ≤ 9223372036854775807; decide⟩, ⟨by show (-9223372036854775808 : Int) ≤ 0; decide, by show (0 : Int) ≤ 9223372036854775807; decide⟩, fun p hp => by cases hp⟩, h.1, h.2, trivial⟩
theorem kid_size (k : Int) (t : Tm) : Tm.size ⟨kH k, t.ts⟩ = t.size + 1 := by
  simp [Tm.size, Tm.ts, Ts.size, kH, lvSize]; omega
theorem g21 : ∀ (m : Nat) (n : Int) (t : Tm), n.toNat = m → t.fits → n ≤ 12 → t.size + n.toNat ≤ 1000000 → HH 21 [tmL t, iA n] (tsA none (partsT n.toNat t)) := by
  intro m
  induction m with
  | zero =>
    intro n t hm hf hn hs
    refine ab Tryz.func21 Tryz.ntmps21 Tryz.results21 rfl (by decide) (by simp) rfl rfl ?_
    rw [hm]
    simp [show n < 1 by omega, partsT]
    exact ⟨[], by simp⟩
  | succ m ih =>
    intro n t hm hf hn hs
    refine ab Tryz.func21 Tryz.ntmps21 Tryz.results21 rfl (by decide) (by simp) rfl rfl ?_
    by_cases h1 : n = 1
    · subst h1
      simp
      refine asks (h63' t hf (by omega)) ?_ ?_ ?_ <;> simp
      exact ⟨rfl, [], by simp⟩
    · have hw : IntKind.i64.wrap (n - 1) = n - 1 := by rw [IntKind.wrap_i64]; omega
      obtain ⟨k, rfl⟩ : ∃ k, m = k + 1 := ⟨m - 1, by omega⟩
      have hk : (n - 1).toNat = k + 1 := by omega
      have hr := ih (n - 1) ⟨kH 15, t.ts⟩ (by omega) (kid_fits 15 t (by decide) hf) (by omega) (by rw [kid_size]; omega)
      rw [hk] at hr
      have hl : (tDs ty (partsT (k + 1) ⟨kH 15, t.ts⟩)).len = (k + 1) * 5 := by rw [tDs_len, parts_len]
      rw [hm]
      simp [h1, show ¬ n < 1 by omega]
      refine ⟨by kernel_rfl, ?_⟩
      refine asks (h63' t hf (by omega)) ?_ ?_ ?_ <;> simp
      refine asks (g66 14 t) ?_ ?_ ?_ <;> simp
      refine asks (h63' t hf (by omega)) ?_ ?_ ?_ <;> simp
      refine asks (g66 15 t) ?_ ?_ ?_ <;> simp
      refine asks hr ?_ ?_ ?_ <;> simp [hw]
      refine ⟨?_, ?_, [], by simp⟩
      · exact (show 5 + (tDs ty (partsT (k + 1) ⟨kH 15, t.ts⟩)).len ≤ 1000000000 by omega)
      · rw [Ds.app_nil]; rfl
end Go.Proofs.YtkcmapimcgppmaaGreatDoor
end
section
namespace Go.Proofs.YtkcmapimcgppmaaGreatDoor
open Go.RowKit
attribute [local simp] ty_p ty_l ty_t kH tDs lvDs Tm.ts finH elemH ac_skip ac_label ac_region ac_seq ac_cond ac_block ac_loop ac_exit ac_ret seqK_n seqK_r seqK_e vo_nil vo_cons blkK loopK callOf vout aout abuiltin aslice ev startSt nmOf St.out putE updo upd contOf freshC K0 asC fillD fieldOf rowD astore aapp srcOf elsOf tb Dc.tk Dc.dp Dc.over Dc.app Dc.ln Dc.ds Dc.sing Dc.cont AV.cont Ds.hd Value.oneCell' retK resOf one1 AV.imp Dc.imp φOf calleeOf AV.isLL AV.list AV.app AV.arg AV.isL AV.ren Dc.ren Dc.lent tmC tmA tsA iA lo? abin AV.nth Dc.own Dc.toks stOf envOf bxOf τOf
theorem Ds.dp_app (x y : Ds) : (x.app y).dp x.len = y := by
  induction x with
  | nil => rfl
  | lit v r ih => exact ih
  | row sz e x s r _ _ ih => exact ih
theorem dp_mid (a r : Ts) : (tDs ty (a.app r)).dp (a.len * 5) = tDs ty r := by
  rw [tDs_app, ← tDs_len ty, Ds.dp_app]
theorem app_fits {h : Hd} {y r : Ts} : ∀ {a : Ts}, (a.app (.cons h y r)).fits → h.fits ∧ y.fits
  | .nil, hf => ⟨hf.1, hf.2.1⟩
  | .cons _ _ _, hf => app_fits hf.2.2
theorem app_size {h : Hd} {y r : Ts} : ∀ {a : Ts}, lvSize h.l + y.size + 1 ≤ (a.app (.cons h y r)).size
  | .nil => by simp only [Ts.app, Ts.size]; omega
  | .cons _ _ a => by have := app_size (h := h) (y := y) (r := r) (a := a); simp only [Ts.app, Ts.size]; omega
def st19 (b : Ts) (p x : Tm) (a : Ts) : St := stOf [(1, tsA none b), (5, .bx 6 0), (6, .bx 7 0), (7, .c (.blk 12 (a.len + 1) 5 26 (.seg none (tDs ty (.cons p.h p.x a)) .nil) .nil)), (8, iA a.len)] [(6, 26, tmC none none x.h x.x), (7, 26, .lit (.int .i64 0) (.lit (.int .i64 0) (.lit (.int .i64 0) (.nilr 1 43 (.nilr 5 26 .nil)))))] [(12, a.len + 1)]
theorem g19 (p : Tm) (b : Ts) (x : Tm) (hp : p.fits) (hb : b.fits) (hx : x.fits) (hs : p.size + b.size + x.size ≤ 1000000) (hl : b.len ≤ 1000000) : HH 19 [tmL p, tsA none b, tmL x] (tmL (caseT p b x)) := by
  refine ab Tryz.func19 Tryz.ntmps19 Tryz.results19 rfl (by decide) (by simp) rfl rfl ?_
  simp
  refine asks (h63' p hp (by omega)) ?_ ?_ ?_ <;> simp
  refine lp (α := { q : Ts × Ts // q.1.app q.2 = b }) (fun q => st19 b p x q.1.1) (fun q => q.1.2.len) ⟨(.nil, b), rfl⟩ ?_ ?_
  · refine le_of [((12, 0), [(12, 0)])] ?_ ?_ ?_ <;> simp [Ts.len, AV.ok, Dc.ok]
  · rintro ⟨⟨a, r⟩, hq⟩
    cases r with
    | nil =>
      have e : a = b := by rw [← hq]; exact (Ts.app_nil a).symm
      subst e
      simp [st19, tDs_len]
      refine asks (h63' x hx (by omega)) ?_ ?_ ?_ <;> simp
      refine ⟨?_, ⟨rfl, rfl, rfl, rfl, (tDs_app ty (.cons p.h p.x a) x.ts).symm⟩, [], by simp⟩
      exact (show (tDs ty (.cons p.h p.x a)).len ≤ 999999995 by rw [tDs_len]; show (a.len + 1) * 5 ≤ _; omega)
    | cons h y r =>
      have h1 : a.len < b.len := by rw [← hq]; simp [Ts.app_len, Ts.len]
      have h2 : (tDs ty b).dp (a.len * 5) = tDs ty (.cons h y r) := by rw [← hq]; exact dp_mid a _
      have h3 : h.fits ∧ y.fits := app_fits (a := a) (by rw [hq]; exact hb)
      have h4 : lvSize h.l + y.size + 1 ≤ b.size := by rw [← hq]; exact app_size
      simp [st19, tDs_len, h1, h2]
      refine ⟨by omega, ?_⟩
      refine asks (h63' ⟨h, y⟩ h3 (by show lvSize h.l + y.size ≤ 2000000; omega)) ?_ ?_ ?_ <;> simp
      refine ⟨?_, a.app (.cons h y .nil), r, by simp [Ts.len], by rw [Ts.app_assoc]; exact hq, ?_⟩
      · exact (show (tDs ty (.cons p.h p.x a)).len ≤ 999999995 by rw [tDs_len]; show (a.len + 1) * 5 ≤ _; omega)
      · have hw : IntKind.i64.wrap ((a.len : Int) + 1) = a.len + 1 := by rw [IntKind.wrap_i64]; omega
        refine le_of [((12, 0), [(12, 0)])] ?_ ?_ ?_ <;> simp [Ts.len, Ts.app_len, AV.ok, Dc.ok, hw]
        exact (tDs_app ty (.cons p.h p.x a) (.cons h y .nil)).symm
end Go.Proofs.YtkcmapimcgppmaaGreatDoor
end
section
namespace Go.Proofs.YtkcmapimcgppmaaGreatDoor
open Go.RowKit
attribute [local simp] ty_p ty_l ty_t kH tDs lvDs Tm.ts finH elemH ac_skip ac_label ac_region ac_seq ac_cond ac_block ac_loop ac_exit ac_ret seqK_n seqK_r seqK_e vo_nil vo_cons blkK loopK callOf vout aout abuiltin aslice ev startSt nmOf St.out putE updo upd contOf freshC K0 asC fillD fieldOf rowD astore aapp srcOf elsOf tb Dc.tk Dc.dp Dc.over Dc.app Dc.ln Dc.ds Dc.sing Dc.cont AV.cont Ds.hd Value.oneCell' retK resOf one1 AV.imp Dc.imp φOf calleeOf AV.isLL AV.list AV.app AV.arg AV.isL AV.ren Dc.ren Dc.lent tmC tmA tsA iA lo? abin AV.nth Dc.own Dc.toks
theorem g59 (k : Int) (x : Ts) (hk : 0 ≤ k ∧ k ≤ 100) (hf : x.fits) (hs : x.size ≤ 1000000) : HH 59 [iA k, tsA none x] (tmO ⟨kH k, x⟩) := by
  refine ab Tryz.func59 Tryz.ntmps59 Tryz.results59 rfl (by decide) (by simp) rfl rfl ?_
  simp
  refine asks (h60' ⟨kH k, x⟩ ⟨kH_fits hk, hf⟩ (by show lvSize [] + x.size ≤ 1000000; simp [lvSize]; exact hs)) ?_ ?_ ?_ <;> simp
  exact ⟨[((0, 0), [(9, 0)]), ((0, 1), [(9, 1)])], by simp⟩
theorem g92 (n : Int) : HH 92 [iA n] (.agg (.lit (.int .i64 1) (.lit (.int .i64 n) (.lit (.int .i64 0) (.nilr 1 43 (.nilr 5 26 .nil)))))) := by
  refine ab Tryz.func92 Tryz.ntmps92 Tryz.results92 rfl (by decide) (by simp) rfl rfl ?_
  simp
  exact ⟨[], by simp⟩
theorem g57 (n : Int) : HH 57 [iA n] (.agg (.lit (.int .i64 22) (.lit (.int .i64 n) (.lit (.int .i64 0) (.nilr 1 43 (.nilr 5 26 .nil)))))) := by
  refine ab Tryz.func57 Tryz.ntmps57 Tryz.results57 rfl (by decide) (by simp) rfl rfl ?_
  simp
  exact ⟨[], by simp⟩
theorem g58 (k n : Int) : HH 58 [iA k, iA n] (.agg (.lit (.int .i64 23) (.lit (.int .i64 k) (.lit (.int .i64 n) (.nilr 1 43 (.nilr 5 26 .nil)))))) := by
  refine ab Tryz.func58 Tryz.ntmps58 Tryz.results58 rfl (by decide) (by simp) rfl rfl ?_
  simp
  exact ⟨[], by simp⟩
theorem size_app : ∀ (a b : Ts), (a.app b).size = a.size + b.size
  | .nil, b => by simp [Ts.app, Ts.size]
  | .cons h x a, b => by simp only [Ts.app, Ts.size, size_app a b]; omega
theorem fits_app : ∀ {a b : Ts}, a.fits → b.fits → (a.app b).fits
  | .nil, _, _, h => h
  | .cons _ _ _, _, h, k => ⟨h.1, h.2.1, fits_app h.2.2 k⟩
theorem g14 (p : Tm) (b : Ts) (x : Tm) (hp : p.fits) (hb : b.fits) (hx : x.fits) (hs : p.size + b.size + x.size ≤ 900000) (hl : b.len ≤ 900000) : HH 14 [tmL p, tsA none b, tmL x] (tmO (caseT p b x)) := by
  refine ab Tryz.func14 Tryz.ntmps14 Tryz.results14 rfl (by decide) (by simp) rfl rfl ?_
  simp
  refine ⟨by kernel_rfl, by rw [tDs_len]; omega, by rw [tDs_len]; omega, ?_⟩
  have hx' : x.ts.size = x.size + 1 := by simp only [Tm.ts, Ts.size, Tm.size]; omega
  have hA := tDs_app ty b x.ts
  refine asks (g59 24 (.cons p.h p.x (b.app x.ts)) (by decide) ⟨hp.1, hp.2, fits_app hb ⟨hx.1, hx.2, trivial⟩⟩ (by simp only [Ts.size, size_app]; unfold Tm.size at hs hx'; omega)) ?_ ?_ ?_ <;> simp
  · exact .inl hA.symm
  · rw [tDs_len]
    simp
    exact ⟨[((0, 0), [(16, 0)]), ((0, 1), [(16, 1)])], ⟨rfl, rfl, rfl, ⟨rfl, by simp⟩, rfl, by simp⟩, by simp⟩
end Go.Proofs.YtkcmapimcgppmaaGreatDoor
end
section
namespace Go.Proofs.YtkcmapimcgppmaaGreatDoor
open Go.RowKit

theorem tm_arg {w : World} {t : Tm} {v : Value} (h : RM ty w v t.h t.x) : RepV (argGh (U w) w) (tmL t) [v] := tm_rep (g := argGh (U w) w) h
theorem ts_arg {w : World} {t : Ts} {v : Value} (h : RT ty w v t) : RepV (argGh (U w) w) (tsA none t) [v] := ⟨tDs_good t, v, [], rfl, h, Gh.Ow_none, rfl⟩
theorem i_arg {w : World} (n : Int) : RepV (argGh (U w) w) (iA n) [.int .i64 n] := rfl
theorem arg1 {g : Gh} {a : AV} {u : Value} (h : RepV g a [u]) : RepV g (.list [a]) [u] := ⟨u, [], rfl, h, rfl⟩
theorem arg2 {g : Gh} {a b : AV} {u v : Value} (h : RepV g a [u]) (k : RepV g b [v]) : RepV g (.list [a, b]) [u, v] := ⟨u, [v], rfl, h, arg1 k⟩
theorem arg3 {g : Gh} {a b c : AV} {u v z : Value} (h : RepV g a [u]) (k : RepV g b [v]) (l : RepV g c [z]) : RepV g (.list [a, b, c]) [u, v, z] := ⟨u, [v, z], rfl, h, arg2 k l⟩
theorem res_U {w w' : World} (hb : Below w.heap.size w w') {b o : Nat} {u : Value} (h : (if b < w.heap.size then U w b o else U w' b o) = some u) : U w' b o = some u := by
  split at h
  · rename_i hlt; exact U_below hb _ _ _ hlt h
  · exact h
theorem HH.val {f : Nat} {ps : List AV} {x : Value} (h : HH f ps (.v x)) {w : World} {vs : List Value} (hG : KA w) (hv : RepV (argGh (U w) w) (.list ps) vs) : Calls Tryz.prog f vs.toArray w fun e w' => e = .returned x ∧ Below w.heap.size w w' :=
  (h.2.2 (U w) w vs (fun _ _ _ h => h) hG hv).mono fun e w' ⟨v, fp, h1, h2, h3, _⟩ => by
    have e2 : v = x := by simpa [RepV] using h3
    subst e2
    exact ⟨h1, h2⟩
theorem HH.lent {f : Nat} {ps : List AV} {t : Tm} (h : HH f ps (tmL t)) {w : World} {vs : List Value} (hG : KA w) (hv : RepV (argGh (U w) w) (.list ps) vs) : Calls Tryz.prog f vs.toArray w fun e w' => ∃ v, e = .returned v ∧ Below w.heap.size w w' ∧ RM ty w' v t.h t.x :=
  (h.2.2 (U w) w vs (fun _ _ _ h => h) hG hv).mono fun e w' ⟨v, fp, h1, h2, h3, _⟩ => by
    refine ⟨v, h1, h2, ?_⟩
    obtain ⟨ys, e, h⟩ := h3
    obtain ⟨-, _, rfl, -, _, rfl, -, _, rfl, -, v1, _, rfl, h4, -, -, v2, _, rfl, h5, -, rfl⟩ := h
    cases e
    obtain ⟨p, n, c, rfl, -⟩ := id h4
    obtain ⟨p', n', c', rfl, -⟩ := id h5
    exact ⟨p, n, c, p', n', c', rfl, h4.mono (fun b o v _ hu => res_U h2 hu) (Nat.le_refl _), h5.mono (fun b o v _ hu => res_U h2 hu) (Nat.le_refl _)⟩
theorem HH.row {f : Nat} {ps : List AV} {t : Ts} (h : HH f ps (tsA none t)) {w : World} {vs : List Value} (hG : KA w) (hv : RepV (argGh (U w) w) (.list ps) vs) : Calls Tryz.prog f vs.toArray w fun e w' => ∃ v, e = .returned v ∧ Below w.heap.size w w' ∧ RT ty w' v t :=
  (h.2.2 (U w) w vs (fun _ _ _ h => h) hG hv).mono fun e w' ⟨v, fp, h1, h2, h3, _⟩ => by
    obtain ⟨-, v1, _, e, h4, -, -⟩ := h3
    cases e
    exact ⟨v, h1, h2, h4.mono (fun b o v _ hu => res_U h2 hu) (Nat.le_refl _)⟩
theorem HH.made {f : Nat} {ps : List AV} {t : Tm} (h : HH f ps (tmO t)) {w : World} {vs : List Value} (hG : KA w) (hv : RepV (argGh (U w) w) (.list ps) vs) : Calls Tryz.prog f vs.toArray w (MakesT t.h t.x w) :=
  (h.2.2 (U w) w vs (fun _ _ _ h => h) hG hv).mono fun e w' ⟨v, fp, h1, h2, h3, h6, h7⟩ => by
    obtain ⟨ys, e, h⟩ := h3
    obtain ⟨-, _, rfl, -, _, rfl, -, _, rfl, -, v1, _, rfl, h4, o1, -, v2, _, rfl, h5, o2, rfl⟩ := h
    cases e
    obtain ⟨p, n, c, rfl, -⟩ := id h4
    obtain ⟨p', n', c', rfl, -⟩ := id h5
    obtain ⟨-, S1, w1, n1, m1⟩ := o1 (0, 0) rfl
    obtain ⟨-, S2, w2, n2, m2⟩ := o2 (0, 1) rfl
    obtain ⟨_, _, z1, u1, B1, A1, A2, A3, e1, a1, a2, a3, ⟨e5, rfl⟩, rfl⟩ := w1
    cases e1
    have hS : ∀ x, x ∈ B1 ++ (A1 ++ (A2 ++ [])) → x ∉ S2 := fun x hx hy => by
      have := h7 _ _ x (m1 x hx) (m2 x hy)
      cases this
    refine ⟨p, n, c, p', n', c', B1 ++ (A1 ++ (A2 ++ S2)), h1, h2, ⟨_, rfl, _, rfl, _, rfl, _, _, z1, u1, B1, A1, A2, S2, rfl, a1, a2, a3, w2, rfl⟩, ?_⟩
    have e : B1 ++ (A1 ++ (A2 ++ S2)) = (B1 ++ (A1 ++ (A2 ++ []))) ++ S2 := by simp [List.append_assoc]
    rw [e]
    exact List.nodup_append.2 ⟨n1, n2, fun x hx y hy e => by subst e; exact hS x hx hy⟩
/-- What the law asks. -/
theorem awake_any {w : World} (hG : KA w) : Calls Tryz.prog 9 #[] w fun e w' => e = .returned (.bool true) ∧ Below w.heap.size w w' := g9.val hG rfl
theorem case_any (p : Tm) (b : Ts) (x : Tm) (vp vb vx : Value) (w : World) (hG : KA w) (h1 : RM ty w vp p.h p.x) (h2 : RT ty w vb b) (h3 : RM ty w vx x.h x.x) (hp : p.fits) (hb : b.fits) (hx : x.fits) (hs : p.size + b.size + x.size ≤ 900000) (hl : b.len ≤ 900000) : Calls Tryz.prog 14 #[vp, vb, vx] w (MakesT (caseT p b x).h (caseT p b x).x w) :=
  (g14 p b x hp hb hx hs hl).made hG (arg3 (tm_arg h1) (ts_arg h2) (tm_arg h3))
theorem refCase_any (p : Tm) (b : Ts) (x : Tm) (vp vb vx : Value) (w : World) (hG : KA w) (h1 : RM ty w vp p.h p.x) (h2 : RT ty w vb b) (h3 : RM ty w vx x.h x.x) (hp : p.fits) (hb : b.fits) (hx : x.fits) (hs : p.size + b.size + x.size ≤ 1000000) (hl : b.len ≤ 1000000) : Calls Tryz.prog 19 #[vp, vb, vx] w fun e w' => ∃ v, e = .returned v ∧ Below w.heap.size w w' ∧ RM ty w' v (caseT p b x).h (caseT p b x).x :=
  (g19 p b x hp hb hx hs hl).lent hG (arg3 (tm_arg h1) (ts_arg h2) (tm_arg h3))
theorem refParts_any (t : Tm) (n : Int) (v : Value) (w : World) (hG : KA w) (h1 : RM ty w v t.h t.x) (hf : t.fits) (hn : n ≤ 12) (hs : t.size + n.toNat ≤ 1000000) : Calls Tryz.prog 21 #[v, .int .i64 n] w fun e w' => ∃ v, e = .returned v ∧ Below w.heap.size w w' ∧ RT ty w' v (partsT n.toNat t) :=
  (g21 n.toNat n t rfl hf hn hs).row hG (arg2 (tm_arg h1) (i_arg n))
end Go.Proofs.YtkcmapimcgppmaaGreatDoor
end
