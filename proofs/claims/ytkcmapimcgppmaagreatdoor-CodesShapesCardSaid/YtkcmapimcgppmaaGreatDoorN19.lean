/-
  What putting terms for variables makes of terms; the document's small steps for it. Conditions: no more than 1000000 nodes, levels, parts; numbers that a word holds. What the variables of a rule's first arguments are. Conditions: no more than 1000000 of them. The program's values of a rule's first arguments. Conditions: no more than 1000000 of them. A term below a row, moved: as plain data. The document's terms, moved. Conditions: what comes between is no greater than 1000000, its numbers a word holds. What functions over a row, what is lifted, values of arguments keep: numbers that a word holds, sizes. How great the values of a rule's first arguments are; the document's ends. Conditions: no more than 1000000 nodes, levels, parts; numbers that a word holds. The document's types of a rule's plain arguments. Conditions: no more than 500 arguments, 1000000 nodes, levels, parts; numbers that a word holds. The document's types of a rule's plain arguments, walked. Conditions: no more than 500 arguments, 1000000 nodes, levels, parts; numbers that a word holds. The document's index of a recursive argument, moved. Conditions: no more than 500 arguments, 400000 nodes, levels, parts; numbers that a word holds. Conditions: as each lemma states them.
-/
import Derived.Test.YtkcmapimcgppmaaGreatDoorN18
import Derived.Test.YtkcmapimcgppmaaGreatDoorN09
set_option linter.all false
set_option linter.unusedVariables false
set_option linter.unusedSimpArgs false
set_option linter.unnecessarySimpa false
section
namespace Go.Proofs.YtkcmapimcgppmaaGreatDoor
open Go.RowKit
attribute [local simp] ty_p ty_l ty_t kH tDs lvDs Tm.ts finH elemH ac_skip ac_label ac_region ac_seq ac_cond ac_block ac_loop ac_exit ac_ret seqK_n seqK_r seqK_e vo_nil vo_cons blkK loopK callOf vout aout abuiltin aslice ev startSt nmOf St.out putE updo upd contOf freshC K0 asC fillD fieldOf rowD astore aapp srcOf elsOf tb Dc.tk Dc.dp Dc.over Dc.app Dc.ln Dc.ds Dc.sing Dc.cont AV.cont Ds.hd Value.oneCell' retK resOf one1 AV.imp Dc.imp φOf calleeOf AV.isLL AV.list AV.app AV.arg AV.isL AV.ren Dc.ren Dc.lent tmC tmA tsA iA lo? abin AV.nth Dc.own Dc.toks stOf envOf bxOf τOf
attribute [local simp] AV.room amake agC lentAgC Ds.len Ds.dp

def Ts.tm (t : Ts) (k : Nat) : Tm := ⟨t.hd k, t.kd k⟩
/-- Of a node at a depth: what is put for it, or the node as it is left. -/
def putNode (y : Ts) (h : Hd) (d : Nat) : Tm ⊕ Hd :=
  if h.k = 1 ∧ (d : Int) ≤ h.n then
    if h.n - d < y.len then .inl ((y.tm (y.len - 1 - (h.n - d).toNat)).lift d 0)
    else .inr { h with n := IntKind.i64.wrap (h.n - y.len) }
  else .inr h
def putR (y : Ts) : Int → Nat → Nat → Ts → Ts
  | _, _, _, .nil => .nil
  | pk, i, d, .cons h x r => match putNode y h (deeper pk i d) with
    | .inl t => .cons t.h t.x (putR y pk (i + 1) d r)
    | .inr h' => .cons h' (putR y h.k 0 (deeper pk i d) x) (putR y pk (i + 1) d r)
def putAt (y : Ts) (d : Nat) (t : Tm) : Tm := match putNode y t.h d with
  | .inl u => u
  | .inr h' => ⟨h', putR y t.h.k 0 d t.x⟩
theorem putR_cons (y : Ts) (pk : Int) (i d : Nat) (h : Hd) (x r : Ts) : putR y pk i d (.cons h x r) = .cons (putAt y (deeper pk i d) ⟨h, x⟩).h (putAt y (deeper pk i d) ⟨h, x⟩).x (putR y pk (i + 1) d r) := by
  simp only [putR, putAt]
  split <;> rfl
theorem k229 (l : List Lv) (hs : lvSize l ≤ 2000000) : HH 229 [.c (.row none 1 43 (lvDs ty l) .nil)] (.c (.row none 1 43 (lvDs ty l) .nil)) := by
  refine ⟨code_of Tryz.func229 (by decide) rfl, rfl, fun F w vs hF hG hv => ?_⟩
  obtain ⟨u, rfl, h1⟩ := list1 hv
  obtain ⟨-, v1, _, e, h1, -⟩ := h1
  cases e
  refine (refLevels_any l u w (h1.mono (fun b o v _ hv => hF b o v hv) (Nat.le_refl _)) hs).mono ?_
  rintro e w' ⟨v, S, rfl, h5, h6, h7⟩
  obtain ⟨v', _, e2, h8, -⟩ := Vs.res (F := F) (fp := fun _ => []) (Nat.le_refl _) h6
  cases e2
  exact ⟨v, fun _ => [], rfl, h5, ⟨lvDs_good l, v, [], rfl, h8, Gh.Ow_none, rfl⟩, fun k b hb => (by cases hb), fun k k' b hb => (by cases hb)⟩
theorem k228 (k : Int) (i : Nat) : HH 228 [iA k, iA i] (.v (.bool (binds k i))) := by
  refine ⟨code_of Tryz.func228 (by decide) rfl, rfl, fun F w vs hF hG hv => ?_⟩
  obtain ⟨u, v, rfl, h1, h2⟩ := list2 hv
  rw [iA_eq h1, iA_eq h2]
  refine (refBinds_any k i w).mono ?_
  rintro e w' ⟨rfl, rfl⟩
  exact ⟨_, fun _ => [], rfl, Below.refl _ _, rfl, fun k b hb => (by cases hb), fun k k' b hb => (by cases hb)⟩
theorem k205 (t : Tm) (i d : Nat) (hd : d ≤ 2000000000) : HH 205 [tmL t, iA i, iA d] (iA (deeper t.h.k i d)) := by
  refine ab Tryz.func205 Tryz.ntmps205 Tryz.results205 rfl (by decide) (by simp) rfl rfl ?_
  have hw : IntKind.i64.wrap ((d : Int) + 1) = d + 1 := by rw [IntKind.wrap_i64]; omega
  simp
  refine asks (k228 t.h.k i) ?_ ?_ ?_ <;> simp
  cases hb : binds t.h.k i <;> simp [hb, deeper, hw]
  all_goals exact ⟨[], by simp⟩
theorem k206 (h : Hd) (x k : Ts) (hs : lvSize h.l ≤ 2000000) : HH 206 [tmL ⟨h, x⟩, tsA none k] (tmL ⟨h, k⟩) := by
  refine ab Tryz.func206 Tryz.ntmps206 Tryz.results206 rfl (by decide) (by simp) rfl rfl ?_
  simp
  refine asks (k229 h.l hs) ?_ ?_ ?_ <;> simp
  exact ⟨[], by simp⟩
theorem k128 (t : Tm) (n f : Int) (hf : t.fits) (hs : t.size ≤ 2000000) : HH 128 [tmL t, iA n, iA f, iA 0] (tmO (t.lift n f)) := by
  refine holds_tm (code_of Tryz.func128 (by decide) rfl) fun F w vs hF _ hv => ?_
  obtain ⟨u, y, rfl, h1, v, y2, rfl, h2, z, y3, rfl, h3, q, y4, rfl, h4, rfl⟩ := hv
  rw [iA_eq h2, iA_eq h3, iA_eq h4]
  have := t.x.count_le_size
  exact (refLift_any _ t.h t.x u n f 0 w (Nat.lt_succ_self _) (tmA_rm hF h1) hf.1 hf.2 hs (by unfold Tm.size at hs; omega)).mono fun e w' hm => MakesT.of hm
theorem putR_app (y : Ts) (pk : Int) (d : Nat) : ∀ (a b : Ts) (i : Nat), putR y pk i d (a.app b) = (putR y pk i d a).app (putR y pk (i + a.len) d b)
  | .nil, b, i => rfl
  | .cons h x r, b, i => by
    have := putR_app y pk d r b (i + 1)
    rw [Ts.app, putR_cons, putR_cons, this, Ts.app, Ts.len]
    rw [show i + 1 + r.len = i + (r.len + 1) by omega]
theorem putR_len (y : Ts) (pk : Int) (d : Nat) : ∀ (a : Ts) (i : Nat), (putR y pk i d a).len = a.len
  | .nil, i => rfl
  | .cons h x r, i => by rw [putR_cons, Ts.len, Ts.len, putR_len y pk d r (i + 1)]
def st225 (y : Ts) (d : Nat) (h : Hd) (x : Ts) (a : Ts) : St := stOf [(1, tsA none y), (2, iA d), (3, .bx 4 0), (6, .bx 7 0), (9, .c (.blk 64 (a.len + 1) 5 26 (.seg none (tDs ty (putR y h.k 0 d a)) .nil) .nil)), (10, iA a.len)] [(4, 26, tmC none none h x), (7, 26, .lit (.int .i64 0) (.lit (.int .i64 0) (.lit (.int .i64 0) (.nilr 1 43 (.nilr 5 26 .nil)))))] [(64, a.len + 1)]
set_option maxRecDepth 10000 in
set_option maxHeartbeats 4000000 in
theorem k225 (y : Ts) (hy : y.fits) (hys : y.size ≤ 1000000) : ∀ (M : Nat) (t : Tm) (d : Nat), t.size < M → t.fits → t.size + d ≤ 1000000 → HH 225 [tmL t, tsA none y, iA d] (tmL (putAt y d t)) := by
  have hyl : y.len ≤ 1000000 := Nat.le_trans (len_le_size y) hys
  intro M
  induction M with
  | zero => intro t d h; omega
  | succ M ih =>
    rintro ⟨h, x⟩ d hM hf hs
    have d0 : y.len * 5 / 5 = y.len := by omega
    have dx : x.len * 5 / 5 = x.len := by omega
    have hxl : x.len ≤ 1000000 := by have := len_le_size x; unfold Tm.size at hs; simp only at hs; omega
    have hnb : -9223372036854775808 ≤ h.n ∧ h.n ≤ 9223372036854775807 := hf.1.2.1
    refine ab Tryz.func225 Tryz.ntmps225 Tryz.results225 rfl (by decide) (by simp) rfl rfl ?_
    by_cases c1 : h.k = 1 ∧ (d : Int) ≤ h.n
    · have w1 : IntKind.i64.wrap (h.n - d) = h.n - d := by rw [IntKind.wrap_i64]; omega
      by_cases c2 : h.n - d < y.len
      · obtain ⟨j, hj⟩ : ∃ j : Nat, (y.len : Int) - 1 - (h.n - d) = j := ⟨((y.len : Int) - 1 - (h.n - d)).toNat, by omega⟩
        have hjl : j < y.len := by omega
        have e1 : putAt y d ⟨h, x⟩ = Tm.lift ⟨y.hd j, y.kd j⟩ d 0 := by
          have : y.len - 1 - (h.n - d).toNat = j := by omega
          simp only [putAt, putNode, if_pos c1, if_pos c2, this]; rfl
        have w2 : IntKind.i64.wrap ((y.len : Int) - 1) = y.len - 1 := by rw [IntKind.wrap_i64]; omega
        have w3 : IntKind.i64.wrap ((y.len : Int) - 1 - (h.n - d)) = j := by rw [IntKind.wrap_i64]; omega
        have h2 := dp_drop y j
        have h3 := Ts.drop_step hjl
        have h4 := Ts.fits_hd hy hjl
        have h5 := Ts.size_kd hjl
        rw [h3] at h2
        rw [e1]
        clear e1 h3
        generalize y.hd j = uh at *
        generalize y.kd j = ux at *
        generalize y.drop (j + 1) = ur at *
        obtain ⟨c1k, c1n⟩ := c1
        simp [tDs_len, d0, c1k, c1n, c2, w1, w2, w3, h2]
        refine ⟨by omega, ?_⟩
        refine asks (k128 ⟨uh, ux⟩ d 0 h4 (by unfold Tm.size; simp only; omega)) ?_ ?_ ?_ <;> simp
        exact ⟨[], by simp⟩
      · have e1 : putAt y d ⟨h, x⟩ = ⟨{ h with n := IntKind.i64.wrap (h.n - y.len) }, putR y h.k 0 d x⟩ := by
          simp only [putAt, putNode, if_pos c1, if_neg c2]
        rw [e1]
        obtain ⟨hk, hn, ha, hl⟩ := h
        obtain ⟨c1k, c1n⟩ := c1
        simp only at c1k c1n
        subst c1k
        clear e1
        simp only at c2 w1
        simp [tDs_len, d0, c1n, c2, w1]
        refine lp (α := { q : Ts × Ts // q.1.app q.2 = x }) (fun q => st225 y d ⟨1, IntKind.i64.wrap (hn - y.len), ha, hl⟩ x q.1.1) (fun q => q.1.2.len) ⟨(.nil, x), rfl⟩ ?_ ?_
        · refine le_of [((64, 0), [(64, 0)])] ?_ ?_ ?_ <;> simp [putR, Ts.len, AV.ok, Dc.ok]
        · rintro ⟨⟨a, r⟩, hq⟩
          simp only at hq
          cases r with
          | nil =>
            have e : a = x := by rw [← hq]; exact (Ts.app_nil a).symm
            subst e
            simp [st225, tDs_len, dx]
            refine asks (k206 ⟨1, IntKind.i64.wrap (hn - y.len), ha, hl⟩ a (putR y 1 0 d a) (by unfold Tm.size at hs; dsimp only at hs ⊢; omega)) ?_ ?_ ?_ <;> simp [Ds.app_nil]
            exact ⟨[], by simp⟩
          | cons hh hx r =>
            have h1 : a.len < x.len := by rw [← hq]; simp [Ts.app_len, Ts.len]
            have h2 : (tDs ty x).dp (a.len * 5) = tDs ty (.cons hh hx r) := by rw [← hq]; exact dp_mid a _
            have h3 : hh.fits ∧ hx.fits := app_fits (a := a) (by rw [hq]; exact hf.2)
            have h4 : lvSize hh.l + hx.size + 1 ≤ x.size := by rw [← hq]; exact app_size
            have hw : IntKind.i64.wrap ((a.len : Int) + 1) = a.len + 1 := by rw [IntKind.wrap_i64]; omega
            have hdp : deeper 1 a.len d ≤ d + 1 := by unfold deeper; split <;> omega
            have hne : tDs ty (putR y 1 0 d (a.app (.cons hh hx .nil))) = (tDs ty (putR y 1 0 d a)).app (tDs ty (putAt y (deeper 1 a.len d) ⟨hh, hx⟩).ts) := by
              rw [putR_app, putR_cons, tDs_app, Nat.zero_add]; rfl
            have hsz : x.size ≤ (⟨⟨1, hn, ha, hl⟩, x⟩ : Tm).size := by unfold Tm.size; simp only; omega
            have hsz2 : (⟨hh, hx⟩ : Tm).size + 1 ≤ x.size := h4
            have ihh := ih ⟨hh, hx⟩ (deeper 1 a.len d) (by omega) h3 (by omega)
            generalize putAt y (deeper 1 a.len d) ⟨hh, hx⟩ = P at *
            simp [st225, tDs_len, dx, h1, h2]
            refine ⟨by kernel_rfl, by omega, ?_⟩
            refine asks (k205 ⟨⟨1, IntKind.i64.wrap (hn - y.len), ha, hl⟩, x⟩ a.len d (by omega)) ?_ ?_ ?_ <;> simp
            refine asks ihh ?_ ?_ ?_ <;> simp
            refine ⟨by rw [tDs_len, putR_len]; omega, a.app (.cons hh hx .nil), r, by simp [Ts.len], by rw [Ts.app_assoc]; exact hq, ?_⟩
            refine le_of [((64, 0), [(64, 0)])] ?_ ?_ ?_ <;> simp [Ts.len, Ts.app_len, AV.ok, Dc.ok, hw, hne]
    · have e1 : putAt y d ⟨h, x⟩ = ⟨h, putR y h.k 0 d x⟩ := by
        simp only [putAt, putNode, if_neg c1]
      rw [e1]
      by_cases c3 : h.k = 1
      · have c4 : ¬ (d : Int) ≤ h.n := fun h9 => c1 ⟨c3, h9⟩
        obtain ⟨hk, hn, ha, hl⟩ := h
        simp only at c3 c4
        subst c3
        clear e1 c1
        simp [tDs_len, d0, c4]
        refine lp (α := { q : Ts × Ts // q.1.app q.2 = x }) (fun q => st225 y d ⟨1, hn, ha, hl⟩ x q.1.1) (fun q => q.1.2.len) ⟨(.nil, x), rfl⟩ ?_ ?_
        · refine le_of [((64, 0), [(64, 0)])] ?_ ?_ ?_ <;> simp [putR, Ts.len, AV.ok, Dc.ok]
        · rintro ⟨⟨a, r⟩, hq⟩
          simp only at hq
          cases r with
          | nil =>
            have e : a = x := by rw [← hq]; exact (Ts.app_nil a).symm
            subst e
            simp [st225, tDs_len, dx]
            refine asks (k206 ⟨1, hn, ha, hl⟩ a (putR y 1 0 d a) (by unfold Tm.size at hs; dsimp only at hs ⊢; omega)) ?_ ?_ ?_ <;> simp [Ds.app_nil]
            exact ⟨[], by simp⟩
          | cons hh hx r =>
            have h1 : a.len < x.len := by rw [← hq]; simp [Ts.app_len, Ts.len]
            have h2 : (tDs ty x).dp (a.len * 5) = tDs ty (.cons hh hx r) := by rw [← hq]; exact dp_mid a _
            have h3 : hh.fits ∧ hx.fits := app_fits (a := a) (by rw [hq]; exact hf.2)
            have h4 : lvSize hh.l + hx.size + 1 ≤ x.size := by rw [← hq]; exact app_size
            have hw : IntKind.i64.wrap ((a.len : Int) + 1) = a.len + 1 := by rw [IntKind.wrap_i64]; omega
            have hdp : deeper 1 a.len d ≤ d + 1 := by unfold deeper; split <;> omega
            have hne : tDs ty (putR y 1 0 d (a.app (.cons hh hx .nil))) = (tDs ty (putR y 1 0 d a)).app (tDs ty (putAt y (deeper 1 a.len d) ⟨hh, hx⟩).ts) := by
              rw [putR_app, putR_cons, tDs_app, Nat.zero_add]; rfl
            have hsz : x.size ≤ (⟨⟨1, hn, ha, hl⟩, x⟩ : Tm).size := by unfold Tm.size; simp only; omega
            have hsz2 : (⟨hh, hx⟩ : Tm).size + 1 ≤ x.size := h4
            have ihh := ih ⟨hh, hx⟩ (deeper 1 a.len d) (by omega) h3 (by omega)
            generalize putAt y (deeper 1 a.len d) ⟨hh, hx⟩ = P at *
            simp [st225, tDs_len, dx, h1, h2]
            refine ⟨by kernel_rfl, by omega, ?_⟩
            refine asks (k205 ⟨⟨1, hn, ha, hl⟩, x⟩ a.len d (by omega)) ?_ ?_ ?_ <;> simp
            refine asks ihh ?_ ?_ ?_ <;> simp
            refine ⟨by rw [tDs_len, putR_len]; omega, a.app (.cons hh hx .nil), r, by simp [Ts.len], by rw [Ts.app_assoc]; exact hq, ?_⟩
            refine le_of [((64, 0), [(64, 0)])] ?_ ?_ ?_ <;> simp [Ts.len, Ts.app_len, AV.ok, Dc.ok, hw, hne]
      · simp [tDs_len, d0, c3]
        refine lp (α := { q : Ts × Ts // q.1.app q.2 = x }) (fun q => st225 y d h x q.1.1) (fun q => q.1.2.len) ⟨(.nil, x), rfl⟩ ?_ ?_
        · refine le_of [((64, 0), [(64, 0)])] ?_ ?_ ?_ <;> simp [putR, Ts.len, AV.ok, Dc.ok]
        · rintro ⟨⟨a, r⟩, hq⟩
          simp only at hq
          cases r with
          | nil =>
            have e : a = x := by rw [← hq]; exact (Ts.app_nil a).symm
            subst e
            simp [st225, tDs_len, dx]
            refine asks (k206 h a (putR y h.k 0 d a) (by unfold Tm.size at hs; dsimp only at hs ⊢; omega)) ?_ ?_ ?_ <;> simp [Ds.app_nil]
            exact ⟨[], by simp⟩
          | cons hh hx r =>
            have h1 : a.len < x.len := by rw [← hq]; simp [Ts.app_len, Ts.len]
            have h2 : (tDs ty x).dp (a.len * 5) = tDs ty (.cons hh hx r) := by rw [← hq]; exact dp_mid a _
            have h3 : hh.fits ∧ hx.fits := app_fits (a := a) (by rw [hq]; exact hf.2)
            have h4 : lvSize hh.l + hx.size + 1 ≤ x.size := by rw [← hq]; exact app_size
            have hw : IntKind.i64.wrap ((a.len : Int) + 1) = a.len + 1 := by rw [IntKind.wrap_i64]; omega
            have hdp : deeper h.k a.len d ≤ d + 1 := by unfold deeper; split <;> omega
            have hne : tDs ty (putR y h.k 0 d (a.app (.cons hh hx .nil))) = (tDs ty (putR y h.k 0 d a)).app (tDs ty (putAt y (deeper h.k a.len d) ⟨hh, hx⟩).ts) := by
              rw [putR_app, putR_cons, tDs_app, Nat.zero_add]; rfl
            have hsz : x.size ≤ (⟨h, x⟩ : Tm).size := by unfold Tm.size; simp only; omega
            have hsz2 : (⟨hh, hx⟩ : Tm).size + 1 ≤ x.size := h4
            have ihh := ih ⟨hh, hx⟩ (deeper h.k a.len d) (by omega) h3 (by omega)
            generalize putAt y (deeper h.k a.len d) ⟨hh, hx⟩ = P at *
            simp [st225, tDs_len, dx, h1, h2]
            refine ⟨by kernel_rfl, by omega, ?_⟩
            refine asks (k205 ⟨h, x⟩ a.len d (by omega)) ?_ ?_ ?_ <;> simp
            refine asks ihh ?_ ?_ ?_ <;> simp
            refine ⟨by rw [tDs_len, putR_len]; omega, a.app (.cons hh hx .nil), r, by simp [Ts.len], by rw [Ts.app_assoc]; exact hq, ?_⟩
            refine le_of [((64, 0), [(64, 0)])] ?_ ?_ ?_ <;> simp [Ts.len, Ts.app_len, AV.ok, Dc.ok, hw, hne]
theorem k195 (y : Ts) (t : Tm) (hy : y.fits) (hys : y.size ≤ 1000000) (hf : t.fits) (hs : t.size ≤ 1000000) : HH 195 [tmL t, tsA none y] (tmL (putAt y 0 t)) := by
  refine ab Tryz.func195 Tryz.ntmps195 Tryz.results195 rfl (by decide) (by simp) rfl rfl ?_
  simp
  refine asks (k225 y hy hys _ t 0 (Nat.lt_succ_self _) hf (by omega)) ?_ ?_ ?_ <;> simp
  exact ⟨[], by simp⟩
end Go.Proofs.YtkcmapimcgppmaaGreatDoor
end
section
namespace Go.Proofs.YtkcmapimcgppmaaGreatDoor
open Go.RowKit
attribute [local simp] ty_p ty_l ty_t kH tDs lvDs Tm.ts finH elemH ac_skip ac_label ac_region ac_seq ac_cond ac_block ac_loop ac_exit ac_ret seqK_n seqK_r seqK_e vo_nil vo_cons blkK loopK callOf vout aout abuiltin aslice ev startSt nmOf St.out putE updo upd contOf freshC K0 asC fillD fieldOf rowD astore aapp srcOf elsOf tb Dc.tk Dc.dp Dc.over Dc.app Dc.ln Dc.ds Dc.sing Dc.cont AV.cont Ds.hd Value.oneCell' retK resOf one1 AV.imp Dc.imp φOf calleeOf AV.isLL AV.list AV.app AV.arg AV.isL AV.ren Dc.ren Dc.lent tmC tmA tsA iA lo? abin AV.nth Dc.own Dc.toks stOf envOf bxOf τOf
attribute [local simp] AV.room amake agC lentAgC Ds.len Ds.dp

/-- One: of a recursive argument, or where there are too few values, the first of one; else the value. -/
def byOne (a : Ag) (n : Nat) (v : Ts) : Tm := if a.r = false ∧ n < v.len then v.tm n else ⟨elemH 0 1, .nil⟩
def plainN (l : List Ag) : Nat := (l.filter fun a => !a.r).length
theorem plainN_app (a b : List Ag) : plainN (a ++ b) = plainN a + plainN b := by simp [plainN]
def byT : List Ag → Nat → Ts → Ts
  | [], _, _ => .nil
  | a :: r, n, v => .cons (byOne a n v).h (byOne a n v).x (byT r (n + plainN [a]) v)
theorem byT_app (v : Ts) : ∀ (a b : List Ag) (n : Nat), byT (a ++ b) n v = (byT a n v).app (byT b (n + plainN a) v)
  | [], b, n => rfl
  | x :: a, b, n => by
    have := byT_app v a b (n + plainN [x])
    have e : n + plainN [x] + plainN a = n + plainN (x :: a) := by
      rw [show x :: a = [x] ++ a from rfl, plainN_app]; omega
    simp only [List.cons_append, byT, Ts.app]
    rw [this, e]
theorem byT_len (v : Ts) : ∀ (a : List Ag) (n : Nat), (byT a n v).len = a.length
  | [], n => rfl
  | x :: a, n => by simp [byT, Ts.len, byT_len v a]
theorem plainN_le (a : List Ag) : plainN a ≤ a.length := List.length_filter_le _ _
def st197 (r : Rl) (v : Ts) (i k : Nat) : St := stOf [(1, iA i), (2, tsA none v), (3, .bx 4 0), (7, .c (.blk 38 (k + 1) 5 26 (.seg none (tDs ty (byT (r.g.take k) 0 v)) .nil) .nil)), (8, iA (plainN (r.g.take k))), (9, iA k)] [(4, 65, rlC r)] [(38, k + 1)]
set_option maxHeartbeats 1000000 in
theorem k197 (r : Rl) (v : Ts) (i : Nat) (hi : i ≤ r.g.length) (hl : r.g.length ≤ 1000000) (hv : v.len ≤ 1000000) : HH 197 [rlL r, iA i, tsA none v] (tsA none (byT (r.g.take i) 0 v)) := by
  refine ab Tryz.func197 Tryz.ntmps197 Tryz.results197 rfl (by decide) (by simp) rfl rfl ?_
  have d0 : r.g.length * 9 / 9 = r.g.length := by omega
  have dv : v.len * 5 / 5 = v.len := by omega
  simp [rlL, rlC]
  refine lp (α := { k : Nat // k ≤ i }) (fun k => st197 r v i k.1) (fun k => i - k.1) ⟨0, Nat.zero_le _⟩ ?_ ?_
  · refine le_of [((38, 0), [(38, 0)])] ?_ ?_ ?_ <;> simp [AV.ok, Dc.ok, rlC, byT, plainN]
  · rintro ⟨k, hk⟩
    have hw : IntKind.i64.wrap ((k : Int) + 1) = k + 1 := by rw [IntKind.wrap_i64]; omega
    by_cases hlt : k < i
    · have hkl : k < r.g.length := by omega
      have h1 := dp_ag hkl
      have hpl := plainN_le (r.g.take k)
      rw [List.length_take] at hpl
      have e1 : byT (r.g.take (k + 1)) 0 v = (byT (r.g.take k) 0 v).app (.cons (byOne r.g[k] (plainN (r.g.take k)) v).h (byOne r.g[k] (plainN (r.g.take k)) v).x .nil) := by
        rw [take_ag hkl, byT_app, Nat.zero_add]; rfl
      have e2 : plainN (r.g.take (k + 1)) = plainN (r.g.take k) + plainN [r.g[k]] := by rw [take_ag hkl, plainN_app]
      have hbl := byT_len v (r.g.take k) 0
      rw [List.length_take] at hbl
      generalize hB1 : byT (r.g.take (k + 1)) 0 v = B1 at *
      generalize hN1 : plainN (r.g.take (k + 1)) = N1 at *
      generalize hB : byT (r.g.take k) 0 v = B at *
      generalize hN : plainN (r.g.take k) = N at *
      generalize r.g.drop (k + 1) = q at h1
      generalize r.g[k] = a at *
      have wn : IntKind.i64.wrap ((N : Int) + 1) = N + 1 := by rw [IntKind.wrap_i64]; omega
      simp [st197, hB, hN, hlt]
      refine asks (g65 0 1) ?_ ?_ ?_ <;> simp [rlC, agDs_len, d0, h1, agDs]
      refine ⟨by omega, ?_⟩
      cases hr : a.r with
      | true =>
        have e3 : byOne a N v = ⟨elemH 0 1, .nil⟩ := by unfold byOne; rw [hr]; rfl
        have e4 : plainN [a] = 0 := by simp [plainN, hr]
        rw [e3] at e1
        rw [e4, Nat.add_zero] at e2
        simp [hr]
        refine ⟨by rw [tDs_len]; omega, k + 1, by omega, by omega, ?_⟩
        refine le_of [((38, 0), [(38, 0)])] ?_ ?_ ?_ <;> simp [AV.ok, Dc.ok, hw, rlC, hB1, hN1]
        exact ⟨by rw [e1, tDs_app]; rfl, by rw [e2]⟩
      | false =>
        have e4 : plainN [a] = 1 := by simp [plainN, hr]
        rw [e4] at e2
        by_cases hN2 : N < v.len
        · have e3 : byOne a N v = v.tm N := by unfold byOne; rw [hr, if_pos ⟨rfl, hN2⟩]
          have h5 := dp_drop v N
          rw [Ts.drop_step hN2] at h5
          rw [e3] at e1
          unfold Ts.tm at e1
          generalize v.hd N = uh at *
          generalize v.kd N = ux at *
          generalize v.drop (N + 1) = ur at *
          simp [hr, tDs_len, dv, hN2, h5, wn]
          refine ⟨by omega, by omega, k + 1, by omega, by omega, ?_⟩
          refine le_of [((38, 0), [(38, 0)])] ?_ ?_ ?_ <;> simp [AV.ok, Dc.ok, hw, rlC, hB1, hN1]
          exact ⟨by rw [e1, tDs_app]; rfl, by rw [e2]; rfl⟩
        · have e3 : byOne a N v = ⟨elemH 0 1, .nil⟩ := by unfold byOne; rw [hr, if_neg (fun h9 => hN2 h9.2)]
          rw [e3] at e1
          simp [hr, tDs_len, dv, hN2, wn]
          refine ⟨by omega, k + 1, by omega, by omega, ?_⟩
          refine le_of [((38, 0), [(38, 0)])] ?_ ?_ ?_ <;> simp [AV.ok, Dc.ok, hw, rlC, hB1, hN1]
          exact ⟨by rw [e1, tDs_app]; rfl, by rw [e2]; rfl⟩
    · obtain rfl : k = i := by omega
      simp [st197, Ds.app_nil]
      exact ⟨[], by simp⟩
end Go.Proofs.YtkcmapimcgppmaaGreatDoor
end
section
namespace Go.Proofs.YtkcmapimcgppmaaGreatDoor
open Go.RowKit
attribute [local simp] ty_p ty_l ty_t kH tDs lvDs Tm.ts finH elemH ac_skip ac_label ac_region ac_seq ac_cond ac_block ac_loop ac_exit ac_ret seqK_n seqK_r seqK_e vo_nil vo_cons blkK loopK callOf vout aout abuiltin aslice ev startSt nmOf St.out putE updo upd contOf freshC K0 asC fillD fieldOf rowD astore aapp srcOf elsOf tb Dc.tk Dc.dp Dc.over Dc.app Dc.ln Dc.ds Dc.sing Dc.cont AV.cont Ds.hd Value.oneCell' retK resOf one1 AV.imp Dc.imp φOf calleeOf AV.isLL AV.list AV.app AV.arg AV.isL AV.ren Dc.ren Dc.lent tmC tmA tsA iA lo? abin AV.nth Dc.own Dc.toks stOf envOf bxOf τOf
attribute [local simp] AV.room amake agC lentAgC Ds.len Ds.dp

/-- A rule at work: with values, below so many binders more. -/
def mvC (r : Rl) (v : Ts) (far : Int) : Dc := .lit (.int .i64 r.m) (.row none 9 82 (agDs r.g) (.row none 5 26 (tDs ty r.i) (.row none 5 26 (tDs ty v) (.lit (.int .i64 far) .nil))))
theorem tk_all (x : Ds) : x.tk x.len = x := by have := Ds.tk_app x .nil; rwa [Ds.app_nil] at this
theorem tk_ag {l : List Ag} {i : Nat} (h : i ≤ l.length) : (agDs l).tk (i * 9) = agDs (l.take i) := by
  have h2 : (agDs (l.take i)).len = i * 9 := by rw [agDs_len, List.length_take]; congr 1; omega
  conv => lhs; rw [← List.take_append_drop i l, agDs_app, ← h2]
  exact Ds.tk_app _ _
theorem drop_len' (t : Ts) : ∀ k, (t.drop k).len = t.len - k := by
  induction t with
  | nil => intro k; cases k <;> simp [Ts.drop, Ts.len]
  | cons h x r _ ih =>
    intro k
    cases k with
    | zero => rfl
    | succ k => simp [Ts.drop, Ts.len, ih k]
def st193 (r : Rl) (v : Ts) (far : Int) (i k : Nat) : St := stOf [(1, iA i), (2, .bx 3 0), (4, .c (.blk 39 (k + 1) 5 26 (.seg none (tDs ty (byT (r.g.take k) 0 v)) .nil) .nil)), (5, tsA none (v.drop (plainN (r.g.take k)))), (15, agsA (r.g.take i)), (16, iA i), (17, iA k)] [(3, 150, mvC r v far)] [(39, k + 1)]
set_option maxHeartbeats 1000000 in
theorem k193 (r : Rl) (v : Ts) (far : Int) (i : Nat) (hi : i ≤ r.g.length) (hl : r.g.length ≤ 1000000) (hv : v.len ≤ 1000000) : HH 193 [.agg (mvC r v far), iA i] (tsA none (byT (r.g.take i) 0 v)) := by
  refine ab Tryz.func193 Tryz.ntmps193 Tryz.results193 rfl (by decide) (by simp [mvC]) rfl rfl ?_
  have d0 : i * 9 / 9 = i := by omega
  have dl : (r.g.take i).length = i := by rw [List.length_take]; omega
  simp [mvC, tk_ag hi, agDs_len, dl, d0]
  refine ⟨by omega, ?_⟩
  refine lp (α := { k : Nat // k ≤ i }) (fun k => st193 r v far i k.1) (fun k => i - k.1) ⟨0, Nat.zero_le _⟩ ?_ ?_
  · refine le_of [((39, 0), [(39, 0)])] ?_ ?_ ?_ <;> simp [AV.ok, Dc.ok, mvC, agsA, byT, plainN, Ts.drop]
  · rintro ⟨k, hk⟩
    have hw : IntKind.i64.wrap ((k : Int) + 1) = k + 1 := by rw [IntKind.wrap_i64]; omega
    by_cases hlt : k < i
    · have hkl : k < r.g.length := by omega
      have h1 := dp_ag (l := r.g.take i) (k := k) (by omega)
      have h0 : (r.g.take i)[k]'(by omega) = r.g[k] := List.getElem_take
      rw [h0] at h1
      have hpl := plainN_le (r.g.take k)
      rw [List.length_take] at hpl
      have e1 : byT (r.g.take (k + 1)) 0 v = (byT (r.g.take k) 0 v).app (.cons (byOne r.g[k] (plainN (r.g.take k)) v).h (byOne r.g[k] (plainN (r.g.take k)) v).x .nil) := by
        rw [take_ag hkl, byT_app, Nat.zero_add]; rfl
      have e2 : plainN (r.g.take (k + 1)) = plainN (r.g.take k) + plainN [r.g[k]] := by rw [take_ag hkl, plainN_app]
      have hbl := byT_len v (r.g.take k) 0
      rw [List.length_take] at hbl
      have hdl := drop_len' v (plainN (r.g.take k))
      generalize hq : (r.g.take i).drop (k + 1) = q at h1
      clear h0 hq
      generalize hB1 : byT (r.g.take (k + 1)) 0 v = B1 at *
      generalize hN1 : plainN (r.g.take (k + 1)) = N1 at *
      generalize hB : byT (r.g.take k) 0 v = B at *
      generalize hN : plainN (r.g.take k) = N at *
      generalize r.g[k] = a at *
      have dd : (v.drop N).len * 5 / 5 = (v.drop N).len := by omega
      simp [st193, hB, hN, hlt, agsA, agDs_len, dl, d0, h1, agDs]
      refine ⟨by omega, ?_⟩
      refine asks (g58 0 1) ?_ ?_ ?_
      · simp
      · simp
      cases hr : a.r with
      | true =>
        have e3 : byOne a N v = ⟨elemH 0 1, .nil⟩ := by unfold byOne; rw [hr]; rfl
        have e4 : plainN [a] = 0 := by simp [plainN, hr]
        rw [e3] at e1
        rw [e4, Nat.add_zero] at e2
        simp [hr, agsA]
        refine ⟨by rw [tDs_len]; omega, k + 1, by omega, by omega, ?_⟩
        refine le_of [((39, 0), [(39, 0)])] ?_ ?_ ?_ <;> simp [AV.ok, Dc.ok, hw, mvC, agsA, hB1, hN1]
        exact ⟨by rw [e1, tDs_app]; rfl, by rw [e2]⟩
      | false =>
        have e4 : plainN [a] = 1 := by simp [plainN, hr]
        rw [e4] at e2
        by_cases hN2 : N < v.len
        · have e3 : byOne a N v = v.tm N := by unfold byOne; rw [hr, if_pos ⟨rfl, hN2⟩]
          have h5 := Ts.drop_step hN2
          have h6 := drop_len' v (N + 1)
          rw [e3] at e1
          unfold Ts.tm at e1
          rw [← e2] at h5 h6
          generalize v.hd N = uh at *
          generalize v.kd N = ux at *
          generalize hV : v.drop N1 = V at *
          have h7 : (tDs ty V).tk (V.len * 5) = tDs ty V := by have := tk_all (tDs ty V); rwa [tDs_len] at this
          rw [h5] at dd
          have h9 : (0 : Int) < ((V.len : Int) * 5 + 1 + 1 + 1 + 1 + 1) / 5 := by omega
          have h10 : (V.len * 5 + 1 + 1 + 1 + 1 + 1) / 5 = V.len + 1 := by omega
          simp [hr, tDs_len, h5, Ts.len, h7, agsA, h9, h10]
          refine ⟨by kernel_rfl, by omega, by omega, k + 1, by omega, by omega, ?_⟩
          refine le_of [((39, 0), [(39, 0)])] ?_ ?_ ?_ <;> simp [AV.ok, Dc.ok, hw, mvC, agsA, hB1, hN1, hV]
          rw [e1, tDs_app]; rfl
        · have e3 : byOne a N v = ⟨elemH 0 1, .nil⟩ := by unfold byOne; rw [hr, if_neg (fun h9 => hN2 h9.2)]
          have h8 : (v.drop N).len = 0 := by omega
          have h6 : (v.drop N1).len = 0 := by have := drop_len' v N1; omega
          have z1 : v.drop N = .nil := by cases hz : v.drop N with
            | nil => rfl
            | cons _ _ _ => rw [hz] at h8; simp [Ts.len] at h8
          have z2 : v.drop N1 = .nil := by cases hz : v.drop N1 with
            | nil => rfl
            | cons _ _ _ => rw [hz] at h6; simp [Ts.len] at h6
          rw [e3] at e1
          simp [hr, z1, agsA]
          refine ⟨by rw [tDs_len]; omega, k + 1, by omega, by omega, ?_⟩
          refine le_of [((39, 0), [(39, 0)])] ?_ ?_ ?_ <;> simp [AV.ok, Dc.ok, hw, mvC, agsA, hB1, hN1, z2]
          rw [e1, tDs_app]; rfl
    · obtain rfl : k = i := by omega
      simp [st193, Ds.app_nil]
      exact ⟨[], by simp⟩
end Go.Proofs.YtkcmapimcgppmaaGreatDoor
end
section
namespace Go.Proofs.YtkcmapimcgppmaaGreatDoor
open Go.RowKit

/-- The last kid of the last kid, so often. -/
def inner : Nat → Tm → Tm
  | 0, t => t
  | n + 1, t => inner n (t.x.tm 1)
/-- What moves a term below some arguments and a row. -/
def movedT (g : List Ag) (v : Ts) (far : Int) (i : Nat) (row : Ts) (t : Tm) : Tm := inner row.len (putAt (byT (g.take i) 0 v) 0 ((aboveT 5 row t).lift far i))
/-- Terms that are functions of so many arguments, as these are made. -/
def deepT : Nat → Tm → Prop
  | 0, _ => True
  | n + 1, t => t.h.k = 5 ∧ t.x.len = 2 ∧ deepT n (t.x.tm 1)
theorem deep_above : ∀ (row : Ts) (t : Tm), deepT row.len (aboveT 5 row t)
  | .nil, _ => trivial
  | .cons _ _ r, t => ⟨rfl, rfl, deep_above r t⟩
theorem deep_lift (n f : Int) : ∀ (m : Nat) (t : Tm) (d : Nat), deepT m t → deepT m ⟨t.h.lift n f d, t.x.lift n f t.h.k 0 d⟩
  | 0, _, _, _ => trivial
  | m + 1, ⟨h, x⟩, d, ⟨h1, h2, h3⟩ => by
    have e1 : h.lift n f d = h := by
      unfold Hd.lift
      rw [if_neg (fun h9 => by rw [show h.k = 5 from h1] at h9; exact absurd h9.1 (by decide))]
    match x, h2, h3 with
    | .cons a p (.cons b q .nil), _, h3 =>
      refine ⟨by rw [e1]; exact h1, rfl, ?_⟩
      exact deep_lift n f m ⟨b, q⟩ _ h3
theorem deep_put (y : Ts) : ∀ (m : Nat) (t : Tm) (d : Nat), deepT m t → deepT m (putAt y d t)
  | 0, _, _, _ => trivial
  | m + 1, ⟨h, x⟩, d, ⟨h1, h2, h3⟩ => by
    have h5 : h.k = 5 := h1
    have e1 : putAt y d ⟨h, x⟩ = ⟨h, putR y h.k 0 d x⟩ := by
      simp only [putAt, putNode]
      rw [if_neg (fun h9 => by rw [h5] at h9; exact absurd h9.1 (by decide))]
    rw [e1]
    match x, h2, h3 with
    | .cons a p (.cons b q .nil), _, h3 =>
      refine ⟨h1, by rw [putR_len]; rfl, ?_⟩
      have := deep_put y m ⟨b, q⟩ (deeper h.k 1 d) h3
      simpa [putR_cons, Ts.tm, Ts.hd, Ts.kd] using this
end Go.Proofs.YtkcmapimcgppmaaGreatDoor
end
section
namespace Go.Proofs.YtkcmapimcgppmaaGreatDoor
open Go.RowKit
attribute [local simp] ty_p ty_l ty_t kH tDs lvDs Tm.ts finH elemH ac_skip ac_label ac_region ac_seq ac_cond ac_block ac_loop ac_exit ac_ret seqK_n seqK_r seqK_e vo_nil vo_cons blkK loopK callOf vout aout abuiltin aslice ev startSt nmOf St.out putE updo upd contOf freshC K0 asC fillD fieldOf rowD astore aapp srcOf elsOf tb Dc.tk Dc.dp Dc.over Dc.app Dc.ln Dc.ds Dc.sing Dc.cont AV.cont Ds.hd Value.oneCell' retK resOf one1 AV.imp Dc.imp φOf calleeOf AV.isLL AV.list AV.app AV.arg AV.isL AV.ren Dc.ren Dc.lent tmC tmA tsA iA lo? abin AV.nth Dc.own Dc.toks stOf envOf bxOf τOf
attribute [local simp] AV.room amake agC lentAgC Ds.len Ds.dp

theorem inner_succ : ∀ (k : Nat) (t : Tm), inner (k + 1) t = (inner k t).x.tm 1
  | 0, _ => rfl
  | k + 1, t => inner_succ k (t.x.tm 1)
theorem deep_inner : ∀ (k m : Nat) (t : Tm), deepT (k + m) t → deepT m (inner k t)
  | 0, m, t, h => by rwa [Nat.zero_add] at h
  | k + 1, m, t, h => by
    rw [show k + 1 + m = (k + m) + 1 by omega] at h
    exact deep_inner k m _ h.2.2
def st116 (row : Ts) (P : Tm) (k : Nat) : St := stOf [(2, tsA none row), (12, .bx 13 0), (13, .bx 14 0), (14, iA k)] [(13, 26, .lit (.int .i64 0) (.lit (.int .i64 0) (.lit (.int .i64 0) (.nilr 1 43 (.nilr 5 26 .nil))))), (14, 26, tmC none none (inner k P).h (inner k P).x)] []
set_option maxHeartbeats 1000000 in
theorem k116 (r : Rl) (i : Nat) (row : Ts) (t : Tm) (v : Ts) (far : Int) (hi : i ≤ r.g.length) (hl : r.g.length ≤ 1000000) (hv : v.len ≤ 1000000) (hr : row.fits) (hrs : row.size ≤ 1000000) (ht : t.fits) (hts : t.size ≤ 1000000)
    (hA : (aboveT 5 row t).fits) (hAs : (aboveT 5 row t).size ≤ 1000000) (hL : ((aboveT 5 row t).lift far i).fits) (hLs : ((aboveT 5 row t).lift far i).size ≤ 1000000) (hB : (byT (r.g.take i) 0 v).fits) (hBs : (byT (r.g.take i) 0 v).size ≤ 1000000) :
    HH 116 [rlL r, iA i, tsA none row, tmL t, tsA none v, iA far] (tmL (movedT r.g v far i row t)) := by
  have hrl : row.len ≤ 1000000 := Nat.le_trans (len_le_size row) hrs
  have d0 : row.len * 5 / 5 = row.len := by omega
  have hdeep : deepT row.len (putAt (byT (r.g.take i) 0 v) 0 ((aboveT 5 row t).lift far i)) := deep_put _ _ _ _ (deep_lift far i _ _ 0 (deep_above row t))
  have hres : movedT r.g v far i row t = inner row.len (putAt (byT (r.g.take i) 0 v) 0 ((aboveT 5 row t).lift far i)) := rfl
  have q1 := k196 row t hr hrs ht hts
  have q2 := h63 (aboveT 5 row t) far i hA (by omega)
  have q3 := k197 r v i hi hl hv
  have q4 := k195 (byT (r.g.take i) 0 v) ((aboveT 5 row t).lift far i) hB hBs hL hLs
  rw [hres]
  clear hres hA hAs hL hLs hB hBs
  generalize putAt (byT (r.g.take i) 0 v) 0 ((aboveT 5 row t).lift far i) = P at *
  generalize (aboveT 5 row t).lift far i = L at *
  generalize byT (r.g.take i) 0 v = B at *
  generalize aboveT 5 row t = A at *
  refine ab Tryz.func116 Tryz.ntmps116 Tryz.results116 rfl (by decide) (by simp) rfl rfl ?_
  simp [rlL, rlC]
  refine ⟨by kernel_rfl, ?_⟩
  refine asks q1 ?_ ?_ ?_ <;> simp
  refine asks q2 ?_ ?_ ?_ <;> simp
  refine asks q3 ?_ ?_ ?_ <;> simp [rlL, rlC]
  refine asks q4 ?_ ?_ ?_ <;> simp
  refine lp (α := { k : Nat // k ≤ row.len }) (fun k => st116 row P k.1) (fun k => row.len - k.1) ⟨0, Nat.zero_le _⟩ ?_ ?_
  · refine le_of [] ?_ ?_ ?_ <;> simp [AV.ok, Dc.ok, inner]
  · rintro ⟨k, hk⟩
    have hw : IntKind.i64.wrap ((k : Int) + 1) = k + 1 := by rw [IntKind.wrap_i64]; omega
    by_cases hlt : k < row.len
    · have h1 := deep_inner k (row.len - k - 1 + 1) P (by rw [show k + (row.len - k - 1 + 1) = row.len by omega]; exact hdeep)
      have h2 := inner_succ k P
      generalize hI : inner k P = I at *
      generalize hJ : inner (k + 1) P = J at *
      obtain ⟨ih, ix⟩ := I
      obtain ⟨-, h3, -⟩ := h1
      match ix, h3, h2, hI with
      | .cons a p (.cons b q .nil), _, h2, hI =>
        simp [st116, tDs_len, d0, hlt, hI]
        refine ⟨k + 1, by omega, by omega, ?_⟩
        refine le_of [] ?_ ?_ ?_ <;> simp [AV.ok, Dc.ok, hw, hJ, h2, Ts.tm, Ts.hd, Ts.kd]
    · obtain rfl : k = row.len := by omega
      simp [st116, tDs_len, d0]
      exact ⟨[], by simp⟩
end Go.Proofs.YtkcmapimcgppmaaGreatDoor
end
section
namespace Go.Proofs.YtkcmapimcgppmaaGreatDoor
open Go.RowKit

theorem above_fits : ∀ {row : Ts} {t : Tm}, row.fits → t.fits → (aboveT 5 row t).fits
  | .nil, _, _, h => h
  | .cons h x r, t, hr, ht => by
    have ih := above_fits (row := r) hr.2.2 ht
    exact ⟨kH_fits (by decide), hr.1, hr.2.1, ih.1, ih.2, trivial⟩
theorem above_size : ∀ (row : Ts) (t : Tm), (aboveT 5 row t).size ≤ 2 * row.size + t.size
  | .nil, t => by simp [aboveT, Ts.size]
  | .cons h x r, t => by
    have ih := above_size r t
    have e : (aboveT 5 (.cons h x r) t).size = 1 + lvSize h.l + x.size + (1 + (aboveT 5 r t).size) := by
      rw [← ts_size]; simp only [aboveT, Tm.size, Ts.size, kH, lvSize]; omega
    rw [e]
    simp only [Ts.size]
    omega
theorem wrap_in (n : Int) : -9223372036854775808 ≤ IntKind.i64.wrap n ∧ IntKind.i64.wrap n ≤ 9223372036854775807 := by
  rw [IntKind.wrap_i64]; omega
theorem hdlift_fits {h : Hd} (n f : Int) (d : Nat) (hf : h.fits) : (h.lift n f d).fits := by
  unfold Hd.lift
  split
  · exact ⟨hf.1, wrap_in _, hf.2.2⟩
  · exact hf
theorem hdlift_l (h : Hd) (n f : Int) (d : Nat) : (h.lift n f d).l = h.l := by
  unfold Hd.lift; split <;> rfl
theorem tslift_fits (n f : Int) : ∀ {t : Ts} (k : Int) (i d : Nat), t.fits → (t.lift n f k i d).fits
  | .nil, _, _, _, _ => trivial
  | .cons h x r, k, i, d, hf => ⟨hdlift_fits n f _ hf.1, tslift_fits n f _ _ _ hf.2.1, tslift_fits n f _ _ _ hf.2.2⟩
theorem tslift_size (n f : Int) : ∀ (t : Ts) (k : Int) (i d : Nat), (t.lift n f k i d).size = t.size
  | .nil, _, _, _ => rfl
  | .cons h x r, k, i, d => by
    simp only [Ts.lift, Ts.size, hdlift_l, tslift_size n f x, tslift_size n f r]
theorem lift_fits {t : Tm} (n f : Int) (hf : t.fits) : (t.lift n f).fits := ⟨hdlift_fits n f _ hf.1, tslift_fits n f _ _ _ hf.2⟩
theorem lift_size (t : Tm) (n f : Int) : (t.lift n f).size = t.size := by
  simp only [Tm.lift, Tm.size, hdlift_l, tslift_size]
theorem one_fits {a : Ag} {n : Nat} {v : Ts} (hv : v.fits) : (byOne a n v).fits := by
  unfold byOne
  split
  · rename_i h
    exact Ts.fits_hd hv h.2
  · exact ⟨num_fits (by decide) (by decide) (by decide), trivial⟩
theorem by_fits {v : Ts} (hv : v.fits) : ∀ (l : List Ag) (n : Nat), (byT l n v).fits
  | [], _ => trivial
  | a :: r, n => ⟨(one_fits hv).1, (one_fits hv).2, by_fits hv r _⟩
end Go.Proofs.YtkcmapimcgppmaaGreatDoor
end
section
namespace Go.Proofs.YtkcmapimcgppmaaGreatDoor
open Go.RowKit
attribute [local simp] ty_p ty_l ty_t kH tDs lvDs Tm.ts finH elemH ac_skip ac_label ac_region ac_seq ac_cond ac_block ac_loop ac_exit ac_ret seqK_n seqK_r seqK_e vo_nil vo_cons blkK loopK callOf vout aout abuiltin aslice ev startSt nmOf St.out putE updo upd contOf freshC K0 asC fillD fieldOf rowD astore aapp srcOf elsOf tb Dc.tk Dc.dp Dc.over Dc.app Dc.ln Dc.ds Dc.sing Dc.cont AV.cont Ds.hd Value.oneCell' retK resOf one1 AV.imp Dc.imp φOf calleeOf AV.isLL AV.list AV.app AV.arg AV.isL AV.ren Dc.ren Dc.lent tmC tmA tsA iA lo? abin AV.nth Dc.own Dc.toks stOf envOf bxOf τOf
attribute [local simp] AV.room amake agC lentAgC Ds.len Ds.dp

theorem one_size (a : Ag) (n : Nat) (v : Ts) : (byOne a n v).size ≤ v.size := by
  unfold byOne
  split
  · rename_i h
    have := Ts.size_kd h.2
    unfold Tm.size Ts.tm
    simp only
    omega
  · simp [Tm.size, elemH, lvSize, Ts.size]
theorem by_size (v : Ts) : ∀ (l : List Ag) (n : Nat), (byT l n v).size ≤ l.length * (v.size + 1)
  | [], _ => by simp [byT, Ts.size]
  | a :: r, n => by
    have h1 := one_size a n v
    have h2 := by_size v r (n + plainN [a])
    unfold Tm.size at h1
    simp only [byT, Ts.size, List.length_cons, Nat.add_mul, Nat.one_mul]
    omega
/-- A rule's index, moved. -/
def endT (r : Rl) (v : Ts) (far : Int) : Ts → Ts
  | .nil => .nil
  | .cons h x q => .cons (movedT r.g v far r.g.length .nil ⟨h, x⟩).h (movedT r.g v far r.g.length .nil ⟨h, x⟩).x (endT r v far q)
theorem endT_app (r : Rl) (v : Ts) (far : Int) : ∀ a b : Ts, endT r v far (a.app b) = (endT r v far a).app (endT r v far b)
  | .nil, _ => rfl
  | .cons h x a, b => by simp only [Ts.app, endT]; rw [endT_app r v far a b]
theorem endT_len (r : Rl) (v : Ts) (far : Int) : ∀ a : Ts, (endT r v far a).len = a.len
  | .nil => rfl
  | .cons h x a => by simp only [endT, Ts.len]; rw [endT_len r v far a]
def st44 (r : Rl) (v : Ts) (far : Int) (a : Ts) : St := stOf [(1, tsA none v), (2, iA far), (3, .bx 4 0), (7, .c (.blk 31 (a.len + 1) 5 26 (.seg none (tDs ty (endT r v far a)) .nil) .nil)), (8, iA a.len)] [(4, 65, rlC r)] [(31, a.len + 1)]
set_option maxHeartbeats 1000000 in
theorem k44 (r : Rl) (v : Ts) (far : Int) (hl : r.g.length ≤ 1000) (hv : v.fits) (hsz : r.g.length * (v.size + 1) ≤ 1000000) (hvs : v.size ≤ 1000000) (hf : r.i.fits) (hs : r.i.size ≤ 1000000) : HH 44 [rlL r, tsA none v, iA far] (tsA none (endT r v far r.i)) := by
  have hil : r.i.len ≤ 1000000 := Nat.le_trans (len_le_size r.i) hs
  have hvl : v.len ≤ 1000000 := Nat.le_trans (len_le_size v) hvs
  have d0 : r.i.len * 5 / 5 = r.i.len := by omega
  have dg : r.g.length * 9 / 9 = r.g.length := by omega
  have hby := by_size v (r.g.take r.g.length) 0
  rw [List.take_length] at hby
  refine ab Tryz.func44 Tryz.ntmps44 Tryz.results44 rfl (by decide) (by simp) rfl rfl ?_
  simp [rlL, rlC]
  refine lp (α := { q : Ts × Ts // q.1.app q.2 = r.i }) (fun q => st44 r v far q.1.1) (fun q => q.1.2.len) ⟨(.nil, r.i), rfl⟩ ?_ ?_
  · refine le_of [((31, 0), [(31, 0)])] ?_ ?_ ?_ <;> simp [AV.ok, Dc.ok, rlC, endT, Ts.len]
  · rintro ⟨⟨a, q⟩, hq⟩
    simp only at hq
    cases q with
    | nil =>
      have e : a = r.i := by rw [← hq]; exact (Ts.app_nil a).symm
      rw [← e] at d0
      simp [st44, rlC, tDs_len, d0, ← e, Ds.app_nil]
      exact ⟨[], by simp⟩
    | cons h y q =>
      have h1 : a.len < r.i.len := by rw [← hq]; simp [Ts.app_len, Ts.len]
      have h2 : (tDs ty r.i).dp (a.len * 5) = tDs ty (.cons h y q) := by rw [← hq]; exact dp_mid a _
      have h3 : h.fits ∧ y.fits := app_fits (a := a) (by rw [hq]; exact hf)
      have h4 : lvSize h.l + y.size + 1 ≤ r.i.size := by rw [← hq]; exact app_size
      have hw : IntKind.i64.wrap ((a.len : Int) + 1) = a.len + 1 := by rw [IntKind.wrap_i64]; omega
      have hts : (⟨h, y⟩ : Tm).size ≤ 1000000 := by unfold Tm.size; simp only; omega
      have q1 := k116 r r.g.length .nil ⟨h, y⟩ v far (Nat.le_refl _) (by omega) hvl trivial (by simp [Ts.size]) h3 hts (above_fits trivial h3) (Nat.le_trans (above_size _ _) (by simp only [Ts.size]; omega)) (lift_fits _ _ (above_fits trivial h3)) (by rw [lift_size]; exact Nat.le_trans (above_size _ _) (by simp only [Ts.size]; omega)) (by_fits hv _ _) (by rw [List.take_length]; omega)
      have e1 : endT r v far (a.app (.cons h y .nil)) = (endT r v far a).app (.cons (movedT r.g v far r.g.length .nil ⟨h, y⟩).h (movedT r.g v far r.g.length .nil ⟨h, y⟩).x .nil) := by rw [endT_app]; rfl
      generalize movedT r.g v far r.g.length .nil ⟨h, y⟩ = P at *
      simp [st44, rlC, tDs_len, d0, h1, h2, agDs_len, dg]
      refine ⟨by kernel_rfl, by omega, ?_⟩
      refine asks q1 ?_ ?_ ?_ <;> simp [rlL, rlC]
      refine ⟨by rw [tDs_len, endT_len]; omega, a.app (.cons h y .nil), q, by simp [Ts.len], by rw [Ts.app_assoc]; exact hq, ?_⟩
      refine le_of [((31, 0), [(31, 0)])] ?_ ?_ ?_ <;> simp [Ts.len, Ts.app_len, AV.ok, Dc.ok, hw, rlC, e1]
      rw [tDs_app]; rfl
end Go.Proofs.YtkcmapimcgppmaaGreatDoor
end
section
namespace Go.Proofs.YtkcmapimcgppmaaGreatDoor
open Go.RowKit
attribute [local simp] ty_p ty_l ty_t kH tDs lvDs Tm.ts finH elemH ac_skip ac_label ac_region ac_seq ac_cond ac_block ac_loop ac_exit ac_ret seqK_n seqK_r seqK_e vo_nil vo_cons blkK loopK callOf vout aout abuiltin aslice ev startSt nmOf St.out putE updo upd contOf freshC K0 asC fillD fieldOf rowD astore aapp srcOf elsOf tb Dc.tk Dc.dp Dc.over Dc.app Dc.ln Dc.ds Dc.sing Dc.cont AV.cont Ds.hd Value.oneCell' retK resOf one1 AV.imp Dc.imp φOf calleeOf AV.isLL AV.list AV.app AV.arg AV.isL AV.ren Dc.ren Dc.lent tmC tmA tsA iA lo? abin AV.nth Dc.own Dc.toks stOf envOf bxOf τOf
attribute [local simp] AV.room amake agC lentAgC Ds.len Ds.dp

/-- A plain argument's type, moved. -/
def typeOf (g : List Ag) (k n : Nat) (a : Ag) : Tm := movedT g (varsT 0 n) n k .nil a.t
def typesT (g : List Ag) : List Ag → Nat → Nat → Ts
  | [], _, _ => .nil
  | a :: r, k, n => if a.r then typesT g r (k + 1) n else .cons (typeOf g k n a).h (typeOf g k n a).x (typesT g r (k + 1) (n + 1))
theorem typesT_app (g : List Ag) : ∀ (a b : List Ag) (k n : Nat), typesT g (a ++ b) k n = (typesT g a k n).app (typesT g b (k + a.length) (n + plainN a))
  | [], b, k, n => rfl
  | x :: a, b, k, n => by
    have e : plainN (x :: a) = plainN [x] + plainN a := plainN_app [x] a
    cases hr : x.r with
    | true =>
      have e4 : plainN [x] = 0 := by simp [plainN, hr]
      simp only [List.cons_append, typesT, hr, if_true, List.length_cons]
      rw [typesT_app g a b (k + 1) n, e, e4, Nat.zero_add, show k + 1 + a.length = k + (a.length + 1) by omega]
    | false =>
      have e4 : plainN [x] = 1 := by simp [plainN, hr]
      simp only [List.cons_append, typesT, hr, Bool.false_eq_true, if_false, List.length_cons, Ts.app]
      rw [typesT_app g a b (k + 1) (n + 1), e, e4, show k + 1 + a.length = k + (a.length + 1) by omega, show n + 1 + plainN a = n + (1 + plainN a) by omega]
theorem typesT_len (g : List Ag) : ∀ (a : List Ag) (k n : Nat), (typesT g a k n).len = plainN a
  | [], _, _ => rfl
  | x :: a, k, n => by
    have e : plainN (x :: a) = plainN [x] + plainN a := plainN_app [x] a
    cases hr : x.r with
    | true =>
      have e4 : plainN [x] = 0 := by simp [plainN, hr]
      simp only [typesT, hr, if_true]
      rw [typesT_len g a (k + 1) n, e, e4, Nat.zero_add]
    | false =>
      have e4 : plainN [x] = 1 := by simp [plainN, hr]
      simp only [typesT, hr, Bool.false_eq_true, if_false, Ts.len]
      rw [typesT_len g a (k + 1) (n + 1), e, e4]; omega
theorem varsT_fits : ∀ n, (varsT 0 n).fits
  | 0 => trivial
  | n + 1 => ⟨⟨⟨by show (-9223372036854775808 : Int) ≤ 1; decide, by show (1 : Int) ≤ 9223372036854775807; decide⟩, wrap_in _, ⟨by show (-9223372036854775808 : Int) ≤ 0; decide, by show (0 : Int) ≤ 9223372036854775807; decide⟩, fun p hp => by cases hp⟩, trivial, varsT_fits n⟩
theorem varsT_size : ∀ n, (varsT 0 n).size = n
  | 0 => rfl
  | n + 1 => by simp only [varsT, Ts.size, lvSize, varsT_size n]; omega
end Go.Proofs.YtkcmapimcgppmaaGreatDoor
end
section
namespace Go.Proofs.YtkcmapimcgppmaaGreatDoor
open Go.RowKit
attribute [local simp] ty_p ty_l ty_t kH tDs lvDs Tm.ts finH elemH ac_skip ac_label ac_region ac_seq ac_cond ac_block ac_loop ac_exit ac_ret seqK_n seqK_r seqK_e vo_nil vo_cons blkK loopK callOf vout aout abuiltin aslice ev startSt nmOf St.out putE updo upd contOf freshC K0 asC fillD fieldOf rowD astore aapp srcOf elsOf tb Dc.tk Dc.dp Dc.over Dc.app Dc.ln Dc.ds Dc.sing Dc.cont AV.cont Ds.hd Value.oneCell' retK resOf one1 AV.imp Dc.imp φOf calleeOf AV.isLL AV.list AV.app AV.arg AV.isL AV.ren Dc.ren Dc.lent tmC tmA tsA iA lo? abin AV.nth Dc.own Dc.toks stOf envOf bxOf τOf
attribute [local simp] AV.room amake agC lentAgC Ds.len Ds.dp

def agFits (l : List Ag) : Prop := ∀ a ∈ l, a.t.fits ∧ a.e.fits ∧ a.i.fits
def st41 (r : Rl) (k : Nat) : St := stOf [(1, .bx 2 0), (3, .c (.blk 37 (plainN (r.g.take k) + 1) 5 26 (.seg none (tDs ty (typesT r.g (r.g.take k) 0 0)) .nil) .nil)), (4, iA k)] [(2, 65, rlC r)] [(37, plainN (r.g.take k) + 1)]
set_option maxRecDepth 10000 in
set_option maxHeartbeats 1000000 in
theorem k41 (r : Rl) (hl : r.g.length ≤ 500) (hs : szAg r.g ≤ 1000000) (hf : agFits r.g) : HH 41 [rlL r] (tsA none (typesT r.g r.g 0 0)) := by
  refine ab Tryz.func41 Tryz.ntmps41 Tryz.results41 rfl (by decide) (by simp) rfl rfl ?_
  have d0 : r.g.length * 9 / 9 = r.g.length := by omega
  simp [rlL, rlC]
  refine lp (α := { k : Nat // k ≤ r.g.length }) (fun k => st41 r k.1) (fun k => r.g.length - k.1) ⟨0, Nat.zero_le _⟩ ?_ ?_
  · refine le_of [((37, 0), [(37, 0)])] ?_ ?_ ?_ <;> simp [AV.ok, Dc.ok, rlC, typesT, plainN]
  · rintro ⟨k, hk⟩
    have hw : IntKind.i64.wrap ((k : Int) + 1) = k + 1 := by rw [IntKind.wrap_i64]; omega
    by_cases hlt : k < r.g.length
    · have h1 := dp_ag hlt
      have hsz := szAg_at hlt
      have hfa := hf _ (List.getElem_mem hlt)
      have hpl := plainN_le (r.g.take k)
      have htl : (r.g.take k).length = k := by rw [List.length_take]; omega
      have e1 : typesT r.g (r.g.take (k + 1)) 0 0 = (typesT r.g (r.g.take k) 0 0).app (typesT r.g [r.g[k]] k (plainN (r.g.take k))) := by
        rw [take_ag hlt, typesT_app, htl, Nat.zero_add, Nat.zero_add]
      have e2 : plainN (r.g.take (k + 1)) = plainN (r.g.take k) + plainN [r.g[k]] := by rw [take_ag hlt, plainN_app]
      have hbl := typesT_len r.g (r.g.take k) 0 0
      rw [htl] at hpl
      generalize hB1 : typesT r.g (r.g.take (k + 1)) 0 0 = B1 at *
      generalize hN1 : plainN (r.g.take (k + 1)) = N1 at *
      generalize hB : typesT r.g (r.g.take k) 0 0 = B at *
      generalize hN : plainN (r.g.take k) = N at *
      generalize hq : r.g.drop (k + 1) = q at h1
      generalize ha : r.g[k] = a at *
      cases hr : a.r with
      | true =>
        have e4 : plainN [a] = 0 := by simp [plainN, hr]
        have e5 : typesT r.g [a] k N = .nil := by simp [typesT, hr]
        rw [e5, Ts.app_nil] at e1
        rw [e4, Nat.add_zero] at e2
        simp [st41, rlC, agDs_len, d0, hlt, h1, agDs, hr]
        refine ⟨by omega, k + 1, by omega, by omega, ?_⟩
        refine le_of [((37, 0), [(37, 0)])] ?_ ?_ ?_ <;> simp [AV.ok, Dc.ok, hw, rlC, hB1, hN1, hB, hN, e1, e2, Ds.app_nil]
      | false =>
        have e4 : plainN [a] = 1 := by simp [plainN, hr]
        have e5 : typesT r.g [a] k N = .cons (typeOf r.g k N a).h (typeOf r.g k N a).x .nil := by simp [typesT, hr]
        rw [e5] at e1
        rw [e4] at e2
        have db : B.len * 5 / 5 = N := by rw [hbl]; omega
        have dz : (B.len : Int) * 5 / 5 = N := by rw [hbl]; omega
        have hby := by_size (varsT 0 N) (r.g.take k) 0
        rw [htl, varsT_size] at hby
        have hb3 : k * (N + 1) ≤ 500 * 501 := Nat.mul_le_mul (by omega) (by omega)
        have q0 := k117 N (by omega)
        have q1 := k116 r k .nil a.t (varsT 0 N) N (by omega) (by omega) (by rw [varsT_len]; omega) trivial (by simp [Ts.size]) hfa.1 (by omega) (above_fits trivial hfa.1) (Nat.le_trans (above_size _ _) (by simp only [Ts.size]; omega)) (lift_fits _ _ (above_fits trivial hfa.1)) (by rw [lift_size]; exact Nat.le_trans (above_size _ _) (by simp only [Ts.size]; omega)) (by_fits (varsT_fits N) _ _) (by omega)
        change HH 116 _ (tmL (typeOf r.g k N a)) at q1
        generalize typeOf r.g k N a = P at *
        simp [st41, rlC, tDs_len, agDs_len, d0, hlt, h1, agDs, hr, hB, hN, db, dz, Ds.app_nil]
        refine ⟨by omega, by kernel_rfl, by omega, ?_⟩
        refine asks q0 ?_ ?_ ?_ <;> simp
        refine asks q1 ?_ ?_ ?_ <;> simp [rlL, rlC]
        refine ⟨by rw [tDs_len]; omega, k + 1, by omega, by omega, ?_⟩
        refine le_of [((37, 0), [(37, 0)])] ?_ ?_ ?_ <;> simp [AV.ok, Dc.ok, hw, rlC, hB1, hN1, e2]
        rw [e1, tDs_app]; rfl
    · obtain rfl : k = r.g.length := by omega
      simp [st41, rlC, agDs_len, d0, Ds.app_nil]
      exact ⟨[], by simp⟩
end Go.Proofs.YtkcmapimcgppmaaGreatDoor
end
section
namespace Go.Proofs.YtkcmapimcgppmaaGreatDoor
open Go.RowKit
attribute [local simp] ty_p ty_l ty_t kH tDs lvDs Tm.ts finH elemH ac_skip ac_label ac_region ac_seq ac_cond ac_block ac_loop ac_exit ac_ret seqK_n seqK_r seqK_e vo_nil vo_cons blkK loopK callOf vout aout abuiltin aslice ev startSt nmOf St.out putE updo upd contOf freshC K0 asC fillD fieldOf rowD astore aapp srcOf elsOf tb Dc.tk Dc.dp Dc.over Dc.app Dc.ln Dc.ds Dc.sing Dc.cont AV.cont Ds.hd Value.oneCell' retK resOf one1 AV.imp Dc.imp φOf calleeOf AV.isLL AV.list AV.app AV.arg AV.isL AV.ren Dc.ren Dc.lent tmC tmA tsA iA lo? abin AV.nth Dc.own Dc.toks stOf envOf bxOf τOf
attribute [local simp] AV.room amake agC lentAgC Ds.len Ds.dp

/-- Terms below a row, moved. -/
def rowT (g : List Ag) (v : Ts) (far : Int) (i : Nat) (e : Ts) : Ts → Ts
  | .nil => .nil
  | .cons h x q => .cons (movedT g v far i e ⟨h, x⟩).h (movedT g v far i e ⟨h, x⟩).x (rowT g v far i e q)
theorem rowT_app (g : List Ag) (v : Ts) (far : Int) (i : Nat) (e : Ts) : ∀ a b : Ts, rowT g v far i e (a.app b) = (rowT g v far i e a).app (rowT g v far i e b)
  | .nil, _ => rfl
  | .cons h x a, b => by simp only [Ts.app, rowT]; rw [rowT_app g v far i e a b]
theorem rowT_len (g : List Ag) (v : Ts) (far : Int) (i : Nat) (e : Ts) : ∀ a : Ts, (rowT g v far i e a).len = a.len
  | .nil => rfl
  | .cons h x a => by simp only [rowT, Ts.len]; rw [rowT_len g v far i e a]
theorem k43_out (r : Rl) (v : Ts) (far n : Int) (hl : r.g.length ≤ 500) (hn : n < 0 ∨ (r.g.length : Int) ≤ n) : HH 43 [rlL r, iA n, tsA none v, iA far] (tsA none .nil) := by
  refine ab Tryz.func43 Tryz.ntmps43 Tryz.results43 rfl (by decide) (by simp) rfl rfl ?_
  have d0 : r.g.length * 9 / 9 = r.g.length := by omega
  by_cases h0 : n < 0
  · simp [rlL, rlC, h0]
    exact ⟨[], by simp⟩
  · have h1 : (r.g.length : Int) ≤ n := by omega
    simp [rlL, rlC, h0, agDs_len, d0, h1]
    exact ⟨[], by simp⟩
def st43 (r : Rl) (v : Ts) (far : Int) (i : Nat) (b : Ag) (a : Ts) : St := stOf [(1, iA i), (2, tsA none v), (3, iA far), (4, .bx 5 0), (9, .c (.blk 48 (a.len + 1) 5 26 (.seg none (tDs ty (rowT r.g v far i b.e a)) .nil) .nil)), (10, .bx 11 0), (11, iA a.len)] [(5, 65, rlC r), (11, 82, agC b)] [(48, a.len + 1)]
set_option maxRecDepth 10000 in
set_option maxHeartbeats 2000000 in
theorem k43 (r : Rl) (v : Ts) (far : Int) (i : Nat) (hi : i < r.g.length) (hl : r.g.length ≤ 500) (hs : szAg r.g ≤ 300000) (hf : agFits r.g) (hv : v.fits) (hsz : i * (v.size + 1) ≤ 1000000) (hvs : v.size ≤ 1000000) :
    HH 43 [rlL r, iA i, tsA none v, iA far] (tsA none (rowT r.g v far i r.g[i].e r.g[i].i)) := by
  have h1 := dp_ag hi
  have hsa := szAg_at hi
  obtain ⟨f1, f2, f3⟩ := hf _ (List.getElem_mem hi)
  have hvl : v.len ≤ 1000000 := Nat.le_trans (len_le_size v) hvs
  have dg : r.g.length * 9 / 9 = r.g.length := by omega
  have hby := by_size v (r.g.take i) 0
  rw [List.length_take, show min i r.g.length = i by omega] at hby
  generalize r.g.drop (i + 1) = qq at h1
  generalize r.g[i] = b at *
  have hil : b.i.len ≤ 1000000 := Nat.le_trans (len_le_size b.i) (by omega)
  have d0 : b.i.len * 5 / 5 = b.i.len := by omega
  have h0 : ¬ (i : Int) < 0 := by omega
  refine ab Tryz.func43 Tryz.ntmps43 Tryz.results43 rfl (by decide) (by simp) rfl rfl ?_
  have hi2 : ¬ r.g.length ≤ i := by omega
  simp [rlL, rlC, h0, agDs_len, dg, hi, hi2, h1, agDs]
  refine ⟨by omega, ?_⟩
  refine lp (α := { q : Ts × Ts // q.1.app q.2 = b.i }) (fun q => st43 r v far i b q.1.1) (fun q => q.1.2.len) ⟨(.nil, b.i), rfl⟩ ?_ ?_
  · refine le_of [((48, 0), [(48, 0)])] ?_ ?_ ?_ <;> simp [AV.ok, Dc.ok, rlC, rowT, Ts.len]
  · rintro ⟨⟨a, q⟩, hq⟩
    simp only at hq
    cases q with
    | nil =>
      have e : a = b.i := by rw [← hq]; exact (Ts.app_nil a).symm
      rw [← e] at d0
      simp [st43, rlC, tDs_len, d0, ← e, Ds.app_nil]
      exact ⟨[], by simp⟩
    | cons h y q =>
      have h3 : a.len < b.i.len := by rw [← hq]; simp [Ts.app_len, Ts.len]
      have h2 : (tDs ty b.i).dp (a.len * 5) = tDs ty (.cons h y q) := by rw [← hq]; exact dp_mid a _
      have h4 : h.fits ∧ y.fits := app_fits (a := a) (by rw [hq]; exact f3)
      have h5 : lvSize h.l + y.size + 1 ≤ b.i.size := by rw [← hq]; exact app_size
      have hw : IntKind.i64.wrap ((a.len : Int) + 1) = a.len + 1 := by rw [IntKind.wrap_i64]; omega
      have hts : (⟨h, y⟩ : Tm).size ≤ 300000 := by unfold Tm.size; simp only; omega
      have hab := above_size b.e ⟨h, y⟩
      have q1 := k116 r i b.e ⟨h, y⟩ v far (by omega) (by omega) hvl f2 (by omega) h4 (by omega) (above_fits f2 h4) (by omega) (lift_fits _ _ (above_fits f2 h4)) (by rw [lift_size]; omega) (by_fits hv _ _) (by omega)
      have e1 : rowT r.g v far i b.e (a.app (.cons h y .nil)) = (rowT r.g v far i b.e a).app (.cons (movedT r.g v far i b.e ⟨h, y⟩).h (movedT r.g v far i b.e ⟨h, y⟩).x .nil) := by rw [rowT_app]; rfl
      generalize movedT r.g v far i b.e ⟨h, y⟩ = P at *
      simp [st43, rlC, tDs_len, d0, h3, h2]
      refine ⟨by kernel_rfl, by omega, ?_⟩
      refine asks q1 ?_ ?_ ?_ <;> simp [rlL, rlC]
      refine ⟨by rw [tDs_len, rowT_len]; omega, a.app (.cons h y .nil), q, by simp [Ts.len], by rw [Ts.app_assoc]; exact hq, ?_⟩
      refine le_of [((48, 0), [(48, 0)])] ?_ ?_ ?_ <;> simp [Ts.len, Ts.app_len, AV.ok, Dc.ok, hw, rlC, e1]
      rw [tDs_app]; rfl
end Go.Proofs.YtkcmapimcgppmaaGreatDoor
end
