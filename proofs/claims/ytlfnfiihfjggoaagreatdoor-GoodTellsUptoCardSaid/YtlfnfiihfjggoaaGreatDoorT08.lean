/-
  A row laid above a term, all of it the call's own, and what follows. Conditions: as each lemma states them.
-/
import Derived.Test.YtlfnfiihfjggoaaGreatDoorT07
import Derived.Deep.RegionWith
import Derived.Test.YtlfnfiihfjggoaaGreatDoorT06
import Derived.Test.YtlfnfiihfjggoaaGreatDoorT04
import Derived.WalkLawsBesides
set_option linter.all false
set_option linter.unusedVariables false
set_option linter.unusedSimpArgs false
set_option linter.unnecessarySimpa false
set_option maxHeartbeats 8000000
set_option maxRecDepth 100000
namespace Go.Proofs.YtlfnfiihfjggoaaGreatDoor
open Go.RowKit Go.Proofs.Tryz
section
attribute [local go_sem] Oper.semAt_some

theorem R2 {t : Ts} {va : Value} {W : World} (hf : t.fits) (hs : t.size ≤ 100000000) (hG : KA W) (ha : RT ty W va t) : Calls prog 153 #[va] W fun e w' => ∃ v S, e = .returned (.agg #[v]) ∧ Below W.heap.size W w' ∧ Own w' W.heap.size (.row 5 27 (tDs ty t) .nil .nil) [v] S ∧ S.Nodup := by
  obtain ⟨-, -, h⟩ := o_of t hf hs
  refine (h (U W) W [va] (fun _ _ _ h => h) hG (arg1 (ts_arg ha))).mono ?_
  rintro e w' ⟨v, fp, rfl, hb, hr, h1, h2⟩
  obtain ⟨ys, e1, -, v1, _, rfl, h3, h4, rfl⟩ := hr
  cases e1
  obtain ⟨h5, S, h6, h7, -⟩ := h4 (0, 0) rfl
  exact ⟨v1, S, rfl, hb, h6, h7⟩
theorem ts_five {w : World} {base : Nat} {h : Hd} {x : Ts} {xs : List Value} {S : List Nat} (hO : Own w base (tDs ty (.cons h x .nil)) xs S) : ∃ r m d r' m' d', xs = [.int .i64 h.k, .int .i64 h.n, .int .i64 h.a, .slice r m d, .slice r' m' d'] := by
  obtain ⟨_, rfl, _, rfl, _, rfl, v1, ys, zs, us, B, S1, S2, S3, rfl, h1, h2, h3, h4, rfl⟩ := hO
  obtain ⟨p, n, c, rfl⟩ := mM (x := cB ty h.l) (sz := 1) (e := 30) ⟨v1, [], zs, us, B, S1, S2, [], rfl, h1, h2, h3, ⟨rfl, rfl⟩, rfl⟩
  obtain ⟨v2, ys', zs', us', B', T1, T2, T3, rfl, h5, h6, h7, ⟨rfl, rfl⟩, rfl⟩ := h4
  obtain ⟨p', n', c', rfl⟩ := mM (x := tDs ty x) (sz := 5) (e := 27) ⟨v2, [], zs', us', B', T1, T2, [], rfl, h5, h6, h7, ⟨rfl, rfl⟩, rfl⟩
  exact ⟨_, _, _, _, _, _, rfl⟩
theorem M8 (kk : Int) {t : Ts} {b : Tm} {w2 w3 w4 : World} {p3 : Option Addr} {n3 c3 : Nat} {S1 S2 : List Nat} {base : Nat} {r : Option Addr} {m d : Nat} {r' : Option Addr} {m' d' : Nat} (hO3 : Own w3 w2.heap.size (.row 5 27 (tDs ty t) .nil .nil) [.slice p3 n3 c3] S1) (hN3 : S1.Nodup) (hB4 : Below w3.heap.size w3 w4)
    (hO4 : Own w4 w3.heap.size (tDs ty (.cons b.h b.x .nil)) [.int .i64 b.h.k, .int .i64 b.h.n, .int .i64 b.h.a, .slice r m d, .slice r' m' d'] S2) (hN4 : S2.Nodup) (hle : base ≤ w2.heap.size) (hsz : w2.heap.size ≤ w3.heap.size) :
    Calls prog 154 #[.agg #[.slice p3 n3 c3], .int .i64 kk, .agg #[.int .i64 b.h.k, .int .i64 b.h.n, .int .i64 b.h.a, .slice r m d, .slice r' m' d']] w4 fun e w5 => ∃ r m d r' m' d' S, e = .returned (.agg #[.int .i64 (aG kk t b).h.k, .int .i64 (aG kk t b).h.n, .int .i64 (aG kk t b).h.a, .slice r m d, .slice r' m' d']) ∧ Below w4.heap.size w4 w5 ∧
      Own w5 base (tDs ty (.cons (aG kk t b).h (aG kk t b).x .nil)) [.int .i64 (aG kk t b).h.k, .int .i64 (aG kk t b).h.n, .int .i64 (aG kk t b).h.a, .slice r m d, .slice r' m' d'] S ∧ S.Nodup := by
  have hO3' := hO3.below hB4
  obtain ⟨_, _, e1, h1, -⟩ := hO3'.vs
  cases e1
  refine (X0 True base S1 S2 kk (.slice p3 n3 c3) t _ _ _ _ _ b w4 (U w4) (fun _ _ _ h => h) h1 (MakesT.rm hO4) (fun _ => ⟨by have := hB4.size; omega, hO3'.lower hle, hO4.lower (by omega), List.nodup_append.2 ⟨hN3, hN4, fun a ha b hb e => ?_⟩⟩)).mono ?_
  · have := (hO3.mem a ha).2
    have := (hO4.mem b hb).1
    omega
  · rintro e w5 ⟨v, rfl, h2, -, h3⟩
    obtain ⟨xs, S, rfl, h4, h5⟩ := h3 trivial
    obtain ⟨r, m, d, r', m', d', rfl⟩ := ts_five h4
    exact ⟨r, m, d, r', m', d', S, rfl, h2, h4, h5⟩
theorem yJ (p : Option Addr) (n c : Nat) (W : World) : (Instr.field 174 (.agg #[.slice p n c]) 0).run prog W = .ok (.agg #[.slice p n c]) W := by kernel_rfl
set_option maxRecDepth 100000 in
set_option maxHeartbeats 4000000 in
theorem pis_any (t : Ts) (b : Tm) (va : Value) (p1 p2 : Option Addr) (n1 c1 n2 c2 : Nat) (w : World) (hG : KA w) (ha : RT ty w va t) (hb : RM ty w (.agg #[.int .i64 b.h.k, .int .i64 b.h.n, .int .i64 b.h.a, .slice p1 n1 c1, .slice p2 n2 c2]) b.h b.x)
    (hf : t.fits) (hs : t.size ≤ 100000000) (hbf : b.fits) (hbs : b.size ≤ 100000000) :
    Calls prog 70 #[va, .agg #[.int .i64 b.h.k, .int .i64 b.h.n, .int .i64 b.h.a, .slice p1 n1 c1, .slice p2 n2 c2]] w (MakesT (aG 4 t b).h (aG 4 t b).x w) := by
  have HO : ∀ W, Below w.heap.size w W → Calls prog 153 #[va] W fun e w' => ∃ v S, e = .returned (.agg #[v]) ∧ Below W.heap.size W w' ∧ Own w' W.heap.size (.row 5 27 (tDs ty t) .nil .nil) [v] S ∧ S.Nodup := fun W hW => R2 hf hs (lQ _ _ hW hG) (ha.on hW)
  have HB : ∀ W, Below w.heap.size w W → Calls prog 144 #[.agg #[.int .i64 b.h.k, .int .i64 b.h.n, .int .i64 b.h.a, .slice p1 n1 c1, .slice p2 n2 c2]] W (MakesT b.h b.x W) := fun W hW => (RZ b hbf hbs).made (lQ _ _ hW hG) (arg1 (zD (hb.on hW)))
  replace HO := Lib.hid HO
  replace HB := Lib.hid HB
  clear ha hb hf hs hbf hbs hG
  go_enter func70, ntmps70
  go_wp2_with fail
  obtain ⟨w2, hw2⟩ : ∃ w2, (w.alloc (.cells #[.int .i64 b.h.k, .int .i64 b.h.n, .int .i64 b.h.a, .slice p1 n1 c1, .slice p2 n2 c2] 27)).alloc (.cells cE 27) = w2 := ⟨_, rfl⟩
  have hb2 : Below w.heap.size w w2 := by rw [← hw2]; exact aB (aA _ _) (aA _ _)
  have hs2 : w2.heap.size = w.heap.size + 2 := by rw [← hw2]; simp
  have hx : ∀ o u, (#[.int .i64 b.h.k, .int .i64 b.h.n, .int .i64 b.h.a, .slice p1 n1 c1, .slice p2 n2 c2] : Array Value)[o]? = some u → U w2 w.heap.size o = some u := fun o u hu => by
    rw [← hw2]
    exact aE (aA _ _) _ _ _ (by simp) (aM hu)
  have hz : ∀ o u, cE[o]? = some u → U w2 (w.heap.size + 1) o = some u := fun o u hu => by
    rw [← hw2]
    have := aM (w := w.alloc (.cells #[.int .i64 b.h.k, .int .i64 b.h.n, .int .i64 b.h.a, .slice p1 n1 c1, .slice p2 n2 c2] 27)) (cs := cE) (ty := 27) hu
    simpa using this
  unfold cE at hw2
  rw [hw2]
  have x0 := aD (hx 0 _ rfl)
  have x1 := aD (hx 1 _ rfl)
  have x2 := aD (hx 2 _ rfl)
  have x3 := aD (hx 3 _ rfl)
  have x4 := aD (hx 4 _ rfl)
  have HX : Hid (∀ o u, (#[.int .i64 b.h.k, .int .i64 b.h.n, .int .i64 b.h.a, .slice p1 n1 c1, .slice p2 n2 c2] : Array Value)[o]? = some u → U w2.drew w.heap.size o = some u) := Lib.hid fun o u hu => aE (aZ w2) _ _ _ (by omega) (hx o u hu)
  have HZ : Hid (∀ o u, cE[o]? = some u → U w2.drew (w.heap.size + 1) o = some u) := Lib.hid fun o u hu => aE (aZ w2) _ _ _ (by omega) (hz o u hu)
  have HB2 := Lib.hid (aB hb2 (aZ w2))
  have HS2 : Hid (w2.drew.heap.size = w.heap.size + 2) := Lib.hid (by simpa using hs2)
  clear hx hz hw2 hb2 hs2
  obtain ⟨B, hB⟩ : ∃ B, w.heap.size = B := ⟨_, rfl⟩
  rw [hB]
  rw [hB] at x0 x1 x2 x3 x4
  have HBB := Lib.hid hB
  clear hB
  go_region_with (first
    | (go_at_call 153
       refine (HO.out _ ?_).mono ?_
       · exact HB2.out
       rintro e w3 ⟨v3, S1, rfl, hB3, hO3, hN3⟩
       obtain ⟨p3, n3, c3, rfl⟩ := mM hO3
       have B3 := Lib.hid hB3
       have O3 := Lib.hid hO3
       have N3 := Lib.hid hN3
       have y0 := aD (aE hB3 _ _ _ (by have := HS2.out; omega) (HX.out 0 _ rfl))
       have y1 := aD (aE hB3 _ _ _ (by have := HS2.out; omega) (HX.out 1 _ rfl))
       have y2 := aD (aE hB3 _ _ _ (by have := HS2.out; omega) (HX.out 2 _ rfl))
       have y3 := aD (aE hB3 _ _ _ (by have := HS2.out; omega) (HX.out 3 _ rfl))
       have y4 := aD (aE hB3 _ _ _ (by have := HS2.out; omega) (HX.out 4 _ rfl))
       rw [HBB.out] at y0 y1 y2 y3 y4
       have f3 := yJ p3 n3 c3 w3
       clear hB3 hO3 hN3)
    | (go_at_call 144
       refine (HB.out _ ?_).mono ?_
       · exact aB HB2.out B3.out
       rintro e w4 ⟨r, m, d, r', m', d', S2, rfl, hB4, hO4, hN4⟩
       have B4 := Lib.hid hB4
       have O4 := Lib.hid hO4
       have N4 := Lib.hid hN4
       have f4 := yJ p3 n3 c3 w4
       clear hB4 hO4 hN4)
    | (go_at_call 154
       refine (M8 4 (base := w2.drew.heap.size) O3.out N3.out B4.out O4.out N4.out (Nat.le_refl _) B3.out.size).mono ?_
       rintro e w5 ⟨r, m, d, r', m', d', S, rfl, hB5, hO5, hN5⟩
       have B5 := Lib.hid hB5
       have O5 := Lib.hid hO5
       have N5 := Lib.hid hN5
       have BW : Hid (Below w2.drew.heap.size w2.drew w5) := Lib.hid (aB (aB B3.out B4.out) hB5)
       have Z : Hid (∀ o u, cE[o]? = some u → U w5 (B + 1) o = some u) := Lib.hid fun o u hu => by
         rw [← HBB.out]
         exact aE BW.out _ _ _ (by have := HS2.out; omega) (HZ.out o u hu)
       have z0 := aD (Z.out 0 _ rfl)
       have z1 := aD (Z.out 1 _ rfl)
       have z2 := aD (Z.out 2 _ rfl)
       have z3 := aD (Z.out 3 _ rfl)
       have z4 := aD (Z.out 4 _ rfl)
       have f0 := aI (Z.out 0 _ rfl)
       have f1 := aI (Z.out 1 _ rfl)
       have f2 := aI (Z.out 2 _ rfl)
       have f3 := aI (Z.out 3 _ rfl)
       have f4 := aI (Z.out 4 _ rfl)
       clear hB5 hO5 hN5))
  all_goals (try go_wp2_with fail)
  all_goals
    obtain ⟨W, hW⟩ : ∃ W, ((((w5.setCell ⟨B + 1, 0, none⟩ (.int .i64 (aG 4 t b).h.k)).setCell ⟨B + 1, 1, none⟩ (.int .i64 (aG 4 t b).h.n)).setCell ⟨B + 1, 2, none⟩ (.int .i64 (aG 4 t b).h.a)).setCell ⟨B + 1, 3, none⟩ (.slice r m d)).setCell ⟨B + 1, 4, none⟩ (.slice r' m' d') = W := ⟨_, rfl⟩
    obtain ⟨⟨q0, q1, q2, q3, q4⟩, hBF, hkW⟩ := C8 (w := w) (b := B + 1) Z.out (aB HB2.out BW.out) (by have := HBB.out; omega) hW
    rw [hW]
    refine bodyPost_ret (v := .agg #[.int .i64 (aG 4 t b).h.k, .int .i64 (aG 4 t b).h.n, .int .i64 (aG 4 t b).h.a, .slice r m d, .slice r' m' d']) (by simp [results, results70, go_sem, q0, q1, q2, q3, q4]) rfl ?_
    refine ⟨_, _, _, _, _, _, S, rfl, hBF, (O5.out.kept fun x hx => hkW x ?_).lower (by have := HS2.out; omega), N5.out⟩
    have h7 := (O5.out.mem x hx).1
    have h8 := HS2.out
    have h9 := HBB.out
    omega
theorem o_pis (t : Ts) (b : Tm) (hf : t.fits) (hs : t.size ≤ 100000000) (hbf : b.fits) (hbs : b.size ≤ 100000000) : HH 70 [tsA none t, tmL b] (tmO (aG 4 t b)) :=
  nE (bT func70 (by decide) rfl) fun F w vs hF hG hv => by
    obtain ⟨u, v, rfl, h1, h2⟩ := oZ hv
    have h3 := mQ hF h2
    obtain ⟨p, n, c, p', n', c', rfl, h4, h5⟩ := h3
    exact pis_any t b u p p' n c n' c' w hG (oD hF h1) ⟨_, _, _, _, _, _, rfl, h4, h5⟩ hf hs hbf hbs
set_option maxRecDepth 100000 in
set_option maxHeartbeats 4000000 in
theorem SR (t : Ts) (b : Tm) (va : Value) (p1 p2 : Option Addr) (n1 c1 n2 c2 : Nat) (w : World) (hG : KA w) (ha : RT ty w va t) (hb : RM ty w (.agg #[.int .i64 b.h.k, .int .i64 b.h.n, .int .i64 b.h.a, .slice p1 n1 c1, .slice p2 n2 c2]) b.h b.x)
    (hf : t.fits) (hs : t.size ≤ 100000000) (hbf : b.fits) (hbs : b.size ≤ 100000000) :
    Calls prog 71 #[va, .agg #[.int .i64 b.h.k, .int .i64 b.h.n, .int .i64 b.h.a, .slice p1 n1 c1, .slice p2 n2 c2]] w (MakesT (aG 5 t b).h (aG 5 t b).x w) := by
  have HO : ∀ W, Below w.heap.size w W → Calls prog 153 #[va] W fun e w' => ∃ v S, e = .returned (.agg #[v]) ∧ Below W.heap.size W w' ∧ Own w' W.heap.size (.row 5 27 (tDs ty t) .nil .nil) [v] S ∧ S.Nodup := fun W hW => R2 hf hs (lQ _ _ hW hG) (ha.on hW)
  have HB : ∀ W, Below w.heap.size w W → Calls prog 144 #[.agg #[.int .i64 b.h.k, .int .i64 b.h.n, .int .i64 b.h.a, .slice p1 n1 c1, .slice p2 n2 c2]] W (MakesT b.h b.x W) := fun W hW => (RZ b hbf hbs).made (lQ _ _ hW hG) (arg1 (zD (hb.on hW)))
  replace HO := Lib.hid HO
  replace HB := Lib.hid HB
  clear ha hb hf hs hbf hbs hG
  go_enter func71, ntmps71
  go_wp2_with fail
  obtain ⟨w2, hw2⟩ : ∃ w2, (w.alloc (.cells #[.int .i64 b.h.k, .int .i64 b.h.n, .int .i64 b.h.a, .slice p1 n1 c1, .slice p2 n2 c2] 27)).alloc (.cells cE 27) = w2 := ⟨_, rfl⟩
  have hb2 : Below w.heap.size w w2 := by rw [← hw2]; exact aB (aA _ _) (aA _ _)
  have hs2 : w2.heap.size = w.heap.size + 2 := by rw [← hw2]; simp
  have hx : ∀ o u, (#[.int .i64 b.h.k, .int .i64 b.h.n, .int .i64 b.h.a, .slice p1 n1 c1, .slice p2 n2 c2] : Array Value)[o]? = some u → U w2 w.heap.size o = some u := fun o u hu => by
    rw [← hw2]
    exact aE (aA _ _) _ _ _ (by simp) (aM hu)
  have hz : ∀ o u, cE[o]? = some u → U w2 (w.heap.size + 1) o = some u := fun o u hu => by
    rw [← hw2]
    have := aM (w := w.alloc (.cells #[.int .i64 b.h.k, .int .i64 b.h.n, .int .i64 b.h.a, .slice p1 n1 c1, .slice p2 n2 c2] 27)) (cs := cE) (ty := 27) hu
    simpa using this
  unfold cE at hw2
  rw [hw2]
  have x0 := aD (hx 0 _ rfl)
  have x1 := aD (hx 1 _ rfl)
  have x2 := aD (hx 2 _ rfl)
  have x3 := aD (hx 3 _ rfl)
  have x4 := aD (hx 4 _ rfl)
  have HX : Hid (∀ o u, (#[.int .i64 b.h.k, .int .i64 b.h.n, .int .i64 b.h.a, .slice p1 n1 c1, .slice p2 n2 c2] : Array Value)[o]? = some u → U w2.drew w.heap.size o = some u) := Lib.hid fun o u hu => aE (aZ w2) _ _ _ (by omega) (hx o u hu)
  have HZ : Hid (∀ o u, cE[o]? = some u → U w2.drew (w.heap.size + 1) o = some u) := Lib.hid fun o u hu => aE (aZ w2) _ _ _ (by omega) (hz o u hu)
  have HB2 := Lib.hid (aB hb2 (aZ w2))
  have HS2 : Hid (w2.drew.heap.size = w.heap.size + 2) := Lib.hid (by simpa using hs2)
  clear hx hz hw2 hb2 hs2
  obtain ⟨B, hB⟩ : ∃ B, w.heap.size = B := ⟨_, rfl⟩
  rw [hB]
  rw [hB] at x0 x1 x2 x3 x4
  have HBB := Lib.hid hB
  clear hB
  go_region_with (first
    | (go_at_call 153
       refine (HO.out _ ?_).mono ?_
       · exact HB2.out
       rintro e w3 ⟨v3, S1, rfl, hB3, hO3, hN3⟩
       obtain ⟨p3, n3, c3, rfl⟩ := mM hO3
       have B3 := Lib.hid hB3
       have O3 := Lib.hid hO3
       have N3 := Lib.hid hN3
       have y0 := aD (aE hB3 _ _ _ (by have := HS2.out; omega) (HX.out 0 _ rfl))
       have y1 := aD (aE hB3 _ _ _ (by have := HS2.out; omega) (HX.out 1 _ rfl))
       have y2 := aD (aE hB3 _ _ _ (by have := HS2.out; omega) (HX.out 2 _ rfl))
       have y3 := aD (aE hB3 _ _ _ (by have := HS2.out; omega) (HX.out 3 _ rfl))
       have y4 := aD (aE hB3 _ _ _ (by have := HS2.out; omega) (HX.out 4 _ rfl))
       rw [HBB.out] at y0 y1 y2 y3 y4
       have f3 := yJ p3 n3 c3 w3
       clear hB3 hO3 hN3)
    | (go_at_call 144
       refine (HB.out _ ?_).mono ?_
       · exact aB HB2.out B3.out
       rintro e w4 ⟨r, m, d, r', m', d', S2, rfl, hB4, hO4, hN4⟩
       have B4 := Lib.hid hB4
       have O4 := Lib.hid hO4
       have N4 := Lib.hid hN4
       have f4 := yJ p3 n3 c3 w4
       clear hB4 hO4 hN4)
    | (go_at_call 154
       refine (M8 5 (base := w2.drew.heap.size) O3.out N3.out B4.out O4.out N4.out (Nat.le_refl _) B3.out.size).mono ?_
       rintro e w5 ⟨r, m, d, r', m', d', S, rfl, hB5, hO5, hN5⟩
       have B5 := Lib.hid hB5
       have O5 := Lib.hid hO5
       have N5 := Lib.hid hN5
       have BW : Hid (Below w2.drew.heap.size w2.drew w5) := Lib.hid (aB (aB B3.out B4.out) hB5)
       have Z : Hid (∀ o u, cE[o]? = some u → U w5 (B + 1) o = some u) := Lib.hid fun o u hu => by
         rw [← HBB.out]
         exact aE BW.out _ _ _ (by have := HS2.out; omega) (HZ.out o u hu)
       have z0 := aD (Z.out 0 _ rfl)
       have z1 := aD (Z.out 1 _ rfl)
       have z2 := aD (Z.out 2 _ rfl)
       have z3 := aD (Z.out 3 _ rfl)
       have z4 := aD (Z.out 4 _ rfl)
       have f0 := aI (Z.out 0 _ rfl)
       have f1 := aI (Z.out 1 _ rfl)
       have f2 := aI (Z.out 2 _ rfl)
       have f3 := aI (Z.out 3 _ rfl)
       have f4 := aI (Z.out 4 _ rfl)
       clear hB5 hO5 hN5))
  all_goals (try go_wp2_with fail)
  all_goals
    obtain ⟨W, hW⟩ : ∃ W, ((((w5.setCell ⟨B + 1, 0, none⟩ (.int .i64 (aG 5 t b).h.k)).setCell ⟨B + 1, 1, none⟩ (.int .i64 (aG 5 t b).h.n)).setCell ⟨B + 1, 2, none⟩ (.int .i64 (aG 5 t b).h.a)).setCell ⟨B + 1, 3, none⟩ (.slice r m d)).setCell ⟨B + 1, 4, none⟩ (.slice r' m' d') = W := ⟨_, rfl⟩
    obtain ⟨⟨q0, q1, q2, q3, q4⟩, hBF, hkW⟩ := C8 (w := w) (b := B + 1) Z.out (aB HB2.out BW.out) (by have := HBB.out; omega) hW
    rw [hW]
    refine bodyPost_ret (v := .agg #[.int .i64 (aG 5 t b).h.k, .int .i64 (aG 5 t b).h.n, .int .i64 (aG 5 t b).h.a, .slice r m d, .slice r' m' d']) (by simp [results, results71, go_sem, q0, q1, q2, q3, q4]) rfl ?_
    refine ⟨_, _, _, _, _, _, S, rfl, hBF, (O5.out.kept fun x hx => hkW x ?_).lower (by have := HS2.out; omega), N5.out⟩
    have h7 := (O5.out.mem x hx).1
    have h8 := HS2.out
    have h9 := HBB.out
    omega
theorem o_lams (t : Ts) (b : Tm) (hf : t.fits) (hs : t.size ≤ 100000000) (hbf : b.fits) (hbs : b.size ≤ 100000000) : HH 71 [tsA none t, tmL b] (tmO (aG 5 t b)) :=
  nE (bT func71 (by decide) rfl) fun F w vs hF hG hv => by
    obtain ⟨u, v, rfl, h1, h2⟩ := oZ hv
    have h3 := mQ hF h2
    obtain ⟨p, n, c, p', n', c', rfl, h4, h5⟩ := h3
    exact SR t b u p p' n c n' c' w hG (oD hF h1) ⟨_, _, _, _, _, _, rfl, h4, h5⟩ hf hs hbf hbs
end
section
attribute [local simp] ty_p ty_l ty_t kH tDs cB Tm.ts rN gI ac_skip ac_label ac_region ac_seq ac_cond ac_block ac_loop ac_exit ac_ret seqK_n seqK_r seqK_e vo_nil vo_cons blkK LC rU BZ jO jP oK ev jQ gF St.out Z5 oC upd eD wV K0 asC rO mI yF oJ xE uR tU tb Dc.tk Dc.dp Dc.over Dc.app Dc.ln Dc.ds Dc.sing Dc.cont AV.cont Ds.hd Value.oneCell' GA tO AB AV.imp Dc.imp φOf eR AV.isLL AV.list AV.app AV.arg AV.isL AV.ren Dc.ren Dc.lent tmC tmA tsA iA lo? abin AV.nth Dc.own Dc.toks bV pG JD τOf
attribute [local simp] AV.room FB agC vD Ds.len Ds.dp
theorem uF:∀(k:Nat) (t:Tm),eK (k+1) t=(eK k t).x.tm 1
 | 0,_=>rfl
 | k+1,t=>uF k (t.x.tm 1)
theorem uK:∀(k m:Nat) (t:Tm),pJ (k+m) t->pJ m (eK k t)
 | 0,m,t,h=>by rwa [Nat.zero_add] at h
 | k+1,m,t,h=>by
  rw[show k+1+m=(k+m)+1 by omega] at h
  exact uK k m _ h.2.2
def QT(row:Ts)(P:Tm)(k:Nat):St:=bV [(2,tsA none row),(12,.bx 13 0),(13,.bx 14 0),(14,iA k)] [(13,27,.lit (.int .i64 0) (.lit (.int .i64 0) (.lit (.int .i64 0) (.nilr 1 30 (.nilr 5 27 .nil))))),(14,27,tmC none none (eK k P).h (eK k P).x)] []
theorem k116(r:Rl)(i:Nat)(row:Ts)(t:Tm)(v:Ts)(far:Int)(hi:i<=r.g.length)(hl:r.g.length<=100000000)(hv:v.len<=100000000)(hr:row.fits)(hrs:row.size<=100000000)(ht:t.fits)(hts:t.size<=100000000)
  (hA:(aG 5 row t).fits) (hAs:(aG 5 row t).size<=100000000) (hL:((aG 5 row t).lift far i).fits) (hLs:((aG 5 row t).lift far i).size<=100000000) (hB:(byT (r.g.take i) 0 v).fits) (hBs:(byT (r.g.take i) 0 v).size<=100000000) :
  HH 249 [rlL r,iA i,tsA none row,tmL t,tsA none v,iA far] (tmL (cN r.g v far i row t)):=by
 have hrl:row.len<=100000000:=Nat.le_trans (len_le_size row) hrs
 have d0:row.len*5 / 5=row.len:=by omega
 have hdeep:pJ row.len (cK (byT (r.g.take i) 0 v) 0 ((aG 5 row t).lift far i)):=vM _ _ _ _ (pI far i _ _ 0 (lE row t))
 have hres:cN r.g v far i row t=eK row.len (cK (byT (r.g.take i) 0 v) 0 ((aG 5 row t).lift far i)):=rfl
 have q1:=k196 row t hr hrs ht hts
 have q2:=h63 (aG 5 row t) far i hA (by omega)
 have q3:=k197 r v i hi hl hv
 have q4:=k195 (byT (r.g.take i) 0 v) ((aG 5 row t).lift far i) hB hBs hL hLs
 rw[hres]
 clear hres hA hAs hL hLs hB hBs
 generalize cK (byT (r.g.take i) 0 v) 0 ((aG 5 row t).lift far i)=P at *
 generalize (aG 5 row t).lift far i=L at *
 generalize byT (r.g.take i) 0 v=B at *
 generalize aG 5 row t=A at *
 refine ab0 func249 ntmps249 results249 ?_
 simp[rlL,rlC]
 refine⟨by kernel_rfl,?_⟩
 apply aC q1<;>simp
 apply aC q2<;>simp
 apply aC q3<;>simp[rlL,rlC]
 apply aC q4<;>simp
 refine lp (α:={ k:Nat // k<=row.len }) (λ k=>QT row P k.1) (λ k=>row.len-k.1) ⟨0,Nat.zero_le _⟩ ?_ ?_
 ·apply aK []<;>simp[AV.ok,Dc.ok,eK]
 ·rintro⟨k,hk⟩
  have hw:=wr1 (k:=k) (by omega)
  by_cases hlt:k<row.len
  ·have h1:=uK k (row.len-k-1+1) P (by rw[show k+(row.len-k-1+1)=row.len by omega];exact hdeep)
   have h2:=uF k P
   generalize hI:eK k P=I at *
   generalize hJ:eK (k+1) P=J at *
   obtain⟨ih,ix⟩:=I
   obtain⟨-,h3,-⟩:=h1
   match ix,h3,h2,hI with
   | .cons a p (.cons b q .nil),_,h2,hI =>
    simp[QT,aF,d0,hlt,hI]
    refine⟨k+1,by omega,by omega,?_⟩
    apply aK []<;>simp[AV.ok,Dc.ok,hw,hJ,h2,Ts.tm,Ts.hd,Ts.kd]
  ·obtain rfl:k=row.len:=by omega
   simp[QT,aF,d0]
   exact⟨[],by simp⟩
theorem k234(v:Int)(h1:0<v)(h2:v<=1048576):HH 254 [iA v,iA 0] (lvA (kP v)):=by
 refine ab0 func254 ntmps254 results254 ?_
 simp
 apply aC (k237 v h1 h2)<;>simp[lvA,kP,bY]
 exact⟨[],by simp⟩
theorem k222(v:Int)(h1:0<v)(h2:v<=1048576):HH 225 [iA v] (lvA (kP v)):=by
 refine ab0 func225 ntmps225 results225 ?_
 simp
 apply aC (k234 v h1 h2)<;>simp[lvA]
 exact⟨[],by simp⟩
end
section
theorem eG:∀ {row:Ts} {t:Tm},row.fits->t.fits->(aG 5 row t).fits
 | .nil,_,_,h=>h
 | .cons h x r,t,hr,ht=>by
  have ih:=eG (row:=r) hr.2.2 ht
  exact⟨iR (by decide),hr.1,hr.2.1,ih.1,ih.2,trivial⟩
theorem iG:∀(row:Ts) (t:Tm),(aG 5 row t).size<=2*row.size+t.size
 | .nil,t=>by simp[aG,Ts.size]
 | .cons h x r,t=>by
  have ih:=iG r t
  have e:(aG 5 (.cons h x r) t).size=1+aH h.l+x.size+(1+(aG 5 r t).size):=by
   rw[<-aN];simp only[aG,Tm.size,Ts.size,kH,aH];omega
  rw[e]
  simp only[Ts.size]
  omega
theorem wrap_in(n:Int) : -9223372036854775808<=IntKind.i64.wrap n/\IntKind.i64.wrap n<=9223372036854775807:=by
 rw[IntKind.wrap_i64];omega
theorem xV{h:Hd}(n f:Int)(d:Nat)(hf:h.fits):(h.lift n f d).fits:=by
 unfold Hd.lift
 split
 ·exact⟨hf.1,wrap_in _,hf.2.2⟩
 ·exact hf
theorem J8(h:Hd)(n f:Int)(d:Nat):(h.lift n f d).l=h.l:=by
 unfold Hd.lift;split<;>rfl
theorem qN(n f:Int):∀ {t:Ts} (k:Int) (i d:Nat),t.fits->(t.lift n f k i d).fits
 | .nil,_,_,_,_=>trivial
 | .cons h x r,k,i,d,hf=>⟨xV n f _ hf.1,qN n f _ _ _ hf.2.1,qN n f _ _ _ hf.2.2⟩
theorem nK(n f:Int):∀(t:Ts) (k:Int) (i d:Nat),(t.lift n f k i d).size=t.size
 | .nil,_,_,_=>rfl
 | .cons h x r,k,i,d=>by
  simp only[Ts.lift,Ts.size,J8,nK n f x,nK n f r]
theorem jD{t:Tm}(n f:Int)(hf:t.fits):(t.lift n f).fits:=⟨xV n f _ hf.1,qN n f _ _ _ hf.2⟩
theorem kD(t:Tm)(n f:Int):(t.lift n f).size=t.size:=by
 simp only[Tm.lift,Tm.size,J8,nK]
theorem CZ{a:Ag}{n:Nat}{v:Ts}(hv:v.fits):(iT a n v).fits:=by
 unfold iT
 split
 ·rename_i h
  exact Ts.fits_hd hv h.2
 ·exact⟨eQ (by decide) (by decide) (by decide),trivial⟩
theorem nZ{v:Ts}(hv:v.fits):∀(l:List Ag) (n:Nat),(byT l n v).fits
 | [],_=>trivial
 | a :: r,n=>⟨(CZ hv).1,(CZ hv).2,nZ hv r _⟩
end
section
attribute [local simp] ty_p ty_l ty_t kH tDs cB Tm.ts rN gI ac_skip ac_label ac_region ac_seq ac_cond ac_block ac_loop ac_exit ac_ret seqK_n seqK_r seqK_e vo_nil vo_cons blkK LC rU BZ jO jP oK ev jQ gF St.out Z5 oC upd eD wV K0 asC rO mI yF oJ xE uR tU tb Dc.tk Dc.dp Dc.over Dc.app Dc.ln Dc.ds Dc.sing Dc.cont AV.cont Ds.hd Value.oneCell' GA tO AB AV.imp Dc.imp φOf eR AV.isLL AV.list AV.app AV.arg AV.isL AV.ren Dc.ren Dc.lent tmC tmA tsA iA lo? abin AV.nth Dc.own Dc.toks bV pG JD τOf
attribute [local simp] AV.room FB agC vD Ds.len Ds.dp
theorem RX(a:Ag)(n:Nat)(v:Ts):(iT a n v).size<=v.size:=by
 unfold iT
 split
 ·rename_i h
  have:=Ts.size_kd h.2
  unfold Tm.size Ts.tm
  simp only
  omega
 ·simp[Tm.size,gI,aH,Ts.size]
theorem qD(v:Ts):∀(l:List Ag) (n:Nat),(byT l n v).size<=l.length*(v.size+1)
 | [],_=>by simp[byT,Ts.size]
 | a :: r,n=>by
  have h1:=RX a n v
  have h2:=qD v r (n+cI [a])
  unfold Tm.size at h1
  simp only[byT,Ts.size,List.length_cons,Nat.add_mul,Nat.one_mul]
  omega
def kG(r:Rl)(v:Ts)(far:Int):Ts->Ts
 | .nil=>.nil
 | .cons h x q=>.cons (cN r.g v far r.g.length .nil ⟨h,x⟩).h (cN r.g v far r.g.length .nil ⟨h,x⟩).x (kG r v far q)
theorem L0(r:Rl)(v:Ts)(far:Int):∀a b:Ts,kG r v far (a.app b)=(kG r v far a).app (kG r v far b)
 | .nil,_=>rfl
 | .cons h x a,b=>by simp only[Ts.app,kG];rw[L0 r v far a b]
theorem K9(r:Rl)(v:Ts)(far:Int):∀a:Ts,(kG r v far a).len=a.len
 | .nil=>rfl
 | .cons h x a=>by simp only[kG,Ts.len];rw[K9 r v far a]
def st44(r:Rl)(v:Ts)(far:Int)(a:Ts):St:=bV [(1,tsA none v),(2,iA far),(3,.bx 4 0),(7,.c (.blk 31 (a.len+1) 5 27 (.seg none (tDs ty (kG r v far a)) .nil) .nil)),(8,iA a.len)] [(4,54,rlC r)] [(31,a.len+1)]
theorem k44(r:Rl)(v:Ts)(far:Int)(hl:r.g.length<=1000)(hv:v.fits)(hsz:r.g.length*(v.size+1)<=100000000)(hvs:v.size<=100000000)(hf:r.i.fits)(hs:r.i.size<=100000000):HH 212 [rlL r,tsA none v,iA far] (tsA none (kG r v far r.i)):=by
 have hil:r.i.len<=100000000:=Nat.le_trans (len_le_size r.i) hs
 have hvl:v.len<=100000000:=Nat.le_trans (len_le_size v) hvs
 have d0:r.i.len*5 / 5=r.i.len:=by omega
 have dg:r.g.length*9 / 9=r.g.length:=by omega
 have hby:=qD v (r.g.take r.g.length) 0
 rw[List.take_length] at hby
 refine ab0 func212 ntmps212 results212 ?_
 simp[rlL,rlC]
 refine lp (α:={ q:Ts×Ts // q.1.app q.2=r.i }) (λ q=>st44 r v far q.1.1) (λ q=>q.1.2.len) ⟨(.nil,r.i),rfl⟩ ?_ ?_
 ·apply aK [((31,0),[(31,0)])]<;>simp[AV.ok,Dc.ok,rlC,kG,Ts.len]
 ·rintro⟨⟨a,q⟩,hq⟩
  simp only at hq
  cases q with
  | nil =>
   have e:a=r.i:=by rw[<-hq];exact (Ts.app_nil a).symm
   rw[<-e] at d0
   simp[st44,rlC,aF,d0,<-e,Ds.app_nil]
   exact⟨[],by simp⟩
  | cons h y q =>
   have h1:a.len<r.i.len:=by rw[<-hq];simp[Ts.app_len,Ts.len]
   have h2:(tDs ty r.i).dp (a.len*5)=tDs ty (.cons h y q):=by rw[<-hq];exact fH a _
   have h3:h.fits/\y.fits:=dS (a:=a) (by rw[hq];exact hf)
   have h4:aH h.l+y.size+1<=r.i.size:=by rw[<-hq];exact app_size
   have hw:=wr1 (k:=a.len) (by omega)
   have hts:(⟨h,y⟩:Tm).size<=100000000:=by unfold Tm.size;simp only;omega
   have q1:=k116 r r.g.length .nil ⟨h,y⟩ v far (Nat.le_refl _) (by omega) hvl trivial (by simp[Ts.size]) h3 hts (eG trivial h3) (Nat.le_trans (iG _ _) (by simp only[Ts.size];omega)) (jD _ _ (eG trivial h3)) (by rw[kD];exact Nat.le_trans (iG _ _) (by simp only[Ts.size];omega)) (nZ hv _ _) (by rw[List.take_length];omega)
   have e1:kG r v far (a.app (.cons h y .nil))=(kG r v far a).app (.cons (cN r.g v far r.g.length .nil ⟨h,y⟩).h (cN r.g v far r.g.length .nil ⟨h,y⟩).x .nil):=by rw[L0];rfl
   generalize cN r.g v far r.g.length .nil ⟨h,y⟩=P at *
   simp[st44,rlC,aF,d0,h1,h2,aU,dg]
   refine⟨by kernel_rfl,by omega,?_⟩
   apply aC q1<;>simp[rlL,rlC]
   refine⟨by rw[aF,K9];omega,a.app (.cons h y .nil),q,by simp[Ts.len],by rw[Ts.app_assoc];exact hq,?_⟩
   apply aK [((31,0),[(31,0)])]<;>simp[Ts.len,Ts.app_len,AV.ok,Dc.ok,hw,rlC,e1]
   rw[bG];rfl

def iF(l:List Ag):Prop:=∀a∈l,a.t.fits/\a.e.fits/\a.i.fits
def mT(g:List Ag)(v:Ts)(far:Int)(i:Nat)(e:Ts):Ts->Ts
 | .nil=>.nil
 | .cons h x q=>.cons (cN g v far i e ⟨h,x⟩).h (cN g v far i e ⟨h,x⟩).x (mT g v far i e q)
theorem C6(g:List Ag)(v:Ts)(far:Int)(i:Nat)(e:Ts):∀a b:Ts,mT g v far i e (a.app b)=(mT g v far i e a).app (mT g v far i e b)
 | .nil,_=>rfl
 | .cons h x a,b=>by simp only[Ts.app,mT];rw[C6 g v far i e a b]
theorem C5(g:List Ag)(v:Ts)(far:Int)(i:Nat)(e:Ts):∀a:Ts,(mT g v far i e a).len=a.len
 | .nil=>rfl
 | .cons h x a=>by simp only[mT,Ts.len];rw[C5 g v far i e a]
def st43(r:Rl)(v:Ts)(far:Int)(i:Nat)(b:Ag)(a:Ts):St:=bV [(1,iA i),(2,tsA none v),(3,iA far),(4,.bx 5 0),(9,.c (.blk 48 (a.len+1) 5 27 (.seg none (tDs ty (mT r.g v far i b.e a)) .nil) .nil)),(10,.bx 11 0),(11,iA a.len)] [(5,54,rlC r),(11,73,agC b)] [(48,a.len+1)]
theorem k43(r:Rl)(v:Ts)(far:Int)(i:Nat)(hi:i<r.g.length)(hl:r.g.length<=500)(hs:dI r.g<=30000000)(hf:iF r.g)(hv:v.fits)(hsz:i*(v.size+1)<=100000000)(hvs:v.size<=100000000) :
  HH 215 [rlL r,iA i,tsA none v,iA far] (tsA none (mT r.g v far i r.g[i].e r.g[i].i)):=by
 have h1:=lX hi
 have hsa:=mD hi
 obtain⟨f1,f2,f3⟩:=hf _ (List.getElem_mem hi)
 have hvl:v.len<=100000000:=Nat.le_trans (len_le_size v) hvs
 have dg:r.g.length*9 / 9=r.g.length:=by omega
 have hby:=qD v (r.g.take i) 0
 rw[List.length_take,show min i r.g.length=i by omega] at hby
 generalize r.g.drop (i+1)=qq at h1
 generalize r.g[i]=b at *
 have hil:b.i.len<=100000000:=Nat.le_trans (len_le_size b.i) (by omega)
 have d0:b.i.len*5 / 5=b.i.len:=by omega
 have h0:¬(i:Int)<0:=by omega
 refine ab0 func215 ntmps215 results215 ?_
 have hi2:¬r.g.length<=i:=by omega
 simp[rlL,rlC,h0,aU,dg,hi,hi2,h1,cA]
 refine⟨by omega,?_⟩
 refine lp (α:={ q:Ts×Ts // q.1.app q.2=b.i }) (λ q=>st43 r v far i b q.1.1) (λ q=>q.1.2.len) ⟨(.nil,b.i),rfl⟩ ?_ ?_
 ·apply aK [((48,0),[(48,0)])]<;>simp[AV.ok,Dc.ok,rlC,mT,Ts.len]
 ·rintro⟨⟨a,q⟩,hq⟩
  simp only at hq
  cases q with
  | nil =>
   have e:a=b.i:=by rw[<-hq];exact (Ts.app_nil a).symm
   rw[<-e] at d0
   simp[st43,rlC,aF,d0,<-e,Ds.app_nil]
   exact⟨[],by simp⟩
  | cons h y q =>
   have h3:a.len<b.i.len:=by rw[<-hq];simp[Ts.app_len,Ts.len]
   have h2:(tDs ty b.i).dp (a.len*5)=tDs ty (.cons h y q):=by rw[<-hq];exact fH a _
   have h4:h.fits/\y.fits:=dS (a:=a) (by rw[hq];exact f3)
   have h5:aH h.l+y.size+1<=b.i.size:=by rw[<-hq];exact app_size
   have hw:=wr1 (k:=a.len) (by omega)
   have hts:(⟨h,y⟩:Tm).size<=30000000:=by unfold Tm.size;simp only;omega
   have hab:=iG b.e ⟨h,y⟩
   have q1:=k116 r i b.e ⟨h,y⟩ v far (by omega) (by omega) hvl f2 (by omega) h4 (by omega) (eG f2 h4) (by omega) (jD _ _ (eG f2 h4)) (by rw[kD];omega) (nZ hv _ _) (by omega)
   have e1:mT r.g v far i b.e (a.app (.cons h y .nil))=(mT r.g v far i b.e a).app (.cons (cN r.g v far i b.e ⟨h,y⟩).h (cN r.g v far i b.e ⟨h,y⟩).x .nil):=by rw[C6];rfl
   generalize cN r.g v far i b.e ⟨h,y⟩=P at *
   simp[st43,rlC,aF,d0,h3,h2]
   refine⟨by kernel_rfl,by omega,?_⟩
   apply aC q1<;>simp[rlL,rlC]
   refine⟨by rw[aF,C5];omega,a.app (.cons h y .nil),q,by simp[Ts.len],by rw[Ts.app_assoc];exact hq,?_⟩
   apply aK [((48,0),[(48,0)])]<;>simp[Ts.len,Ts.app_len,AV.ok,Dc.ok,hw,rlC,e1]
   rw[bG];rfl
def iP(g:List Ag)(v:Ts)(far:Int)(i:Nat):Ts->Ts->Ts
 | _,.nil=>.nil
 | p,.cons h x q=>.cons (cN g v far i p ⟨h,x⟩).h (cN g v far i p ⟨h,x⟩).x (iP g v far i (p.app (.cons h x .nil)) q)
theorem vS(g:List Ag)(v:Ts)(far:Int)(i:Nat):∀a b p:Ts,iP g v far i p (a.app b)=(iP g v far i p a).app (iP g v far i (p.app a) b)
 | .nil,b,p=>by simp only[Ts.app,iP,Ts.app_nil]
 | .cons h x a,b,p=>by
  simp only[Ts.app,iP]
  rw[vS g v far i a b,Ts.app_assoc];rfl
theorem sA(g:List Ag)(v:Ts)(far:Int)(i:Nat):∀a p:Ts,(iP g v far i p a).len=a.len
 | .nil,_=>rfl
 | .cons h x a,p=>by simp only[iP,Ts.len];rw[sA g v far i a]
theorem PV(a r:Ts):(tDs ty (a.app r)).tk (a.len*5)=tDs ty a:=by
 rw[bG,<-aF ty];exact Ds.tk_app _ _
def st42(r:Rl)(v:Ts)(far:Int)(i:Nat)(e a:Ts):St:=bV [(1,iA i),(2,tsA none v),(3,iA far),(4,.bx 5 0),(9,.c (.blk 48 (a.len+1) 5 27 (.seg none (tDs ty (iP r.g v far i .nil a)) .nil) .nil)),(10,tsA none e),(11,iA a.len)] [(5,54,rlC r)] [(48,a.len+1)]
theorem k42(r:Rl)(v:Ts)(far:Int)(i:Nat)(hi:i<r.g.length)(hl:r.g.length<=500)(hs:dI r.g<=30000000)(hf:iF r.g)(hv:v.fits)(hsz:i*(v.size+1)<=100000000)(hvs:v.size<=100000000) :
  HH 247 [rlL r,iA i,tsA none v,iA far] (tsA none (iP r.g v far i .nil r.g[i].e)):=by
 have h1:=lX hi
 have hsa:=mD hi
 obtain⟨f1,f2,f3⟩:=hf _ (List.getElem_mem hi)
 have hvl:v.len<=100000000:=Nat.le_trans (len_le_size v) hvs
 have dg:r.g.length*9 / 9=r.g.length:=by omega
 have hby:=qD v (r.g.take i) 0
 rw[List.length_take,show min i r.g.length=i by omega] at hby
 generalize r.g.drop (i+1)=qq at h1
 generalize r.g[i]=b at *
 have hil:b.e.len<=100000000:=Nat.le_trans (len_le_size b.e) (by omega)
 have d0:b.e.len*5 / 5=b.e.len:=by omega
 have h0:¬(i:Int)<0:=by omega
 have hi2:¬r.g.length<=i:=by omega
 refine ab0 func247 ntmps247 results247 ?_
 simp[rlL,rlC,h0,aU,dg,hi,hi2,h1,cA]
 refine⟨by omega,?_⟩
 refine lp (α:={ q:Ts×Ts // q.1.app q.2=b.e }) (λ q=>st42 r v far i b.e q.1.1) (λ q=>q.1.2.len) ⟨(.nil,b.e),rfl⟩ ?_ ?_
 ·apply aK [((48,0),[(48,0)])]<;>simp[AV.ok,Dc.ok,rlC,iP,Ts.len]
 ·rintro⟨⟨a,q⟩,hq⟩
  simp only at hq
  cases q with
  | nil =>
   have e:a=b.e:=by rw[<-hq];exact (Ts.app_nil a).symm
   rw[<-e] at d0
   simp[st42,rlC,aF,d0,<-e,Ds.app_nil]
   exact⟨[],by simp⟩
  | cons h y q =>
   have h3:a.len<b.e.len:=by rw[<-hq];simp[Ts.app_len,Ts.len]
   have h2:(tDs ty b.e).dp (a.len*5)=tDs ty (.cons h y q):=by rw[<-hq];exact fH a _
   have h6:(tDs ty b.e).tk (a.len*5)=tDs ty a:=by rw[<-hq];exact PV a _
   have h4:h.fits/\y.fits:=dS (a:=a) (by rw[hq];exact f2)
   have h5:aH h.l+y.size+1<=b.e.size:=by rw[<-hq];exact app_size
   have h7:a.fits/\a.size<=b.e.size:=by
    have hfa:∀(a r:Ts),(a.app r).fits->a.fits:=λ a=>by
     induction a with
     | nil=>intro _ _;trivial
     | cons h x a _ ih=>intro r h9;exact⟨h9.1,h9.2.1,ih r h9.2.2⟩
    have e9:b.e.size=a.size+(Ts.cons h y q).size:=by rw[<-hq,iJ]
    exact⟨hfa a _ (by rw[hq];exact f2),by omega⟩
   have hw:=wr1 (k:=a.len) (by omega)
   have hts:(⟨h,y⟩:Tm).size<=30000000:=by unfold Tm.size;simp only;omega
   have hab:=iG a ⟨h,y⟩
   have q1:=k116 r i a ⟨h,y⟩ v far (by omega) (by omega) hvl h7.1 (by omega) h4 (by omega) (eG h7.1 h4) (by omega) (jD _ _ (eG h7.1 h4)) (by rw[kD];omega) (nZ hv _ _) (by omega)
   have e1:iP r.g v far i .nil (a.app (.cons h y .nil))=(iP r.g v far i .nil a).app (.cons (cN r.g v far i a ⟨h,y⟩).h (cN r.g v far i a ⟨h,y⟩).x .nil):=by rw[vS];rfl
   generalize cN r.g v far i a ⟨h,y⟩=P at *
   simp[st42,rlC,aF,d0,h3,h2,h6]
   refine⟨by kernel_rfl,by omega,by omega,?_⟩
   apply aC q1<;>simp[rlL,rlC]
   refine⟨by rw[aF,sA];omega,a.app (.cons h y .nil),q,by simp[Ts.len],by rw[Ts.app_assoc];exact hq,?_⟩
   apply aK [((48,0),[(48,0)])]<;>simp[Ts.len,Ts.app_len,AV.ok,Dc.ok,hw,rlC,e1]
   rw[bG];rfl
def GP(b:Nat)(y:Ts)(w:World):Prop:=KA w/\∃v,U w b 0=some v/\RT ty w v y
theorem stGP(b:Nat)(y:Ts):iU (GP b y):=λ w w' hb ⟨h1,v,h2,h3⟩=>⟨lQ w w' hb h1,v,aE hb _ _ _ (aL h2) h2,h3.on hb⟩
abbrev HG(b:Nat)(y:Ts)(f:Nat)(ps:List AV)(r:AV):Prop:=Holds prog (GP b y) f (.list ps) r
theorem HH.gp{f:Nat}{ps:List AV}{r:AV}(h:HH f ps r)(b:Nat)(y:Ts):HG b y f ps r:=Holds.under (λ _ h=>h.1) h
theorem abG {b : Nat} {y : Ts} {f : Nat} {fn : Func} {c : Code} {l : List AV} {r : AV} {N : Nat} {rs : Array ResultVar} (hf : prog.funcs[f]? = some fn) (hN : fn.ntmps = N) (hrs : fn.results = rs) (hb : fn.body = some c) (hname : fn.name ≠ "runtime.NumGoroutine")
  (hl:l.length<=N) (ho:(l.all AV.bare)=true) (hr:(r.plain && r.still && r.flat)=true) (h:dL prog (GP b y) tb N c (GA tb N rs.toList r) (jQ l)):HG b y f l r:=by
 subst hN hrs
 simp only[Bool.and_eq_true] at hr
 exact rD oE (stGP b y) mixed hf hb hname hl (λ a ha=>AV.bare_ok (List.all_eq_true.1 ho a ha) _ _) hr.1.1 hr.1.2 hr.2 h
theorem lpG{b:Nat}{y:Ts}{α:Type}(I:α->St)(μ:α->Nat)(x0:α){c:Code}{Q:Exit->St->Prop}{st:St}{N:Nat}(h0:Le (GP b y) N st (I x0))(hr:∀x,dL prog (GP b y) tb N c (LC (GP b y) N I μ x Q) (I x)):N2 prog (GP b y) N c Q st:=LZ oE (stGP b y) mixed I μ x0 h0 hr
abbrev byEl(y:Ts):AV:=.el (.row 5 27 (tDs ty y) .nil .nil)
theorem KV{y:Ts}{h:Hd}{d:Nat}{u:Tm}(hp:cM y h d=.inl u):h.k=1/\(d:Int)<=h.n/\h.n-d<y.len/\u=(y.tm (y.len-1-(h.n-d).toNat)).lift d 0:=by
 unfold cM at hp
 split at hp
 ·rename_i c1
  split at hp
  ·rename_i c2
   cases hp
   exact⟨c1.1,c1.2,c2,rfl⟩
  ·cases hp
 ·cases hp
theorem k224p(y:Ts)(FV:Value)(h:Hd)(x:Ts)(d:Nat)(u:Tm)(hp:cM y h d=.inl u)(hy:y.fits)(hys:y.size<=100000000)(hd:d<=100000000)(hn:h.n<=9223372036854775807) :
  HH 280 [wkA d FV,tmL ⟨h,x⟩,byEl y] (.tup (AV.list [tmO u,.v (.bool true)])):=by
 obtain⟨c1k,c1n,c2,rfl⟩:=KV hp
 have hyl:y.len<=100000000:=Nat.le_trans (len_le_size y) hys
 have d0:y.len*5 / 5=y.len:=by omega
 have w1:wrap64 (h.n-d)=h.n-d:=by unfold wrap64;omega
 obtain⟨j,hj⟩:∃j:Nat,(y.len:Int)-1-(h.n-d)=j:=⟨((y.len:Int)-1-(h.n-d)).toNat,by omega⟩
 have hjl:j<y.len:=by omega
 have e1:y.len-1-(h.n-d).toNat=j:=by omega
 have w2:IntKind.i64.wrap ((y.len:Int)-1)=y.len-1:=by rw[IntKind.wrap_i64];omega
 have w3:IntKind.i64.wrap ((y.len:Int)-1-(h.n-d))=j:=by rw[IntKind.wrap_i64];omega
 have h2:=tB y j
 have h3:=Ts.drop_step hjl
 have h4:=Ts.fits_hd hy hjl
 have h5:=Ts.size_kd hjl
 rw[h3] at h2
 rw[e1]
 clear e1 h3 hp
 have q1:=k124 d h.n
 rw[w1,decide_eq_true c1n] at q1
 unfold Ts.tm
 generalize y.hd j=uh at *
 generalize y.kd j=ux at *
 generalize y.drop (j+1)=ur at *
 refine ab0 func280 ntmps280 results280 ?_
 simp[wkA]
 apply aC q1<;>simp[aF,d0,c1k,c2,w2,w3,h2]
 refine⟨by kernel_rfl,by omega,?_⟩
 apply aC (h60 ⟨uh,ux⟩ d 0 h4 (by unfold Tm.size;simp only;omega))<;>simp
 exact⟨[((0,0),[(48,0)]),((0,1),[(48,1)])],by simp⟩
theorem k224n(y:Ts)(FV:Value)(h h':Hd)(r:Option Addr)(m c:Nat)(d:Nat)(hp:cM y h d=.inr h')(hys:y.size<=100000000)(hd:d<=100000000)(hn:h.n<=9223372036854775807)(hls:aH h.l<=200000000) :
  HH 280 [wkA d FV,.agg (oY none h (.slice r m c)),byEl y] (.tup (AV.list [.agg (oY (some (0,0)) h' (.slice r m c)),.v (.bool false)])):=by
 have hyl:y.len<=100000000:=Nat.le_trans (len_le_size y) hys
 have d0:y.len*5 / 5=y.len:=by omega
 have q1:=k124 d h.n
 obtain⟨hk,hn',ha,hl⟩:=h
 simp only at hn hls q1
 by_cases c1:hk=1
 ·subst c1
  by_cases c2:(d:Int)<=hn'
  ·have w1:wrap64 (hn'-d)=hn'-d:=by unfold wrap64;omega
   by_cases c3:hn'-d<y.len
   ·simp[cM,c2,c3] at hp
   ·simp[cM,c2,c3] at hp
    subst hp
    rw[w1,decide_eq_true c2] at q1
    refine ab0 func280 ntmps280 results280 ?_
    simp[wkA,oY]
    apply aC q1<;>simp[aF,d0,c3]
    apply aC (I6 ⟨1,IntKind.i64.wrap (hn'-y.len),ha,hl⟩ r m c hls)<;>simp[oY]
    exact⟨[((0,0),[(50,0)])],by simp⟩
  ·simp[cM,c2] at hp
   subst hp
   rw[decide_eq_false c2] at q1
   refine ab0 func280 ntmps280 results280 ?_
   simp[wkA,oY]
   apply aC q1<;>simp
   apply aC (I6 ⟨1,hn',ha,hl⟩ r m c hls)<;>simp[oY]
   exact⟨[((0,0),[(50,0)])],by simp⟩
 ·simp[cM,c1] at hp
  subst hp
  refine ab0 func280 ntmps280 results280 ?_
  simp[wkA,oY]
  apply aC q1<;>simp[c1]
  apply aC (I6 ⟨hk,hn',ha,hl⟩ r m c hls)<;>simp[oY]
  exact⟨[((0,0),[(50,0)])],by simp⟩
theorem TY{b:Nat}{y:Ts}{w:World}(hG:GP b y w):RepV (bJ (U w) w) (byEl y) [.pointer (some ⟨b,0,none⟩)]:=by
 obtain⟨-,v,h1,h2⟩:=hG
 refine⟨⟨cY y,trivial,trivial⟩,b,0,[v],rfl,aL h1,⟨v,[],rfl,h2,rfl⟩,λ j u hj=>?_⟩
 cases j with
 | zero =>
  simp at hj
  subst hj
  show (if b<w.heap.size then _ else _)=_
  rw[if_pos (aL h1)]
  exact h1
 | succ j=>simp at hj
abbrev CO(b:Nat):Value:=.func (.func 280) #[] #[.pointer (some ⟨b,0,none⟩)]
abbrev putP(b:Nat):AV:=.v (.pointer (some ⟨b,0,none⟩))
theorem g224p(b:Nat)(y:Ts)(h:Hd)(x:Ts)(d:Nat)(u:Tm)(hp:cM y h d=.inl u)(hy:y.fits)(hys:y.size<=100000000)(hd:d<=100000000)(hn:h.n<=9223372036854775807) :
  HG b y 280 [wkA d (CO b),tmL ⟨h,x⟩,putP b] (.tup (AV.list [tmO u,.v (.bool true)])):=by
 refine⟨bT func280 (by decide) rfl,rfl,λ F w vs hF hG hv=>?_⟩
 obtain⟨u1,v,z,rfl,h1,h2,h3⟩:=xO hv
 obtain rfl:z=.pointer (some ⟨b,0,none⟩):=by simpa[RepV] using h3
 have ht:=zD (mQ hF h2)
 refine ((k224p y (CO b) h x d u hp hy hys hd hn).2.2 (U w) w [u1,v,.pointer (some ⟨b,0,none⟩)] (λ _ _ _ h=>h) hG.1 ⟨_,_,rfl,h1,_,_,rfl,ht,_,_,rfl,TY hG,rfl⟩).mono ?_
 rintro e w' ⟨v',fp,rfl,hb,⟨zs,e,a1,_,rfl,⟨ys,e2,hc⟩,r1⟩,m1,m2⟩
 exact⟨v',fp,rfl,hb,⟨_,e,a1,_,rfl,⟨ys,e2,RepC.conv rfl hc⟩,r1⟩,m1,m2⟩
theorem g224n(b:Nat)(y:Ts)(h h':Hd)(x:Ts)(d:Nat)(hp:cM y h d=.inr h')(hys:y.size<=100000000)(hd:d<=100000000)(hn:h.n<=9223372036854775807)(hls:aH h.l<=200000000) :
  HG b y 280 [wkA d (CO b),tmL ⟨h,x⟩,putP b] (.tup (AV.list [KX h' x,.v (.bool false)])):=by
 refine⟨bT func280 (by decide) rfl,rfl,λ F w vs hF hG hv=>?_⟩
 obtain⟨u1,v,z,rfl,h1,h2,h3⟩:=xO hv
 obtain rfl:z=.pointer (some ⟨b,0,none⟩):=by simpa[RepV] using h3
 obtain⟨ys,e,-,_,rfl,-,_,rfl,-,_,rfl,-,v1,_,rfl,q1,-,-,v2,_,rfl,q2,-,rfl⟩:=h2
 cases e
 obtain⟨p',n',c',rfl,-⟩:=id q2
 have hk:=(k224n y (CO b) h h' p' n' c' d hp hys hd hn hls).2.2 (U w) w [u1,.agg #[.int .i64 h.k,.int .i64 h.n,.int .i64 h.a,v1,.slice p' n' c'],.pointer (some ⟨b,0,none⟩)] (λ _ _ _ h=>h) hG.1
  ⟨_,_,rfl,h1,_,_,rfl,⟨_,rfl,rfl,_,rfl,rfl,_,rfl,rfl,_,rfl,eU _,_,_,rfl,q1.mono (λ b o v _ hv=>hF b o v hv) (Nat.le_refl _),Gh.Ow_none,rfl,_,rfl,rfl⟩,_,_,rfl,TY hG,rfl⟩
 refine hk.mono ?_
 rintro e w' ⟨v',fp,rfl,hb,⟨zs,e,a1,_,rfl,⟨ys,e2,g1,_,rfl,g2,_,rfl,g3,_,rfl,g4,l1,_,rfl,g5,g6,g7,_,rfl,rfl⟩,r1⟩,m1,m2⟩
 obtain⟨j0,_,_,e3,j2,j3,-⟩:=RepC.conv (F:=F) (F':=U w) (d:=.row (some (0,0)) 1 30 (cB ty h'.l) .nil) (xs:=[l1]) rfl ⟨g4,_,_,rfl,g5,g6,rfl⟩
 cases e3
 have q4:Rd (jF F w w' fp).F w'.heap.size (.slice p' n' c') 5 (tDs ty x) .nil:=q2.mono (λ b o v hb' hv=>by
  show (if b<w.heap.size then F b o else _)=_
  exact (if_pos (show b<w.heap.size from hb')).trans hv) hb.size
 exact⟨v',fp,rfl,hb,⟨_,e,a1,_,rfl,⟨_,e2,g1,_,rfl,g2,_,rfl,g3,_,rfl,j0,_,_,rfl,j2,j3,cY _,_,_,rfl,q4,Gh.Ow_none,rfl⟩,r1⟩,m1,m2⟩
@[simp] theorem calleeOf_put (b:Nat):eR (.v (.func (.func 280) #[] #[.pointer (some ⟨b,0,none⟩)]))=some (280,.nil,.cons (.v (.pointer (some ⟨b,0,none⟩))) .nil):=rfl
def QS(b:Nat)(y:Ts)(d:Nat)(h h':Hd)(x a:Ts):St:=bV [(2,.bx 3 0),(3,.bx 4 0),(4,.bx 5 0),(5,.bx 6 0),(23,tsA none x),(24,iA x.len),(25,iA a.len)]
 [(3,222,.lit (.int .i64 d) (.lit (CO b) .nil)),(4,27,tmC none none h x),(5,27,.lit (.int .i64 0) (.lit (.int .i64 0) (.lit (.int .i64 0) (.nilr 1 30 (.nilr 5 27 .nil))))),(6,27,.lit (.int .i64 h'.k) (.lit (.int .i64 h'.n) (.lit (.int .i64 h'.a) (.row (some (16,0)) 1 30 (cB ty h'.l) (.blk 41 (a.len+1) 5 27 (.seg (some (100,0)) (tDs ty (gW y h.k 0 d a)) .nil) .nil)))))]
 [(41,a.len+1),(16,0),(100,0)]
theorem k126(b:Nat)(y:Ts)(hy:y.fits)(hys:y.size<=100000000):∀(M:Nat) (t:Tm) (d:Nat),t.size<M->t.fits->t.size+d<=100000000->HG b y 229 [wkA d (CO b),tmL t] (tmO (cK y d t)):=by
 intro M
 induction M with
 | zero=>intro t d h;omega
 | succ M ih =>
  rintro⟨h,x⟩ d hM hf hs
  have dx:x.len*5 / 5=x.len:=by omega
  have hxl:x.len<=100000000:=by have:=len_le_size x;unfold Tm.size at hs;simp only at hs;omega
  have hnb:h.n<=9223372036854775807:=hf.1.2.1.2
  refine abG func229 ntmps229 results229 rfl (by decide) (by simp) rfl rfl ?_
  cases hp:cM y h d with
  | inl u =>
   have e1:cK y d ⟨h,x⟩=u:=by simp only[cK,hp]
   rw[e1]
   simp[wkA]
   apply aC (g224p b y h x d u hp hy hys (by omega) hnb)<;>simp[wkA]
   exact⟨[((0,0),[(16,0)]),((0,1),[(16,1)])],by simp⟩
  | inr h' =>
   have e1:cK y d ⟨h,x⟩=⟨h',gW y h.k 0 d x⟩:=by simp only[cK,hp]
   rw[e1]
   clear e1
   have q1:=g224n b y h h' x d hp hys (by omega) hnb (by unfold Tm.size at hs;simp only at hs;omega)
   clear hp
   simp[wkA]
   apply aC q1<;>simp[wkA,KX]
   refine lpG (α:={ q:Ts×Ts // q.1.app q.2=x }) (λ q=>QS b y d h h' x q.1.1) (λ q=>q.1.2.len) ⟨(.nil,x),rfl⟩ ?_ ?_
   ·apply aK [((16,0),[(16,0)]),((41,0),[(41,0)])]<;>simp[gW,Ts.len,AV.ok,Dc.ok,aF]
   ·rintro⟨⟨a,r⟩,hq⟩
    simp only at hq
    cases r with
    | nil =>
     have e:a=x:=by rw[<-hq];exact (Ts.app_nil a).symm
     subst e
     simp[QS,Ds.app_nil]
     exact⟨[((0,0),[(16,0)]),((0,1),[(41,0),(100,0)])],by simp⟩
    | cons hh hx r =>
     have h1:a.len<x.len:=by rw[<-hq];simp[Ts.app_len,Ts.len]
     have h2:(tDs ty x).dp (a.len*5)=tDs ty (.cons hh hx r):=by rw[<-hq];exact fH a _
     have h3:hh.fits/\hx.fits:=dS (a:=a) (by rw[hq];exact hf.2)
     have h4:aH hh.l+hx.size+1<=x.size:=by rw[<-hq];exact app_size
     have hw:=wr1 (k:=a.len) (by omega)
     have hdp:aX h.k a.len d<=d+1:=by unfold aX;split<;>omega
     have hne:tDs ty (gW y h.k 0 d (a.app (.cons hh hx .nil)))=(tDs ty (gW y h.k 0 d a)).app (tDs ty (cK y (aX h.k a.len d) ⟨hh,hx⟩).ts):=by
      rw[qV,iM,bG,Nat.zero_add];rfl
     have hsz:x.size<=(⟨h,x⟩:Tm).size:=by unfold Tm.size;simp only;omega
     have hsz2:(⟨hh,hx⟩:Tm).size+1<=x.size:=h4
     have ihh:=ih ⟨hh,hx⟩ (aX h.k a.len d) (by omega) h3 (by omega)
     generalize cK y (aX h.k a.len d) ⟨hh,hx⟩=P at *
     simp[QS,h1,h2]
     refine⟨by rw[aF];omega,by kernel_rfl,?_⟩
     apply aC ((k203 (.func 280) #[] #[.pointer (some ⟨b,0,none⟩)] d h.k a.len (by omega)).gp b y)<;>simp[wkA]
     apply aC ihh<;>simp[wkA]
     refine⟨by rw[aF,oU];omega,a.app (.cons hh hx .nil),r,by simp[Ts.len],by rw[Ts.app_assoc];exact hq,?_⟩
     apply aK [((16,0),[(16,0)]),((41,0),[(41,0)]),((100,0),[(100,0),(39,0),(39,1)])]<;>simp[Ts.len,Ts.app_len,AV.ok,Dc.ok,hw,hne]
end
section
theorem CN{y:Ts}{h:Hd}{d:Nat}{u:Tm}{C:Nat}(hC:∀j,j<y.len->(y.tm j).size<=C)(hp:cM y h d=.inl u):u.size<=C:=by
 unfold cM at hp
 split at hp
 ·rename_i c1
  split at hp
  ·rename_i c2
   cases hp
   rw[kD]
   exact hC _ (by omega)
  ·cases hp
 ·cases hp
theorem CM{y:Ts}{h h':Hd}{d:Nat}(hp:cM y h d=.inr h'):h'.l=h.l:=by
 unfold cM at hp
 split at hp
 ·split at hp
  ·cases hp
  ·cases hp;rfl
 ·cases hp;rfl
theorem wE{y:Ts}{C:Nat}(hC:∀j,j<y.len->(y.tm j).size<=C):∀(x:Ts) (pk:Int) (i d:Nat),(gW y pk i d x).size<=x.size*(C+1)
 | .nil,_,_,_=>by simp[gW,Ts.size]
 | .cons h x r,pk,i,d=>by
  have ir:=wE hC r pk (i+1) d
  have ix:=wE hC x h.k 0 (aX pk i d)
  have e1:(aH h.l+x.size+1+r.size)*(C+1)=aH h.l*(C+1)+x.size*(C+1)+(C+1)+r.size*(C+1):=by
   rw[Nat.add_mul,Nat.add_mul,Nat.add_mul,Nat.one_mul]
  have e2:aH h.l<=aH h.l*(C+1):=Nat.le_mul_of_pos_right _ (Nat.succ_pos _)
  have e3:(Ts.cons h x r).size=aH h.l+x.size+1+r.size:=by simp only[Ts.size];omega
  rw[e3,e1]
  simp only[gW]
  cases hp:cM y h (aX pk i d) with
  | inl u =>
   have:=CN hC hp
   unfold Tm.size at this
   simp only[Ts.size]
   omega
  | inr h' =>
   have:=CM hp
   simp only[Ts.size,this]
   omega
theorem GN{y:Ts}{C:Nat}(hC:∀j,j<y.len->(y.tm j).size<=C)(t:Tm)(d:Nat):(cK y d t).size+1<=(t.size+1)*(C+1):=by
 have:=wE hC t.x t.h.k 0 d
 have e1:(t.size+1)*(C+1)=aH t.h.l*(C+1)+t.x.size*(C+1)+(C+1):=by
  unfold Tm.size;rw[Nat.add_mul,Nat.add_mul,Nat.one_mul]
 have e2:aH t.h.l<=aH t.h.l*(C+1):=Nat.le_mul_of_pos_right _ (Nat.succ_pos _)
 rw[e1]
 simp only[cK]
 cases hp:cM y t.h d with
 | inl u=>have:=CN hC hp;simp only;omega
 | inr h' =>
  have:=CM hp
  unfold Tm.size
  simp only[this]
  omega
theorem V5{y:Ts}:∀(m:Nat) (T:Tm) (d:Nat),pJ m T->∃d',eK m (cK y d T)=cK y d' (eK m T)
 | 0,T,d,_=>⟨d,rfl⟩
 | m+1,⟨h,x⟩,d,⟨h1,h2,h3⟩=>by
  have h5:h.k=5:=h1
  have e1:cK y d ⟨h,x⟩=⟨h,gW y h.k 0 d x⟩:=by
   simp only[cK,cM]
   rw[if_neg (λ h9=>by rw[h5] at h9;exact absurd h9.1 (by decide))]
  match x,h2,h3 with
  | .cons a p (.cons b q .nil),_,h3 =>
   obtain⟨d',h4⟩:=V5 m ⟨b,q⟩ (aX h.k 1 d) h3
   refine⟨d',?_⟩
   rw[e1]
   show eK m ((gW y h.k 0 d (.cons a p (.cons b q .nil))).tm 1)=cK y d' (eK m ⟨b,q⟩)
   rw[<-h4,iM,iM]
   rfl
theorem I7(n f:Int):∀(m:Nat) (T:Tm) (d:Nat),pJ m T->(eK m ⟨T.h.lift n f d,T.x.lift n f T.h.k 0 d⟩).size=(eK m T).size
 | 0,T,d,_=>by simp only[eK,Tm.size,J8,nK]
 | m+1,⟨h,x⟩,d,⟨h1,h2,h3⟩=>by
  match x,h2,h3 with
  | .cons a p (.cons b q .nil),_,h3=>exact I7 n f m ⟨b,q⟩ (aX h.k 1 d) h3
theorem xU:∀(row:Ts) (t:Tm),eK row.len (aG 5 row t)=t
 | .nil,_=>rfl
 | .cons h x r,t=>xU r t
theorem RY(a:Ag)(n:Nat)(v:Ts)(C:Nat)(hC:∀j,j<v.len->(v.tm j).size<=C):(iT a n v).size<=C:=by
 unfold iT
 split
 ·rename_i h;exact hC n h.2
 ·simp[Tm.size,gI,aH,Ts.size]
theorem W7(v:Ts)(C:Nat)(hC:∀j,j<v.len->(v.tm j).size<=C):∀(l:List Ag) (n j:Nat),j<(byT l n v).len->((byT l n v).tm j).size<=C
 | [],_,_,h=>by simp[byT,Ts.len] at h
 | a :: r,n,0,_=>RY a n v C hC
 | a :: r,n,j+1,h=>W7 v C hC r _ j (by simp[byT,Ts.len] at h;omega)
theorem qW(g:List Ag)(v:Ts)(C:Nat)(hC:∀j,j<v.len->(v.tm j).size<=C)(far:Int)(i:Nat)(row:Ts)(t:Tm):(cN g v far i row t).size+1<=(t.size+1)*(C+1):=by
 have hd:=pI far i _ _ 0 (lE row t)
 obtain⟨d',h1⟩:∃d',eK row.len (cK (byT (g.take i) 0 v) 0 ((aG 5 row t).lift far i))=cK (byT (g.take i) 0 v) d' (eK row.len ((aG 5 row t).lift far i)):=V5 (y:=byT (g.take i) 0 v) row.len _ 0 hd
 have h2:(eK row.len ((aG 5 row t).lift far i)).size=(eK row.len (aG 5 row t)).size:=I7 far i row.len _ 0 (lE row t)
 rw[xU] at h2
 show (eK row.len (cK (byT (g.take i) 0 v) 0 ((aG 5 row t).lift far i))).size+1<=_
 have h3:=GN (W7 v C hC (g.take i) 0) (eK row.len ((aG 5 row t).lift far i)) d'
 rw[<-h1] at h3
 rw[h2] at h3
 exact h3
def Rl.fits(r:Rl):Prop:=iF r.g/\r.i.fits
theorem cG(h:Hd)(x r:Ts):(Ts.cons h x r).size=(Tm.size ⟨h,x⟩+1)+r.size:=by simp only[Ts.size,Tm.size];omega
theorem xH(g:List Ag)(v:Ts)(C:Nat)(hC:∀j,j<v.len->(v.tm j).size<=C)(far:Int)(i:Nat):∀q e:Ts,(iP g v far i e q).size<=q.size*(C+1)
 | .nil,_=>by simp[iP,Ts.size]
 | .cons h x q,e=>by
  have h1:Tm.size ⟨(cN g v far i e ⟨h,x⟩).h,(cN g v far i e ⟨h,x⟩).x⟩+1<=_:=qW g v C hC far i e ⟨h,x⟩
  have h2:=xH g v C hC far i q (e.app (.cons h x .nil))
  simp only[iP]
  rw[cG,cG,Nat.add_mul]
  omega
end
section
open Go.ChangeShapes Go.WideShapes Go.ChangeAt Go.RowKit
theorem cells4':prog.cellsOf 4=1:=by kernel_rfl
theorem UJ:prog.cellsOf 52=1:=by kernel_rfl
theorem EP:prog.cellsOf 73=9:=by kernel_rfl
theorem ES:prog.cellsOf 54=3:=by kernel_rfl
theorem KY{α:Type}{l:List α}(h:l.length=9):∃a b c d e f g i j,l=[a,b,c,d,e,f,g,i,j]:=by
 obtain⟨a,l,rfl⟩:=List.exists_cons_of_length_pos (l:=l) (by omega)
 obtain⟨b,l,rfl⟩:=List.exists_cons_of_length_pos (l:=l) (by simp at h;omega)
 obtain⟨c,l,rfl⟩:=List.exists_cons_of_length_pos (l:=l) (by simp at h;omega)
 obtain⟨d,l,rfl⟩:=List.exists_cons_of_length_pos (l:=l) (by simp at h;omega)
 obtain⟨e,f,g,i,j,rfl⟩:=pZ (l:=l) (by simp at h;omega)
 exact⟨a,b,c,d,e,f,g,i,j,rfl⟩
theorem CD{α:Type}{l:List α}(h:l.length=3):∃a b c,l=[a,b,c]:=by
 obtain⟨a,l,rfl⟩:=List.exists_cons_of_length_pos (l:=l) (by omega)
 obtain⟨b,c,rfl⟩:=Y0 (l:=l) (by simp at h;omega)
 exact⟨a,b,c,rfl⟩
def VD(a:Ag):Prop:=(a.t.fits/\a.e.fits/\a.i.fits)/\inW a.m
theorem VA:∀ {ys:List (Ag×Ds×Nat)},(∀y∈ys,y.2.1=cA [y.1]/\VD y.1/\1+y.1.t.size+y.1.e.size+y.1.i.size<=y.2.2) ->
  oI (ys.map λ y=>y.2.1)=cA (ys.map (·.1))/\(iF (ys.map (·.1))/\∀a∈ys.map (·.1),inW a.m)/\dI (ys.map (·.1))<=(ys.map λ y=>y.2.2).sum
 | [],_=>⟨rfl,⟨fun q hq=>by simp at hq,λ q hq=>by simp at hq⟩,Nat.zero_le _⟩
 | y :: ys,h=>by
  obtain⟨h1,h2,h3⟩:=VA (ys:=ys) λ z hz=>h z (List.mem_cons.2 (.inr hz))
  obtain⟨k1,k2,k3⟩:=h y (List.mem_cons.2 (.inl rfl))
  refine⟨?_,⟨fun q hq=>?_,λ q hq=>?_⟩,?_⟩
  ·simp only[List.map_cons,oI,k1,h1];rfl
  ·rcases List.mem_cons.1 hq with rfl|hq
   ·exact k2.1
   ·exact h2.1 q hq
  ·rcases List.mem_cons.1 hq with rfl|hq
   ·exact k2.2
   ·exact h2.2 q hq
  ·simp only[dI,List.map_cons,List.sum_cons] at *
   omega
section
variable {H:Type} {enc:TypeId×Value->H} {W W':World}
theorem RV{held:Bool}{n:Nat}{cs:List Value}{x:DataW H×List MemPlace}(h:DataW.trod enc prog W 0 (λ _=>true) held n 73 cs=some x)(hz:kI W x.2) :
  ∃a:Ag,VD a/\1+a.t.size+a.e.size+a.i.size<=Rows.uptoBulk x.1/\Vs (U W) W.heap.size (cA [a]) cs:=by
 obtain⟨xs,n',rfl,rfl,hl,hxs,hf⟩:=DataW.trod_struct underlying73 h
 rw[EP] at hl
 obtain⟨c0,c1,c2,c3,c4,c5,c6,c7,c8,rfl⟩:=KY hl
 obtain⟨x0,x1,x2,x3,x4,rfl⟩:=pZ hxs
 have h0:DataW.trod enc prog W 0 (λ _=>true) held n' 4 (([c0,c1,c2,c3,c4,c5,c6,c7,c8].drop 0).take (prog.cellsOf 4))=some x0:=hf 0 _ rfl
 have h1:DataW.trod enc prog W 0 (λ _=>true) held n' 27 (([c0,c1,c2,c3,c4,c5,c6,c7,c8].drop 1).take (prog.cellsOf 27))=some x1:=hf 1 _ rfl
 have h2:DataW.trod enc prog W 0 (λ _=>true) held n' 25 (([c0,c1,c2,c3,c4,c5,c6,c7,c8].drop 6).take (prog.cellsOf 25))=some x2:=hf 2 _ rfl
 have h3:DataW.trod enc prog W 0 (λ _=>true) held n' 3 (([c0,c1,c2,c3,c4,c5,c6,c7,c8].drop 7).take (prog.cellsOf 3))=some x3:=hf 3 _ rfl
 have h4:DataW.trod enc prog W 0 (λ _=>true) held n' 25 (([c0,c1,c2,c3,c4,c5,c6,c7,c8].drop 8).take (prog.cellsOf 25))=some x4:=hf 4 _ rfl
 rw[cells4'] at h0
 rw[rS] at h1
 rw[rT] at h2 h4
 rw[qB] at h3
 obtain⟨b,e0,rfl⟩:=DataW.trod_bool underlying4 h0
 obtain⟨m,e3,rfl,g3⟩:=open_int underlying3 h3
 have hz':kI W (x1.2++(x2.2++x4.2)):=by simpa using hz
 obtain⟨z1,hz'⟩:=iY hz'
 obtain⟨z2,z4⟩:=iY hz'
 obtain⟨k,nn,at',v,w,e1,l,t,f1,f2,s1,r1,r2⟩:=kK h1 z1 λ n2 cs2 x2 _ h2 hz2=>gY n2 cs2 x2 h2 hz2
 obtain⟨ve,e2,te,fe,se,re⟩:=gY _ _ _ h2 z2
 obtain⟨vi,e4,ti,fi,si,ri⟩:=gY _ _ _ h4 z4
 cases e0
 cases e1
 cases e2
 cases e3
 cases e4
 refine⟨⟨b,⟨⟨k,nn,at',l⟩,t⟩,te,m,ti⟩,⟨⟨⟨f1,f2⟩,fe,fi⟩,g3⟩,?_,_,rfl,_,rfl,_,rfl,_,rfl,_,_,rfl,r1,_,_,rfl,r2,_,_,rfl,re,_,rfl,_,_,rfl,ri,rfl⟩
 simp[Rows.uptoBulk,Rows.uptoBulkAll,Tm.size]
 omega
theorem MX{held:Bool}{n:Nat}{cs:List Value}{x:DataW H×List MemPlace}(h:DataW.trod enc prog W 0 (λ _=>true) held n 52 cs=some x)(hz:kI W x.2) :
  ∃v,cs=[v]/\∃l:List Ag,(iF l/\∀a∈l,inW a.m)/\1+dI l<=Rows.uptoBulk x.1/\Rd (U W) W.heap.size v 9 (cA l) .nil:=by
 obtain⟨v,hv,ys,h1,h2,h3⟩:=jT (α:=Ag) underlying52 EP (by decide) (λ y d s=>d=cA [y]/\VD y/\1+y.t.size+y.e.size+y.i.size<=s) h hz (λ n' cs' x' _ h' hz'=>by
  obtain⟨a,g1,g2,g3⟩:=RV h' hz'
  exact⟨a,_,_,⟨rfl,g1,g2⟩,Nat.le_refl _,g3⟩)
 obtain⟨e1,e2,e3⟩:=VA h1
 refine⟨v,hv,ys.map (·.1),e2,by omega,?_⟩
 rw[<-e1];exact h3
set_option maxRecDepth 100000
end
end
section
theorem Holds.made{P:Program}{G:World->Prop}{f:Nat}{ps:List AV}{t:Tm}(h:Holds P G f (.list ps) (tmO t)){w:World}{vs:List Value}(hG:G w)(hv:RepV (bJ (U w) w) (.list ps) vs):Calls P f vs.toArray w (MakesT t.h t.x w) :=
 (h.2.2 (U w) w vs (λ _ _ _ h=>h) hG hv).mono λ e w' ⟨v,fp,h1,h2,h3,h6,h7⟩=>by
  obtain⟨ys,e,h⟩:=h3
  obtain⟨-,_,rfl,-,_,rfl,-,_,rfl,-,v1,_,rfl,h4,o1,-,v2,_,rfl,h5,o2,rfl⟩:=h
  cases e
  obtain⟨p,n,c,rfl,-⟩:=id h4
  obtain⟨p',n',c',rfl,-⟩:=id h5
  obtain⟨-,S1,w1,n1,m1⟩:=o1 (0,0) rfl
  obtain⟨-,S2,w2,n2,m2⟩:=o2 (0,1) rfl
  obtain⟨_,_,z1,u1,B1,A1,A2,A3,e1,a1,a2,a3,⟨e5,rfl⟩,rfl⟩:=w1
  cases e1
  have hS:∀x,x∈B1++(A1++(A2++[]))->x ∉ S2:=λ x hx hy=>by
   have:=h7 _ _ x (m1 x hx) (m2 x hy)
   cases this
  refine⟨p,n,c,p',n',c',B1++(A1++(A2++S2)),h1,h2,⟨_,rfl,_,rfl,_,rfl,_,_,z1,u1,B1,A1,A2,S2,rfl,a1,a2,a3,w2,rfl⟩,?_⟩
  have e:B1++(A1++(A2++S2))=(B1++(A1++(A2++[])))++S2:=by simp[List.append_assoc]
  rw[e]
  exact List.nodup_append.2 ⟨n1,n2,λ x hx y hy e=>by subst e;exact hS x hx hy⟩
theorem RK(h:Hd)(x y:Ts)(va vy:Value)(w:World)(ha:RM ty w va h x)(hy:RT ty w vy y)(hf:Tm.fits ⟨h,x⟩)(hyf:y.fits)(hs:Tm.size ⟨h,x⟩<=100000000)(hys:y.size<=100000000)(hKA:KA w) :
  Calls prog 270 #[va,vy] w (MakesT (cK y 0 ⟨h,x⟩).h (cK y 0 ⟨h,x⟩).x w):=by
 obtain⟨q,c,r,m,rfl,-,-,-,-,hl,hx⟩:=ha.agg
 obtain⟨p,n,cc,rfl,-⟩:=id hy
 obtain⟨w2,hw2⟩:∃w2,((w.alloc (.cells #[.int .i64 h.k,.int .i64 h.n,.int .i64 h.a,.slice q h.l.length c,.slice r x.len m] 27)).alloc (.cells #[.slice p n cc] 25)).alloc (.cells cE 27)=w2:=⟨_,rfl⟩
 have hb2:Below w.heap.size w w2:=by rw[<-hw2];exact aB (aB (aA _ _) (aA _ _)) (aA _ _)
 have hs2:w2.heap.size=w.heap.size+3:=by rw[<-hw2];simp
 have p1:∀o v,(#[.int .i64 h.k,.int .i64 h.n,.int .i64 h.a,.slice q h.l.length c,.slice r x.len m]:Array Value)[o]? = some v->U w2 w.heap.size o=some v:=λ o v hv=>by
  rw[<-hw2]
  exact aE (aA _ _) _ _ _ (by first|(simp;done)|(simp;omega)) (aE (aA _ _) _ _ _ (by first|(simp;done)|(simp;omega)) (aM hv))
 have pn:U w2 (w.heap.size+1) 0=some (.slice p n cc):=by
  have:=aM (w:=w.alloc (.cells #[.int .i64 h.k,.int .i64 h.n,.int .i64 h.a,.slice q h.l.length c,.slice r x.len m] 27)) (cs:=#[.slice p n cc]) (ty:=25) (o:=0) rfl
  rw[World.size_alloc] at this
  rw[<-hw2]
  exact aE (aA _ _) _ _ _ (by first|(simp;done)|(simp;omega)) this
 have p2:∀o v,cE[o]? = some v->U w2 (w.heap.size+1+1) o=some v:=λ o v hv=>by
  have:=aM (w:=(w.alloc (.cells #[.int .i64 h.k,.int .i64 h.n,.int .i64 h.a,.slice q h.l.length c,.slice r x.len m] 27)).alloc (.cells #[.slice p n cc] 25)) (ty:=27) hv
  rw[World.size_alloc,World.size_alloc,hw2] at this
  exact this
 have c0:=aD (p1 0 _ rfl)
 have c1:=aD (p1 1 _ rfl)
 have c2:=aD (p1 2 _ rfl)
 have c3:=aD (p1 3 _ rfl)
 have c4:=aD (p1 4 _ rfl)
 have hGP:GP (w.heap.size+1) y w2:=⟨hKA.on hb2 hKA.1,_,pn,hy.on hb2⟩
 have HC:=hid ((k126 (w.heap.size+1) y hyf hys _ ⟨h,x⟩ 0 (Nat.lt_succ_self _) hf (by omega)).made (w:=w2) (vs:=[.agg #[.int .i64 0,CO (w.heap.size+1)],.agg #[.int .i64 h.k,.int .i64 h.n,.int .i64 h.a,.slice q h.l.length c,.slice r x.len m]]) hGP ⟨_,_,rfl,⟨_,rfl,rfl,_,rfl,rfl,_,rfl,rfl⟩,_,_,rfl,zD (ha.on hb2),rfl⟩)
 have HB2:=hid hb2
 have HS2:=hid hs2
 have P2:=hid p2
 unfold cE at hw2
 unfold CO at HC
 have hmf:∀(fn:Fn) (first cap:Array Value) (w:World),(Instr.makeFunc fn first cap).run prog w=.ok (.func fn first cap) w:=λ _ _ _ _=>rfl
 clear hl hx ha hf hyf hs hys hb2 hs2 p1 p2 pn hKA hGP hy
 go_enter func270,ntmps270
 go_wp2_with fail
 refine HC.out.mono ?_
 rintro e wy ⟨s1,n1,d1,s2,n2,d2,S,rfl,hby,ho,hn⟩
 have hlt:w.heap.size+1+1<w2.heap.size:=by have:=HS2.out;omega
 have z2:∀o v,cE[o]? = some v->U wy (w.heap.size+1+1) o=some v:=λ o v hv=>aE hby _ _ _ hlt (P2.out o v hv)
 have m0:=aD (z2 0 _ rfl)
 have m1:=aD (z2 1 _ rfl)
 have m2:=aD (z2 2 _ rfl)
 have m3:=aD (z2 3 _ rfl)
 have m4:=aD (z2 4 _ rfl)
 have o0:=aI (z2 0 _ rfl)
 have o1:=aI (z2 1 _ rfl)
 have o2:=aI (z2 2 _ rfl)
 have o3:=aI (z2 3 _ rfl)
 have o4:=aI (z2 4 _ rfl)
 have HBY:=hid (aB HB2.out hby)
 have HO:=hid ho
 have HN:=hid hn
 have Z2:=hid z2
 generalize cK y 0 ⟨h,x⟩=R at *
 obtain⟨k1,hk1⟩:∃z,R.h.k=z:=⟨_,rfl⟩
 obtain⟨k2,hk2⟩:∃z,R.h.n=z:=⟨_,rfl⟩
 obtain⟨k3,hk3⟩:∃z,R.h.a=z:=⟨_,rfl⟩
 have HK1:=hid hk1
 have HK2:=hid hk2
 have HK3:=hid hk3
 rw[hk1,hk2,hk3] at HO ⊢
 clear hby ho hn z2 c0 c1 c2 c3 c4 hk1 hk2 hk3 hlt hw2
 go_wp2_with fail
 obtain⟨W,hW⟩:∃W,((((wy.setCell ⟨w.heap.size+1+1,0,none⟩ (.int .i64 k1)).setCell ⟨w.heap.size+1+1,1,none⟩ (.int .i64 k2)).setCell ⟨w.heap.size+1+1,2,none⟩ (.int .i64 k3)).setCell ⟨w.heap.size+1+1,3,none⟩ (.slice s1 n1 d1)).setCell ⟨w.heap.size+1+1,4,none⟩ (.slice s2 n2 d2)=W:=⟨_,rfl⟩
 obtain⟨⟨x0,x1,x2,x3,x4⟩,hBF,hkW⟩:=C8 Z2.out HBY.out (by omega) hW
 rw[hW]
 refine bodyPost_ret (v:=.agg #[.int .i64 k1,.int .i64 k2,.int .i64 k3,.slice s1 n1 d1,.slice s2 n2 d2]) (by simp[results,results270,go_sem,x0,x1,x2,x3,x4]) rfl ⟨s1,n1,d1,s2,n2,d2,S,by rw[HK1.out,HK2.out,HK3.out],hBF,?_,HN.out⟩
 rw[HK1.out,HK2.out,HK3.out]
 exact (HO.out.lower (by have:=HS2.out;omega)).kept λ b hb=>hkW b (by have:=(HO.out.mem b hb).1;have:=HS2.out;omega)
theorem k192(t:Tm)(y:Ts)(hy:y.fits)(hys:y.size<=100000000)(hf:t.fits)(hs:t.size<=100000000):HH 270 [tmL t,tsA none y] (tmO (cK y 0 t)):=by
 refine nE (bT func270 (by decide) rfl) λ F w vs hF hG hv=>?_
 obtain⟨u,v,rfl,h1,h2⟩:=oZ hv
 exact RK t.h t.x y u v w (mQ hF h1) (oD hF h2) hf hy hs hys hG
end
section
attribute [local simp] ty_p ty_l ty_t kH tDs cB Tm.ts rN gI ac_skip ac_label ac_region ac_seq ac_cond ac_block ac_loop ac_exit ac_ret seqK_n seqK_r seqK_e vo_nil vo_cons blkK LC rU BZ jO jP oK ev jQ gF St.out Z5 oC upd eD wV K0 asC rO mI yF oJ xE uR tU tb Dc.tk Dc.dp Dc.over Dc.app Dc.ln Dc.ds Dc.sing Dc.cont AV.cont Ds.hd Value.oneCell' GA tO AB AV.imp Dc.imp φOf eR AV.isLL AV.list AV.app AV.arg AV.isL AV.ren Dc.ren Dc.lent tmC tmA tsA iA lo? abin AV.nth Dc.own Dc.toks bV pG JD τOf
attribute [local simp] AV.room FB agC vD Ds.len Ds.dp
theorem own_kid{w:World}{base:Nat}{h a b:Hd}{p q r:Ts}{us:List Value}{S:List Nat}(ho:Own w base (tDs ty (.cons h (.cons a p (.cons b q r)) .nil)) us S)(hn:S.Nodup) :
  ∃l g n cap vl vk S',us=[.int .i64 h.k,.int .i64 h.n,.int .i64 h.a,l,.slice (some ⟨g,0,none⟩) n cap]/\2<=n/\n<=cap/\w.cell? ⟨g,5,none⟩=some (.int .i64 b.k)/\w.cell? ⟨g,6,none⟩=some (.int .i64 b.n)/\w.cell? ⟨g,7,none⟩=some (.int .i64 b.a)/\w.cell? ⟨g,8,none⟩=some vl/\w.cell? ⟨g,9,none⟩=some vk /\
   Own w base (tDs ty (.cons b q .nil)) [.int .i64 b.k,.int .i64 b.n,.int .i64 b.a,vl,vk] S'/\S'.Nodup/\(∀x∈S',x∈S)/\(∃p n c,vl=Value.slice p n c)/\∃p n c,vk=Value.slice p n c:=by
 obtain⟨_,rfl,_,rfl,_,rfl,l,us,lz,lu,B1,T1,T2,T3,rfl,lo,-,-,⟨k,us',zs,es,B2,A1,A2,A3,rfl,ko,kz,⟨rfl,rfl⟩,⟨rfl,rfl⟩,rfl⟩,rfl⟩:=ho
 rw[List.append_nil] at ko
 have hkl:=kz.len
 obtain⟨_,rfl,_,rfl,_,rfl,l1,_,l1z,l1u,C1,D1,D2,D3,rfl,-,-,-,⟨k1,_,k1z,k1u,C2,E1,E2,E3,rfl,-,-,-,hz,rfl⟩,rfl⟩:=kz
 obtain⟨_,rfl,_,rfl,_,rfl,vl,_,vz,vu,F1,G1,G2,G3,rfl,w1,w2,w3,⟨vk,rs,kz',ku',H1,I1,I2,I3,rfl,w4,w5,w6,w7,rfl⟩,rfl⟩:=hz
 have hx:(tDs ty (.cons a p (.cons b q r))).len=(r.len+2)*5:=by rw[aF];rfl
 rcases ko with ⟨_,-,h0,-⟩|⟨g,n,cap,cur,rfl,rfl,hg,hb,hnc,hcl,hcs,hm,hle,hle2,htk⟩
 ·rw[hx] at h0;omega
 ·have cell:=iK hb htk
  have one:∀ {x s:Ds} {v:Value} {sz e m:Nat} {xs:List Value} {B:List Nat},RowO w base sz e v m xs B->∃p n c,v=Value.slice p n c:=λ h=>by
   rcases h with ⟨_,rfl,-⟩|⟨_,_,_,_,-,rfl,-⟩<;>exact⟨_,_,_,rfl⟩
  have sub:((F1++(G1++(G2++(H1++(I1++(I2++[])))))).Sublist (F1++(G1++(G2++(H1++(I1++(I2++I3))))))):=by
   refine (List.Sublist.refl _).append ((List.Sublist.refl _).append ((List.Sublist.refl _).append ((List.Sublist.refl _).append ((List.Sublist.refl _).append ((List.Sublist.refl _).append (List.nil_sublist _))))))
  have sub2:(F1++(G1++(G2++(H1++(I1++(I2++[])))))).Sublist (B1++(T1++(T2++([g]++((C1++(D1++(D2++(C2++(E1++(E2++(F1++(G1++(G2++(H1++(I1++(I2++I3))))))))))))++([]++[])))))):=by
   refine List.Sublist.trans ?_ (List.sublist_append_right _ _)
   refine List.Sublist.trans ?_ (List.sublist_append_right _ _)
   refine List.Sublist.trans ?_ (List.sublist_append_right _ _)
   refine List.Sublist.trans ?_ (List.sublist_append_right _ _)
   refine List.Sublist.trans ?_ (List.sublist_append_left _ _)
   refine List.Sublist.trans ?_ (List.sublist_append_right _ _)
   refine List.Sublist.trans ?_ (List.sublist_append_right _ _)
   refine List.Sublist.trans ?_ (List.sublist_append_right _ _)
   refine List.Sublist.trans ?_ (List.sublist_append_right _ _)
   refine List.Sublist.trans ?_ (List.sublist_append_right _ _)
   refine List.Sublist.trans ?_ (List.sublist_append_right _ _)
   exact sub
  refine⟨l,g,n,cap,vl,vk,_,rfl,by rw[hx] at hm;omega,hnc,?_,?_,?_,?_,?_,⟨_,rfl,_,rfl,_,rfl,vl,_,vz,vu,F1,G1,G2,_,rfl,w1,w2,w3,⟨vk,_,kz',ku',H1,I1,I2,[],rfl,w4,w5,w6,⟨rfl,rfl⟩,rfl⟩,rfl⟩,?_,λ x hx=>sub2.subset hx,one (x:=.nil) (s:=.nil) w1,one (x:=.nil) (s:=.nil) w4⟩
  ·have:=aD (cell 5 _ rfl);simpa using this
  ·have:=aD (cell 6 _ rfl);simpa using this
  ·have:=aD (cell 7 _ rfl);simpa using this
  ·have:=aD (cell 8 _ rfl);simpa using this
  ·have:=aD (cell 9 _ rfl);simpa using this
  ·exact sub2.nodup hn
abbrev zC:Dc:=.lit (.int .i64 0) (.lit (.int .i64 0) (.lit (.int .i64 0) (.nilr 1 30 (.nilr 5 27 .nil))))
def sa111(r:Rl)(v:Ts)(far:Int)(i:Nat)(row:Ts)(t:Tm):St:=bV [(1,iA i),(2,tsA none row),(4,.bx 5 0),(7,.bx 8 0),(8,.bx 9 0)] [(5,254,mvC r v far),(8,27,tmC none none t.h t.x),(9,27,zC)] []
def sb111(row:Ts)(P:Tm):St:=bV [(2,tsA none row),(8,.bx 9 0),(9,.bx 10 0)] [(9,27,zC),(10,27,tmC (some (21,0)) (some (21,1)) P.h P.x)] [(21,0)]
theorem Box.U{w:World}{b T:Nat}{cs:Array Value}(h:Box w b T cs):∀o v,cs[o]? = some v->U w b o=some v:=λ o v hv=>nJ (h.cell hv) (by have h':w.heap[b]? = _:=h;simp[World.frozen?,h'])
theorem k111(r:Rl)(i:Nat)(row:Ts)(t:Tm)(v:Ts)(far:Int)(hi:i<=r.g.length)(hl:r.g.length<=100000000)(hv:v.len<=100000000)(hr:row.fits)(hrs:row.size<=100000000)(ht:t.fits)(hts:t.size<=100000000)
  (hA:(aG 5 row t).fits) (hAs:(aG 5 row t).size<=100000000) (hL:((aG 5 row t).lift far i).fits) (hLs:((aG 5 row t).lift far i).size<=100000000) (hB:(byT (r.g.take i) 0 v).fits) (hBs:(byT (r.g.take i) 0 v).size<=100000000) :
  HH 252 [.agg (mvC r v far),iA i,tsA none row,tmL t] (tmO (cN r.g v far i row t)):=by
 refine nE (bT func252 (by decide) rfl) λ F w vs hF hG hvs=>?_
 have hrl:row.len<=100000000:=Nat.le_trans (len_le_size row) hrs
 have d0:row.len*5 / 5=row.len:=by omega
 have hdeep:pJ row.len (cK (byT (r.g.take i) 0 v) 0 ((aG 5 row t).lift far i)):=vM _ _ _ _ (pI far i _ _ 0 (lE row t))
 have hres:cN r.g v far i row t=eK row.len (cK (byT (r.g.take i) 0 v) 0 ((aG 5 row t).lift far i)):=rfl
 have q1:=k162 row t hr hrs ht hts
 have q2:=h60 (aG 5 row t) far i hA hAs
 have q3:=k193 r v far i hi hl hv
 have q4:=k192 ((aG 5 row t).lift far i) (byT (r.g.take i) 0 v) hB hBs hL hLs
 rw[hres]
 clear hres hA hAs hL hLs hB hBs
 generalize cK (byT (r.g.take i) 0 v) 0 ((aG 5 row t).lift far i)=P at *
 generalize (aG 5 row t).lift far i=L at *
 generalize byT (r.g.take i) 0 v=B at *
 generalize aG 5 row t=A at *
 have hs:=R8 (N:=31) hG (RepV.mv (g:=bJ F w) (g':=bJ (U w) w) hF (Nat.le_refl _) (.inl rfl) rfl hvs) (by simp) (λ a ha=>AV.bare_ok (by simp at ha;rcases ha with rfl|rfl|rfl|rfl<;>rfl) _ _)
 clear hvs hF
 refine calls_of_wp func252 rfl ?_
 refine kX oE lQ mixed (st':=sa111 r v far i row t) hs ?_ (λ a1 w1 hs1=>?_)
 ·clear hs
  simp[toK,mvC]
  apply aK []<;>simp[AV.ok,Dc.ok,mvC]
 refine kX oE lQ mixed (st':=sb111 row P) hs1 ?_ (λ a2 w2 hs2=>?_)
 ·clear hs hs1
  simp[sa111,mvC]
  refine⟨by kernel_rfl,?_⟩
  apply aC q1<;>simp
  apply aC q2<;>simp
  apply aC q3<;>simp[mvC]
  apply aC q4<;>simp[toK]
  apply aK [((21,0),[(21,0)]),((21,1),[(21,1)])]<;>simp[AV.ok,Dc.ok]
 clear hs1 hs q1 q2 q3 q4
 obtain⟨g,rfl,hI,hbx,hτ,hbase,hF0,hsl⟩:=hs2.gh
 have bB:=hs2.below
 obtain⟨x9,b9,q9⟩:=Y7 hI (k:=9) (T:=27) (d:=zC) (by rw[hbx];rfl)
 obtain⟨x10,b10,q10⟩:=Y7 hI (k:=10) (T:=27) (d:=tmC (some (21,0)) (some (21,1)) P.h P.x) (by rw[hbx];rfl)
 obtain⟨S,hown,hnd,hS⟩:=Z8 hI q10 (by simp only[tmC,Dc.own,hτ];simp) (by simp only[tmC,Dc.toks];decide)
 have k9:w.heap.size<=g.B 9:=hbase ▸ (hI.box 9 27 zC (by rw[hbx];rfl)).1
 have k10:w.heap.size<=g.B 10:=hbase ▸ (hI.box 10 27 _ (by rw[hbx];rfl)).1
 have hne:g.B 10≠g.B 9:=λ e=>by
  have:=hI.inj 10 9 (by rw[hbx];exact Option.some_ne_none _) (by rw[hbx];exact Option.some_ne_none _) e
  omega
 have nS:∀b∈S,b≠g.B 10/\b≠g.B 9:=λ b hb=>by
  obtain⟨tk,-,h1,h2⟩:=hS b hb
  have h3:=(hI.fpb tk.1 tk.2 b h1 h2).2.2
  exact⟨h3 10 (by rw[hbx];exact Option.some_ne_none _),h3 9 (by rw[hbx];exact Option.some_ne_none _)⟩
 rw[hbase] at hown
 have s8:a2.tmps.getD 8 undef=.pointer (some ⟨g.B 9,0,none⟩):=by have:=(hsl 8 (by decide)).1;simpa using this
 have s9:a2.tmps.getD 9 undef=.pointer (some ⟨g.B 10,0,none⟩):=by have:=(hsl 9 (by decide)).1;simpa using this
 obtain⟨p2,c2,s2⟩:∃p c,a2.tmps.getD 2 undef=.slice p row.len c:=by
  obtain⟨-,v2,_,e2,⟨p,n,c,e3,h3,-⟩,-,-⟩:=hsl 2 (by decide)
  cases e2
  rw[aF] at h3
  obtain rfl:n=row.len:=by omega
  exact⟨p,c,e3⟩
 have hsz:=hs2.size
 have hdf:=hs2.defers
 obtain rfl:x9=[.int .i64 0,.int .i64 0,.int .i64 0,.slice none 0 0,.slice none 0 0]:=by
  obtain⟨-,_,rfl,-,_,rfl,-,_,rfl,_,rfl,_,rfl,rfl⟩:=q9
  rfl
 obtain⟨q,m,d,q',m',d',rfl⟩:=lit5 q10
 have X9:=hid b9.U
 have X10:=hid b10.U
 have HO:=hid hown
 have HND:=hid hnd
 have HNS:=hid nS
 have HBB:=hid bB
 have HDP:=hid hdeep
 have HK:=hid (And.intro k9 k10)
 obtain⟨tmps,defers⟩:=a2
 obtain rfl:defers=[]:=hdf
 clear hs2 hI hbx hτ hbase hF0 hsl q9 q10 hS hown hnd nS b9 b10 bB hdeep k9 k10 hr hrs ht hts hi hl hv hG
 have e1:tmps=#[tmps.getD 0 undef,tmps.getD 1 undef,tmps.getD 2 undef,tmps.getD 3 undef,tmps.getD 4 undef,tmps.getD 5 undef,tmps.getD 6 undef,tmps.getD 7 undef,tmps.getD 8 undef,tmps.getD 9 undef,tmps.getD 10 undef,tmps.getD 11 undef,tmps.getD 12 undef,tmps.getD 13 undef,tmps.getD 14 undef,tmps.getD 15 undef,tmps.getD 16 undef,tmps.getD 17 undef,tmps.getD 18 undef,tmps.getD 19 undef,tmps.getD 20 undef,tmps.getD 21 undef,tmps.getD 22 undef,tmps.getD 23 undef,tmps.getD 24 undef,tmps.getD 25 undef,tmps.getD 26 undef,tmps.getD 27 undef,tmps.getD 28 undef,tmps.getD 29 undef,tmps.getD 30 undef]:=LW hsz
 clear hsz
 simp only at s8 s9 s2
 generalize tmps.getD 0 undef=x0 at *
 generalize tmps.getD 1 undef=x1 at *
 generalize tmps.getD 2 undef=x2 at *
 generalize tmps.getD 3 undef=x3 at *
 generalize tmps.getD 4 undef=x4 at *
 generalize tmps.getD 5 undef=x5 at *
 generalize tmps.getD 6 undef=x6 at *
 generalize tmps.getD 7 undef=x7 at *
 generalize tmps.getD 8 undef=x8 at *
 generalize tmps.getD 9 undef=x9 at *
 generalize tmps.getD 10 undef=x10 at *
 generalize tmps.getD 11 undef=x11 at *
 generalize tmps.getD 12 undef=x12 at *
 generalize tmps.getD 13 undef=x13 at *
 generalize tmps.getD 14 undef=x14 at *
 generalize tmps.getD 15 undef=x15 at *
 generalize tmps.getD 16 undef=x16 at *
 generalize tmps.getD 17 undef=x17 at *
 generalize tmps.getD 18 undef=x18 at *
 generalize tmps.getD 19 undef=x19 at *
 generalize tmps.getD 20 undef=x20 at *
 generalize tmps.getD 21 undef=x21 at *
 generalize tmps.getD 22 undef=x22 at *
 generalize tmps.getD 23 undef=x23 at *
 generalize tmps.getD 24 undef=x24 at *
 generalize tmps.getD 25 undef=x25 at *
 generalize tmps.getD 26 undef=x26 at *
 generalize tmps.getD 27 undef=x27 at *
 generalize tmps.getD 28 undef=x28 at *
 generalize tmps.getD 29 undef=x29 at *
 generalize tmps.getD 30 undef=x30 at *
 subst e1
 subst s8 s9 s2
 generalize g.w=W0 at *
 generalize g.B 9=B9 at *
 generalize g.B 10=B10 at *
 go_wp2_with fail
 go_loopw [23] (λ i wr=>∃(k:Nat) (u3 u4:Value) (S:List Nat),k<=row.len/\i=.int .i64 k/\Below w.heap.size w wr/\(∀o v,cE[o]? = some v->U wr B9 o=some v) /\
  (∀o v,(#[.int .i64 (eK k P).h.k,.int .i64 (eK k P).h.n,.int .i64 (eK k P).h.a,u3,u4]:Array Value)[o]? = some v->U wr B10 o=some v) /\
  Own wr w.heap.size (tDs ty (eK k P).ts) [.int .i64 (eK k P).h.k,.int .i64 (eK k P).h.n,.int .i64 (eK k P).h.a,u3,u4] S/\S.Nodup/\(∀b∈S,b≠B10/\b≠B9)) (λ i _=>row.len-(intOf i).toNat)
 case atStart=>exact⟨0,_,_,S,Nat.zero_le _,rfl,HBB.out,X9.out,X10.out,HO.out,HND.out,HNS.out⟩
 case round =>
  obtain⟨k,u3,u4,S',hk,rfl,hB,hZ,hX,hO,hN,hNS⟩:=hrel
  clear HO HND HNS X9 X10 HBB
  by_cases hlt:k<row.len
  ·have r1:decide ((k:Int)<(row.len:Int))=true:=decide_eq_true (by omega)
   have h1:=uK k (row.len-k-1+1) P (by rw[show k+(row.len-k-1+1)=row.len by omega];exact HDP.out)
   have h2:=uF k P
   generalize hI:eK k P=I at *
   generalize hJ:eK (k+1) P=J at *
   obtain⟨ih,ix⟩:=I
   obtain⟨-,h3,-⟩:=h1
   match ix,h3,h2,hI with
   | .cons a pp (.cons b qq .nil),_,h2,hI =>
    obtain⟨l,g',n,cap,vl,vk,S2,e,hn2,hnc,c5,c6,c7,c8,c9,hO2,hN2,hsub,⟨z1,z2,z3,rfl⟩,z4,z5,z6,rfl⟩:=own_kid hO hN
    simp only[List.cons.injEq,true_and,and_true] at e
    obtain⟨rfl,rfl⟩:=e
    have i1:(1:Int)<(n:Int):=by omega
    have f4:=aD (hX 4 _ rfl)
    have f3:=aD (hX 3 _ rfl)
    have f2:=aD (hX 2 _ rfl)
    have f1:=aD (hX 1 _ rfl)
    have f0:=aD (hX 0 _ rfl)
    have y4:=aI (hX 4 _ rfl)
    have y3:=aI (hX 3 _ rfl)
    have y2:=aI (hX 2 _ rfl)
    have y1:=aI (hX 1 _ rfl)
    have y0:=aI (hX 0 _ rfl)
    have HX:=hid hX
    have HZ:=hid hZ
    have HB:=hid hB
    have HO2:=hid hO2
    have HN2:=hid hN2
    have HS:=hid λ x hx=>hNS x (hsub x hx)
    have HJ:=hid hJ
    have H2:=hid h2
    simp only at f0 f1 f2 f3 f4 y0 y1 y2 y3 y4
    clear hX hZ hB hO2 hN2 hsub hNS hJ h2 hO hN hI
    go_wp2_with fail
    obtain⟨W,hW⟩:∃W,((((wr.setCell ⟨B10,0,none⟩ (.int .i64 b.k)).setCell ⟨B10,1,none⟩ (.int .i64 b.n)).setCell ⟨B10,2,none⟩ (.int .i64 b.a)).setCell ⟨B10,3,none⟩ (.slice z1 z2 z3)).setCell ⟨B10,4,none⟩ (.slice z4 z5 z6)=W:=⟨_,rfl⟩
    obtain⟨a0,a1,a2,a3,a4,hkW⟩:=rL (HX.out 0 _ rfl) (HX.out 1 _ rfl) (HX.out 2 _ rfl) (HX.out 3 _ rfl) (HX.out 4 _ rfl) hW
    have hBW:Below w.heap.size w W:=by
     rw[<-hW]
     exact (((((HB.out.setCell (p:=⟨B10,0,none⟩) HK.out.2 _).setCell (p:=⟨B10,1,none⟩) HK.out.2 _).setCell (p:=⟨B10,2,none⟩) HK.out.2 _).setCell (p:=⟨B10,3,none⟩) HK.out.2 _).setCell (p:=⟨B10,4,none⟩) HK.out.2 _)
    rw[hW]
    clear hW
    have hJJ:eK (k+1) P=⟨b,qq⟩:=HJ.out.trans H2.out
    go_roundw
    case rel =>
     refine⟨k+1,.slice z1 z2 z3,.slice z4 z5 z6,S2,by omega,by go_num,hBW,λ o v hv=>?_,?_,?_,HN2.out,HS.out⟩
     ·rw[eW (hkW B9 hne.symm)];exact HZ.out o v hv
     ·rw[hJJ]
      intro o v hv
      rcases o with _|_|_|_|_|o
      ·cases hv;exact a0
      ·cases hv;exact a1
      ·cases hv;exact a2
      ·cases hv;exact a3
      ·cases hv;exact a4
      ·simp at hv
     ·rw[hJJ]
      exact HO2.out.kept λ x hx=>hkW x (HS.out x hx).1
    case measure=>simp[intOf];omega
  ·obtain rfl:k=row.len:=by omega
   have r1:decide ((row.len:Int)<(row.len:Int))=false:=decide_eq_false (by omega)
   have f4:=aD (hX 4 _ rfl)
   have f3:=aD (hX 3 _ rfl)
   have f2:=aD (hX 2 _ rfl)
   have f1:=aD (hX 1 _ rfl)
   have f0:=aD (hX 0 _ rfl)
   have y4:=aI (hZ 4 _ rfl)
   have y3:=aI (hZ 3 _ rfl)
   have y2:=aI (hZ 2 _ rfl)
   have y1:=aI (hZ 1 _ rfl)
   have y0:=aI (hZ 0 _ rfl)
   have g4:=aD (hZ 4 _ rfl)
   have g3:=aD (hZ 3 _ rfl)
   have g2:=aD (hZ 2 _ rfl)
   have g1:=aD (hZ 1 _ rfl)
   have g0:=aD (hZ 0 _ rfl)
   obtain⟨z1,z2,z3,rfl⟩:∃p n c,u3=Value.slice p n c:=by
    obtain⟨_,e,_,e2,_,e3,v',_,_,_,_,_,_,_,e4,ro,-⟩:=hO
    cases e;cases e2;cases e3;cases e4
    rcases ro with ⟨_,rfl,-⟩|⟨_,_,_,_,-,rfl,-⟩<;>exact⟨_,_,_,rfl⟩
   obtain⟨z4,z5,z6,rfl⟩:∃p n c,u4=Value.slice p n c:=by
    obtain⟨_,e,_,e2,_,e3,v',_,_,_,_,_,_,_,e4,-,-,-,⟨_,_,_,_,_,_,_,_,e5,ro,-⟩,-⟩:=hO
    cases e;cases e2;cases e3;cases e4;cases e5
    rcases ro with ⟨_,rfl,-⟩|⟨_,_,_,_,-,rfl,-⟩<;>exact⟨_,_,_,rfl⟩
   have HZ:=hid hZ
   have HB:=hid hB
   have HO:=hid hO
   have HN:=hid hN
   have HS:=hid hNS
   generalize eK row.len P=I at *
   obtain⟨⟨k1,k2,k3,il⟩,ix⟩:=I
   clear hX hZ hB hO hN hNS
   go_wp2_with fail
   obtain⟨W,hW⟩:∃W,((((wr.setCell ⟨B9,0,none⟩ (.int .i64 k1)).setCell ⟨B9,1,none⟩ (.int .i64 k2)).setCell ⟨B9,2,none⟩ (.int .i64 k3)).setCell ⟨B9,3,none⟩ (.slice z1 z2 z3)).setCell ⟨B9,4,none⟩ (.slice z4 z5 z6)=W:=⟨_,rfl⟩
   obtain⟨⟨a0,a1,a2,a3,a4⟩,hBF,hkW⟩:=C8 HZ.out HB.out HK.out.1 hW
   rw[hW]
   refine bodyPost_ret (v:=.agg #[.int .i64 k1,.int .i64 k2,.int .i64 k3,.slice z1 z2 z3,.slice z4 z5 z6]) (by simp[results,results252,go_sem,a0,a1,a2,a3,a4]) rfl ⟨z1,z2,z3,z4,z5,z6,S',rfl,hBF,?_,HN.out⟩
   exact HO.out.kept λ x hx=>hkW x (HS.out x hx).2
def st40(r:Rl)(v:Ts)(far:Int)(a:Ts):St:=bV [(1,tsA none v),(2,iA far),(3,.bx 4 0),(6,.c (.blk 28 (a.len+1) 5 27 (.seg (some (100,0)) (tDs ty (kG r v far a)) .nil) .nil)),(10,tsA none r.i),(11,iA r.i.len),(12,iA a.len)] [(4,54,rlC r)] [(28,a.len+1),(100,0)]
theorem k40(r:Rl)(v:Ts)(far:Int)(hl:r.g.length<=1000)(hv:v.fits)(hsz:r.g.length*(v.size+1)<=100000000)(hvs:v.size<=100000000)(hf:r.i.fits)(hs:r.i.size<=100000000):HH 220 [rlL r,tsA none v,iA far] (tsA (some (0,0)) (kG r v far r.i)):=by
 have hil:r.i.len<=100000000:=Nat.le_trans (len_le_size r.i) hs
 have hvl:v.len<=100000000:=Nat.le_trans (len_le_size v) hvs
 have d0:r.i.len*5 / 5=r.i.len:=by omega
 have dg:r.g.length*9 / 9=r.g.length:=by omega
 have hby:=qD v (r.g.take r.g.length) 0
 rw[List.take_length] at hby
 refine ab0 func220 ntmps220 results220 ?_
 simp[rlL,rlC]
 refine lp (α:={ q:Ts×Ts // q.1.app q.2=r.i }) (λ q=>st40 r v far q.1.1) (λ q=>q.1.2.len) ⟨(.nil,r.i),rfl⟩ ?_ ?_
 ·apply aK [((28,0),[(28,0)])]<;>simp[AV.ok,Dc.ok,rlC,kG,Ts.len,aF,d0]
 ·rintro⟨⟨a,q⟩,hq⟩
  simp only at hq
  cases q with
  | nil =>
   have e:a=r.i:=by rw[<-hq];exact (Ts.app_nil a).symm
   rw[<-e] at d0
   simp[st40,rlC,aF,d0,<-e,Ds.app_nil]
   exact⟨[((0,0),[(28,0),(100,0)])],by simp⟩
  | cons h y q =>
   have h1:a.len<r.i.len:=by rw[<-hq];simp[Ts.app_len,Ts.len]
   have h2:(tDs ty r.i).dp (a.len*5)=tDs ty (.cons h y q):=by rw[<-hq];exact fH a _
   have h3:h.fits/\y.fits:=dS (a:=a) (by rw[hq];exact hf)
   have h4:aH h.l+y.size+1<=r.i.size:=by rw[<-hq];exact app_size
   have hw:=wr1 (k:=a.len) (by omega)
   have hts:(⟨h,y⟩:Tm).size<=100000000:=by unfold Tm.size;simp only;omega
   have q1:=k111 r r.g.length .nil ⟨h,y⟩ v far (Nat.le_refl _) (by omega) hvl trivial (by simp[Ts.size]) h3 hts (eG trivial h3) (Nat.le_trans (iG _ _) (by simp only[Ts.size];omega)) (jD _ _ (eG trivial h3)) (by rw[kD];exact Nat.le_trans (iG _ _) (by simp only[Ts.size];omega)) (nZ hv _ _) (by rw[List.take_length];omega)
   have e1:kG r v far (a.app (.cons h y .nil))=(kG r v far a).app (.cons (cN r.g v far r.g.length .nil ⟨h,y⟩).h (cN r.g v far r.g.length .nil ⟨h,y⟩).x .nil):=by rw[L0];rfl
   generalize cN r.g v far r.g.length .nil ⟨h,y⟩=P at *
   simp[st40,rlC,aF,d0,h1,h2,aU,dg]
   refine⟨by omega,?_⟩
   apply aC q1<;>simp[mvC]
   refine⟨by rw[aF,K9];omega,a.app (.cons h y .nil),q,by simp[Ts.len],by rw[Ts.app_assoc];exact hq,?_⟩
   apply aK [((28,0),[(28,0)]),((100,0),[(100,0),(26,0),(26,1)])]<;>simp[Ts.len,Ts.app_len,AV.ok,Dc.ok,hw,rlC,e1]
   rw[bG];rfl
def uD(r:Rl)(v:Ts)(far:Int):Ds:=.lit (.int .i64 r.m) (.row 9 73 (cA r.g) .nil (.row 5 27 (tDs ty r.i) .nil (.row 5 27 (tDs ty v) .nil (.lit (.int .i64 far) .nil))))
theorem k114(r:Rl)(v:Ts)(far:Int)(i:Nat)(hi:i<r.g.length)(hl:r.g.length<=500):HH 264 [.agg (mvC r v far),iA i] (agL r.g[i]):=by
 have h1:=lX hi
 have dg:r.g.length*9 / 9=r.g.length:=by omega
 have h0:¬(i:Int)<0:=by omega
 have hi2:¬r.g.length<=i:=by omega
 generalize r.g.drop (i+1)=qq at h1
 generalize r.g[i]=b at *
 refine ab0 func264 ntmps264 results264 ?_
 simp[mvC,h0,aU,dg,hi,hi2,h1,cA]
 refine⟨by omega,[],by simp[agL]⟩
def QV(r:Rl)(v:Ts)(far:Int)(i:Nat)(e a:Ts):St:=bV [(0,.el (uD r v far)),(1,.el (.lit (.int .i64 i) .nil)),(2,.c (.blk 27 (a.len+1) 5 27 (.seg (some (100,0)) (tDs ty (iP r.g v far i .nil a)) .nil) .nil)),(3,tsA none e),(10,tsA none e),(11,iA e.len),(12,iA a.len)] [] [(27,a.len+1),(100,0)]
theorem k113(r:Rl)(v:Ts)(far:Int)(i:Nat)(hi:i<r.g.length)(hl:r.g.length<=500)(hs:dI r.g<=30000000)(hf:iF r.g)(hv:v.fits)(hsz:i*(v.size+1)<=100000000)(hvs:v.size<=100000000) :
  HH 263 [.el (uD r v far),.el (.lit (.int .i64 i) .nil)] (tsA (some (0,0)) (iP r.g v far i .nil r.g[i].e)):=by
 have h1:=lX hi
 have hsa:=mD hi
 have ka:=k114 r v far i hi hl
 obtain⟨f1,f2,f3⟩:=hf _ (List.getElem_mem hi)
 have hvl:v.len<=100000000:=Nat.le_trans (len_le_size v) hvs
 have hby:=qD v (r.g.take i) 0
 rw[List.length_take,show min i r.g.length=i by omega] at hby
 generalize r.g.drop (i+1)=qq at h1
 generalize r.g[i]=b at *
 have hil:b.e.len<=100000000:=Nat.le_trans (len_le_size b.e) (by omega)
 have d0:b.e.len*5 / 5=b.e.len:=by omega
 refine ab0 func263 ntmps263 results263 ?_
 simp[uD]
 apply aC ka<;>simp[mvC,agL]
 refine lp (α:={ q:Ts×Ts // q.1.app q.2=b.e }) (λ q=>QV r v far i b.e q.1.1) (λ q=>q.1.2.len) ⟨(.nil,b.e),rfl⟩ ?_ ?_
 ·apply aK [((27,0),[(27,0)])]<;>simp[AV.ok,Dc.ok,iP,Ts.len,uD,aF,d0]
 ·rintro⟨⟨a,q⟩,hq⟩
  simp only at hq
  cases q with
  | nil =>
   have e:a=b.e:=by rw[<-hq];exact (Ts.app_nil a).symm
   rw[<-e] at d0
   simp[QV,aF,d0,<-e,Ds.app_nil]
   exact⟨[((0,0),[(27,0),(100,0)])],by simp⟩
  | cons h y q =>
   have h3:a.len<b.e.len:=by rw[<-hq];simp[Ts.app_len,Ts.len]
   have h2:(tDs ty b.e).dp (a.len*5)=tDs ty (.cons h y q):=by rw[<-hq];exact fH a _
   have h6:(tDs ty b.e).tk (a.len*5)=tDs ty a:=by rw[<-hq];exact PV a _
   have h4:h.fits/\y.fits:=dS (a:=a) (by rw[hq];exact f2)
   have h5:aH h.l+y.size+1<=b.e.size:=by rw[<-hq];exact app_size
   have h7:a.fits/\a.size<=b.e.size:=by
    have hfa:∀(a r:Ts),(a.app r).fits->a.fits:=λ a=>by
     induction a with
     | nil=>intro _ _;trivial
     | cons h x a _ ih=>intro r h9;exact⟨h9.1,h9.2.1,ih r h9.2.2⟩
    have e9:b.e.size=a.size+(Ts.cons h y q).size:=by rw[<-hq,iJ]
    exact⟨hfa a _ (by rw[hq];exact f2),by omega⟩
   have hw:=wr1 (k:=a.len) (by omega)
   have hts:(⟨h,y⟩:Tm).size<=30000000:=by unfold Tm.size;simp only;omega
   have hab:=iG a ⟨h,y⟩
   have q1:=k111 r i a ⟨h,y⟩ v far (by omega) (by omega) hvl h7.1 (by omega) h4 (by omega) (eG h7.1 h4) (by omega) (jD _ _ (eG h7.1 h4)) (by rw[kD];omega) (nZ hv _ _) (by omega)
   have e1:iP r.g v far i .nil (a.app (.cons h y .nil))=(iP r.g v far i .nil a).app (.cons (cN r.g v far i a ⟨h,y⟩).h (cN r.g v far i a ⟨h,y⟩).x .nil):=by rw[vS];rfl
   generalize cN r.g v far i a ⟨h,y⟩=P at *
   simp[QV,aF,d0,h3,h2,h6,uD]
   refine⟨by omega,by kernel_rfl,by omega,?_⟩
   apply aC q1<;>simp[mvC]
   refine⟨by rw[aF,sA];omega,a.app (.cons h y .nil),q,by simp[Ts.len],by rw[Ts.app_assoc];exact hq,?_⟩
   apply aK [((27,0),[(27,0)]),((100,0),[(100,0),(25,0),(25,1)])]<;>simp[Ts.len,Ts.app_len,AV.ok,Dc.ok,hw,e1,uD]
   rw[bG];rfl
def QU(r:Rl)(v:Ts)(far:Int)(i:Nat)(b:Ag)(a:Ts):St:=bV [(0,.el (uD r v far)),(1,.el (.lit (.int .i64 i) .nil)),(2,.c (.blk 25 (a.len+1) 5 27 (.seg (some (100,0)) (tDs ty (mT r.g v far i b.e a)) .nil) .nil)),(3,.bx 4 0),(10,tsA none b.i),(11,iA b.i.len),(12,iA a.len)] [(4,73,agC b)] [(25,a.len+1),(100,0)]
theorem k115(r:Rl)(v:Ts)(far:Int)(i:Nat)(hi:i<r.g.length)(hl:r.g.length<=500)(hs:dI r.g<=30000000)(hf:iF r.g)(hv:v.fits)(hsz:i*(v.size+1)<=100000000)(hvs:v.size<=100000000) :
  HH 266 [.el (uD r v far),.el (.lit (.int .i64 i) .nil)] (tsA (some (0,0)) (mT r.g v far i r.g[i].e r.g[i].i)):=by
 have h1:=lX hi
 have hsa:=mD hi
 have ka:=k114 r v far i hi hl
 obtain⟨f1,f2,f3⟩:=hf _ (List.getElem_mem hi)
 have hvl:v.len<=100000000:=Nat.le_trans (len_le_size v) hvs
 have hby:=qD v (r.g.take i) 0
 rw[List.length_take,show min i r.g.length=i by omega] at hby
 generalize r.g.drop (i+1)=qq at h1
 generalize r.g[i]=b at *
 have hil:b.i.len<=100000000:=Nat.le_trans (len_le_size b.i) (by omega)
 have d0:b.i.len*5 / 5=b.i.len:=by omega
 refine ab0 func266 ntmps266 results266 ?_
 simp[uD]
 apply aC ka<;>simp[mvC,agL]
 refine lp (α:={ q:Ts×Ts // q.1.app q.2=b.i }) (λ q=>QU r v far i b q.1.1) (λ q=>q.1.2.len) ⟨(.nil,b.i),rfl⟩ ?_ ?_
 ·apply aK [((25,0),[(25,0)])]<;>simp[AV.ok,Dc.ok,mT,Ts.len,uD,aF,d0]
 ·rintro⟨⟨a,q⟩,hq⟩
  simp only at hq
  cases q with
  | nil =>
   have e:a=b.i:=by rw[<-hq];exact (Ts.app_nil a).symm
   rw[<-e] at d0
   simp[QU,aF,d0,<-e,Ds.app_nil]
   exact⟨[((0,0),[(25,0),(100,0)])],by simp⟩
  | cons h y q =>
   have h3:a.len<b.i.len:=by rw[<-hq];simp[Ts.app_len,Ts.len]
   have h2:(tDs ty b.i).dp (a.len*5)=tDs ty (.cons h y q):=by rw[<-hq];exact fH a _
   have h4:h.fits/\y.fits:=dS (a:=a) (by rw[hq];exact f3)
   have h5:aH h.l+y.size+1<=b.i.size:=by rw[<-hq];exact app_size
   have hw:=wr1 (k:=a.len) (by omega)
   have hts:(⟨h,y⟩:Tm).size<=30000000:=by unfold Tm.size;simp only;omega
   have hab:=iG b.e ⟨h,y⟩
   have q1:=k111 r i b.e ⟨h,y⟩ v far (by omega) (by omega) hvl f2 (by omega) h4 (by omega) (eG f2 h4) (by omega) (jD _ _ (eG f2 h4)) (by rw[kD];omega) (nZ hv _ _) (by omega)
   have e1:mT r.g v far i b.e (a.app (.cons h y .nil))=(mT r.g v far i b.e a).app (.cons (cN r.g v far i b.e ⟨h,y⟩).h (cN r.g v far i b.e ⟨h,y⟩).x .nil):=by rw[C6];rfl
   generalize cN r.g v far i b.e ⟨h,y⟩=P at *
   simp[QU,aF,d0,h3,h2,uD]
   refine⟨by omega,?_⟩
   apply aC q1<;>simp[mvC]
   refine⟨by rw[aF,C5];omega,a.app (.cons h y .nil),q,by simp[Ts.len],by rw[Ts.app_assoc];exact hq,?_⟩
   apply aK [((25,0),[(25,0)]),((100,0),[(100,0),(23,0),(23,1)])]<;>simp[Ts.len,Ts.app_len,AV.ok,Dc.ok,hw,e1,uD]
   rw[bG];rfl
theorem D9:∀(n:Nat) (t:Tm) (j:Nat),j<(aQ n t).len->((aQ n t).tm j).size<=t.size+n
 | 0,t,j,h=>by simp[aQ,Ts.len] at h
 | 1,t,j,h=>by
  have:(aQ 1 t).len=1:=rfl
  obtain rfl:j=0:=by omega
  show Tm.size ⟨t.h,t.x⟩<=_
  have:Tm.size ⟨t.h,t.x⟩=t.size:=rfl
  omega
 | n+2,t,0,h=>by
  show Tm.size ⟨kH 14,t.ts⟩<=_
  rw[nD];omega
 | n+2,t,j+1,h=>by
  have:=D9 (n+1) ⟨kH 15,t.ts⟩ j (by simp only[aQ,Ts.len] at h;omega)
  rw[nD] at this
  show ((aQ (n+1) ⟨kH 15,t.ts⟩).tm j).size<=_
  omega
def stPa(z:Int)(a:Ts)(u:Tm):St:=bV [(1,iA z),(2,.bx 3 0),(4,.c (.blk 15 (a.len+1) 5 27 (.seg (some (100,0)) (tDs ty a) .nil) .nil))] [(3,27,tmC none none u.h u.x)] [(15,a.len+1),(100,0)]
theorem k15g(t:Tm)(n:Int)(hf:t.fits)(hn:n<=1000000)(hs:t.size+n.toNat<=90000000):HH 196 [tmL t,iA n] (tsA (some (0,0)) (aQ n.toNat t)):=by
 obtain⟨B,hB⟩:∃B,aQ n.toNat t=B:=⟨_,rfl⟩
 rw[hB]
 refine ab0 func196 ntmps196 results196 ?_
 simp
 refine lp (α:={ q:Int×Ts×Tm // q.2.1.app (aQ q.1.toNat q.2.2)=B/\q.1<=n/\q.2.2.fits/\q.2.2.size+q.1.toNat<=90000000/\q.2.1.len+q.1.toNat<=1000000 }) (λ q=>stPa q.1.1 q.1.2.1 q.1.2.2) (λ q=>q.1.1.toNat) ⟨(n,.nil,t),hB,Int.le_refl _,hf,hs,by simp[Ts.len];omega⟩ ?_ ?_
 ·apply aK [((15,0),[(15,0)])]<;>simp[AV.ok,Dc.ok,Ts.len]
 ·rintro⟨⟨z,a,u⟩,hq,hz,hu,hus,hal⟩
  simp only at hq hz hu hus hal
  by_cases h1:1<z
  ·obtain⟨k,hk⟩:∃k:Nat,z.toNat=k+2:=⟨z.toNat-2,by omega⟩
   have hk1:(z-1).toNat=k+1:=by omega
   have hw:IntKind.i64.wrap (z-1)=z-1:=by rw[IntKind.wrap_i64];omega
   have q1:=g59 14 u.ts (by decide) ((⟨hu.1,hu.2,trivial⟩:u.ts.fits)) (by rw[aN];omega)
   have q2:=g59 15 u.ts (by decide) ((⟨hu.1,hu.2,trivial⟩:u.ts.fits)) (by rw[aN];omega)
   rw[hk] at hq
   simp only[aQ] at hq
   simp[stPa,h1]
   apply aC q1<;>simp
   refine⟨by rw[aF];omega,?_⟩
   apply aC q2<;>simp
   refine⟨z-1,by omega,a.app (.cons (kH 14) u.ts .nil),⟨kH 15,u.ts⟩,⟨by rw[hk1,Ts.app_assoc];exact hq,by omega,⟨iR (by decide),(⟨hu.1,hu.2,trivial⟩:u.ts.fits)⟩,by rw[nD,hk1];omega,by rw[hk1];simp only[Ts.app_len,Ts.len];omega⟩,?_⟩
   apply aK [((15,0),[(15,0)]),((100,0),[(100,0),(13,0),(13,1)])]<;>simp[AV.ok,Dc.ok,hw,Ts.app_len,Ts.len]
   exact (bG ty a (.cons (kH 14) u.ts .nil)).symm
  ·by_cases h2:z=1
   ·subst h2
    have e:a.app u.ts=B:=hq
    subst e
    simp[stPa]
    apply aC (NQ u hu (by omega))<;>simp
    refine⟨by rw[aF];omega,?_⟩
    try simp[Ds.app_nil]
    exact⟨[((0,0),[(15,0),(100,0),(23,0),(23,1)])],by simp[bG];try (intro a b h;exact Or.inr h)⟩
   ·have h3:z.toNat=0:=by omega
    rw[h3] at hq
    simp only[aQ,Ts.app_nil] at hq
    subst hq
    simp[stPa,h1,h2,Ds.app_nil]
    exact⟨[((0,0),[(15,0),(100,0)])],by simp⟩
end
section
end
section
attribute [local simp] ty_p ty_l ty_t kH tDs cB Tm.ts rN gI ac_skip ac_label ac_region ac_seq ac_cond ac_block ac_loop ac_exit ac_ret seqK_n seqK_r seqK_e vo_nil vo_cons blkK LC rU BZ jO jP oK ev jQ gF St.out Z5 oC upd eD wV K0 asC rO mI yF oJ xE uR tU tb Dc.tk Dc.dp Dc.over Dc.app Dc.ln Dc.ds Dc.sing Dc.cont AV.cont Ds.hd Value.oneCell' GA tO AB AV.imp Dc.imp φOf eR AV.isLL AV.list AV.app AV.arg AV.isL AV.ren Dc.ren Dc.lent tmC tmA tsA iA lo? abin AV.nth Dc.own Dc.toks bV pG JD τOf
attribute [local simp] AV.room FB agC vD Ds.len Ds.dp
abbrev tryA(g:Nat)(r:Rl)(v:Ts)(far i:Int):AV:=.fn (.func g) .nil (AV.list [.el (uD r v far),.el (.lit (.int .i64 i) .nil)])
def TryAt(w:World)(r:Rl)(i:Int)(x y:Value):Prop:=∃m far pa pi pv na ca ni ci nv cv b o b' o',x=.pointer (some ⟨b,o,none⟩)/\y=.pointer (some ⟨b',o',none⟩)/\na=r.g.length/\b<w.heap.size/\b'<w.heap.size /\
  w.cell? ⟨b,o,none⟩=some (.int .i64 m)/\w.cell? ⟨b,o+1,none⟩=some (.slice pa na ca)/\w.cell? ⟨b,o+2,none⟩=some (.slice pi ni ci)/\w.cell? ⟨b,o+3,none⟩=some (.slice pv nv cv)/\w.cell? ⟨b,o+4,none⟩=some (.int .i64 far)/\w.cell? ⟨b',o',none⟩=some (.int .i64 i)
theorem TryAt.on{w W:World}{r:Rl}{i:Int}{x y:Value}(h:TryAt w r i x y)(hb:Below w.heap.size w W):TryAt W r i x y:=by
 obtain⟨m,far,pa,pi,pv,na,ca,ni,ci,nv,cv,b,o,b',o',e1,e2,e3,l1,l2,h0,h1,h2,h3,h4,h5⟩:=h
 exact⟨m,far,pa,pi,pv,na,ca,ni,ci,nv,cv,b,o,b',o',e1,e2,e3,Nat.lt_of_lt_of_le l1 hb.size,Nat.lt_of_lt_of_le l2 hb.size,(hb.cell (p:=⟨b,o,none⟩) l1).trans h0,(hb.cell (p:=⟨b,o+1,none⟩) l1).trans h1,(hb.cell (p:=⟨b,o+2,none⟩) l1).trans h2,(hb.cell (p:=⟨b,o+3,none⟩) l1).trans h3,(hb.cell (p:=⟨b,o+4,none⟩) l1).trans h4,(hb.cell (p:=⟨b',o',none⟩) l2).trans h5⟩
theorem Q9{g:Nat}{x y:AV}{t:Ts}(hx:x.isLL=true)(hux:x.unl=true)(huy:y.unl=true)(h:Holds prog KA g (x.app y) (tsA (some (0,0)) t)):HH 262 [.fn (.func g) x y] (tsA (some (0,0)) t):=by
 refine⟨bT func262 (by decide) rfl,rfl,λ F w vs hF hG hv=>?_⟩
 obtain⟨v,rfl,ys,zs,e1,h1,h2⟩:=qF hv
 cases e1
 have hb:Below w.heap.size w (w.alloc (.cells #[.slice none 0 0] 25)):=aA _ _
 have hFW:∀b o v,F b o=some v->U (w.alloc (.cells #[.slice none 0 0] 25)) b o=some v:=λ b o v hv=>aE hb _ _ _ (aL (hF b o v hv)) (hF b o v hv)
 have hmv:∀ {a:AV} {xs:List Value},a.unl=true->RepV (bJ F w) a xs->RepV (bJ F (w.alloc (.cells #[.slice none 0 0] 25))) a xs:=λ hu h=>RepV.mv (g:=bJ F w) (g':=bJ F (w.alloc (.cells #[.slice none 0 0] 25))) (λ _ _ _ h=>h) hb.size (.inr λ b o v hlt hv=>by
  have hlt:b<w.heap.size:=hlt
  have h3:(if b<w.heap.size then U w b o else F b o)=some v:=hv
  rw[if_pos hlt] at h3
  show (if b<(w.alloc (.cells #[.slice none 0 0] 25)).heap.size then U (w.alloc (.cells #[.slice none 0 0] 25)) b o else F b o)=some v
  rw[if_pos (Nat.lt_of_lt_of_le hlt hb.size)]
  exact aE hb _ _ _ hlt h3) hu h
 have hc:=h.2.2 F _ (ys++zs) hFW (lQ _ _ hb hG) (RepV.app (hmv huy h2) (hmv hux h1) hx)
 refine (FH g ys.toArray zs.toArray w h.1 (λ v w1=>∃S,Own w1 (w.heap.size+1) (.row 5 27 (tDs ty t) .nil .nil) [v] S/\S.Nodup) ?_).mono ?_
 ·rw[show ys.toArray++zs.toArray=(ys++zs).toArray by simp]
  refine hc.mono ?_
  rintro e w' ⟨v,fp,rfl,h3,⟨-,v',_,e2,-,how,-⟩,-⟩
  cases e2
  obtain⟨-,S,o1,o2,-⟩:=how (0,0) rfl
  obtain⟨p,n,c,rfl⟩:=mM o1
  have o3:Own w' (w.alloc (.cells #[.slice none 0 0] 25)).heap.size (.row 5 27 (tDs ty t) .nil .nil) [.slice p n c] S:=o1
  rw[World.size_alloc] at o3
  exact⟨p,n,c,rfl,by simpa using h3,S,o3,o2⟩
 ·rintro e w' ⟨v,w1,rfl,h3,⟨S,o1,o2⟩,rfl⟩
  have hsz:w.heap.size+1<=w1.heap.size:=by have:=h3.size;simpa using this
  have hO:Own (w1.setCell ⟨w.heap.size,0,none⟩ v) w.heap.size (.row 5 27 (tDs ty t) .nil .nil) [v] S:=(o1.setCell (p:=⟨w.heap.size,0,none⟩) (o1.notMem (Nat.lt_succ_self _)) v).lower (Nat.le_succ _)
  obtain⟨v',_,e2,h8,-⟩:=Vs.res (F:=F) (fp:=fp1 S) (Nat.le_refl _) hO
  cases e2
  refine⟨v,fp1 S,rfl,(hb.trans (h3.mono (by omega))).setCell (p:=⟨w.heap.size,0,none⟩) (Nat.le_refl _) _,⟨cY _,v,[],rfl,h8,λ j e=>?_,rfl⟩,λ k b hb=>?_,λ k k' b h1 h2=>?_⟩
  ·cases e
   exact⟨rfl,S,hO,o2,λ b hb=>mem_fp1.2 ⟨rfl,hb⟩⟩
  ·exact hO.mem b (mem_fp1.1 hb).2
  ·rw[(mem_fp1.1 h1).1,(mem_fp1.1 h2).1]
theorem f38_of(r:Rl)(v:Ts)(far i:Int){t:Ts}(h:HH 262 [tryA 263 r v far i] (tsA (some (0,0)) t)):HH 243 [rlL r,iA i,tsA none v,iA far] (tsA (some (0,0)) t):=by
 refine ab0 func243 ntmps243 results243 ?_
 simp[rlL,rlC]
 apply aC h<;>simp[uD]
 ·exact⟨⟨_,_,⟨rfl,rfl⟩,rfl⟩,⟨_,_,⟨rfl,rfl⟩,rfl⟩⟩
 ·exact⟨[((0,0),[(16,0)])],by simp⟩
theorem f39_of(r:Rl)(v:Ts)(far i:Int){t:Ts}(h:HH 262 [tryA 266 r v far i] (tsA (some (0,0)) t)):HH 246 [rlL r,iA i,tsA none v,iA far] (tsA (some (0,0)) t):=by
 refine ab0 func246 ntmps246 results246 ?_
 simp[rlL,rlC]
 apply aC h<;>simp[uD]
 ·exact⟨⟨_,_,⟨rfl,rfl⟩,rfl⟩,⟨_,_,⟨rfl,rfl⟩,rfl⟩⟩
 ·exact⟨[((0,0),[(16,0)])],by simp⟩
theorem k38(r:Rl)(v:Ts)(far:Int)(i:Nat)(hi:i<r.g.length)(hl:r.g.length<=500)(hs:dI r.g<=30000000)(hf:iF r.g)(hv:v.fits)(hsz:i*(v.size+1)<=100000000)(hvs:v.size<=100000000) :
  HH 243 [rlL r,iA i,tsA none v,iA far] (tsA (some (0,0)) (iP r.g v far i .nil r.g[i].e)):=f38_of r v far i (Q9 rfl rfl rfl (k113 r v far i hi hl hs hf hv hsz hvs))
theorem k39(r:Rl)(v:Ts)(far:Int)(i:Nat)(hi:i<r.g.length)(hl:r.g.length<=500)(hs:dI r.g<=30000000)(hf:iF r.g)(hv:v.fits)(hsz:i*(v.size+1)<=100000000)(hvs:v.size<=100000000) :
  HH 246 [rlL r,iA i,tsA none v,iA far] (tsA (some (0,0)) (mT r.g v far i r.g[i].e r.g[i].i)):=f39_of r v far i (Q9 rfl rfl rfl (k115 r v far i hi hl hs hf hv hsz hvs))
structure Ct where
 m:Int
 t:Tm
structure Dl where
 k:Int
 lv:Int
 t:Tm
 b:Tm
 p:Ts
 s:Lv
 m:List Ts
 c:List Ct
def fD:List Ct->Ds
 | []=>.nil
 | c :: r=>.lit (.int .i64 c.m) (.lit (.int .i64 c.t.h.k) (.lit (.int .i64 c.t.h.n) (.lit (.int .i64 c.t.h.a) (.row 1 30 (cB ty c.t.h.l) .nil (.row 5 27 (tDs ty c.t.x) .nil (fD r))))))
theorem bS(l:List Ct):(fD l).len=l.length*6:=by
 induction l with
 | nil=>rfl
 | cons a r ih=>simp[fD,Ds.len,ih];omega
def bA:List Rl->Ds
 | []=>.nil
 | r :: l=>.lit (.int .i64 r.m) (.row 9 73 (cA r.g) .nil (.row 5 27 (tDs ty r.i) .nil (bA l)))
theorem aT(l:List Rl):(bA l).len=l.length*3:=by
 induction l with
 | nil=>rfl
 | cons a r ih=>simp[bA,Ds.len,ih];omega
theorem aW(l:List Ts):(bI l).len=l.length:=by
 induction l with
 | nil=>rfl
 | cons a r ih=>simp[bI,Ds.len,ih]
def dlC(d:Dl):Dc:=.lit (.int .i64 d.k) (.lit (.int .i64 d.lv) (.lit (.int .i64 d.t.h.k) (.lit (.int .i64 d.t.h.n) (.lit (.int .i64 d.t.h.a) (.row none 1 30 (cB ty d.t.h.l) (.row none 5 27 (tDs ty d.t.x) (.lit (.int .i64 d.b.h.k) (.lit (.int .i64 d.b.h.n) (.lit (.int .i64 d.b.h.a) (.row none 1 30 (cB ty d.b.h.l) (.row none 5 27 (tDs ty d.b.x) (.row none 5 27 (tDs ty d.p) (.row none 2 68 (bY d.s) (.row none 1 71 (bI d.m) (.row none 6 76 (fD d.c) .nil)))))))))))))))
def dlL(d:Dl):AV:=.agg (dlC d)
def aV(l:List Rl):AV:=.c (.row none 3 54 (bA l) .nil)
def bM(s:Lv):Tm:=⟨⟨2,0,0,[s]⟩,.nil⟩
theorem k161(s:Lv)(hs:s.length<=100000000):HH 47 [lvA s] (tmL (bM s)):=by
 refine ab0 func47 ntmps47 results47 ?_
 simp[lvA]
 apply aC (k202 s (by omega))<;>simp
 simp[bM]
 exact⟨[],by simp⟩
theorem k169(s:Lv)(hs:s.length<=100000000):HH 73 [lvA s] (tmL (bM s)):=by
 refine ab0 func73 ntmps73 results73 ?_
 simp[lvA]
 refine⟨by rw[mU];omega,?_⟩
 simp[bM,Ds.app_nil]
 exact⟨[],by simp⟩
def cL(f:Tm):Ts->Tm
 | .nil=>f
 | .cons h x r=>cL ⟨kH 6,.cons f.h f.x (.cons h x .nil)⟩ r
theorem lG:∀(a:Ts) (f:Tm) (h:Hd) (x:Ts),cL f (a.app (.cons h x .nil))=⟨kH 6,.cons (cL f a).h (cL f a).x (.cons h x .nil)⟩
 | .nil,_,_,_=>rfl
 | .cons _ _ r,f,h,x=>lG r _ h x
theorem jV:∀(a:Ts) (f:Tm),(cL f a).size<=f.size+2*a.size
 | .nil,f=>by simp[cL,Ts.size]
 | .cons h x r,f=>by
  have h1:=jV r ⟨kH 6,.cons f.h f.x (.cons h x .nil)⟩
  have h2:Tm.size ⟨kH 6,.cons f.h f.x (.cons h x .nil)⟩=f.size+1+(aH h.l+x.size+1):=by simp[Tm.size,Ts.size,kH,aH];omega
  rw[h2] at h1
  simp only[cL,Ts.size] at h1 ⊢
  omega
theorem iE:∀(a:Ts) (f:Tm),f.fits->a.fits->(cL f a).fits
 | .nil,_,h,_=>h
 | .cons h x r,f,hf,ha=>iE r _ ⟨iR (by decide),hf.1,hf.2,ha.1,ha.2.1,trivial⟩ ha.2.2
def st95(f:Tm)(t a:Ts):St:=bV [(2,.bx 3 0),(4,.bx 5 0),(9,tsA none t),(10,iA t.len),(11,iA a.len)] [(3,27,tmC none none (cL f a).h (cL f a).x),(5,27,zC)] []
theorem k95(f:Tm)(t:Ts)(hf:f.fits)(hs:f.size<=100000000)(ht:t.fits)(hts:t.size<=100000000):HH 52 [tmL f,tsA none t] (tmL (cL f t)):=by
 have hil:t.len<=100000000:=Nat.le_trans (len_le_size t) hts
 have d0:t.len*5 / 5=t.len:=by omega
 refine ab0 func52 ntmps52 results52 ?_
 simp
 apply aC (SY f hf hs)<;>simp[aF,d0]
 refine lp (α:={ q:Ts×Ts // q.1.app q.2=t }) (λ q=>st95 f t q.1.1) (λ q=>q.1.2.len) ⟨(.nil,t),rfl⟩ ?_ ?_
 ·apply aK []<;>simp[AV.ok,Dc.ok,cL,Ts.len]
 ·rintro⟨⟨a,q⟩,hq⟩
  simp only at hq
  cases q with
  | nil =>
   have e:a=t:=by rw[<-hq];exact (Ts.app_nil a).symm
   subst e
   simp[st95]
   exact⟨[],by simp⟩
  | cons h y q =>
   have h1:a.len<t.len:=by rw[<-hq];simp[Ts.app_len,Ts.len]
   have h2:(tDs ty t).dp (a.len*5)=tDs ty (.cons h y q):=by rw[<-hq];exact fH a _
   have h3:h.fits/\y.fits:=dS (a:=a) (by rw[hq];exact ht)
   have h4:aH h.l+y.size+1<=t.size:=by rw[<-hq];exact app_size
   have hw:=wr1 (k:=a.len) (by omega)
   have e1:=lG a f h y
   generalize cL f a=A at *
   generalize cL f (a.app (.cons h y .nil))=B at *
   subst e1
   simp[st95,h1,h2]
   refine⟨by rw[aF];omega,by kernel_rfl,?_⟩
   apply aC (SY ⟨h,y⟩ h3 (by unfold Tm.size;simp only;omega))<;>simp
   refine⟨a.app (.cons h y .nil),q,by simp[Ts.len],by rw[Ts.app_assoc];exact hq,?_⟩
   apply aK []<;>simp[Ts.len,Ts.app_len,AV.ok,Dc.ok,hw,lG]
def QQ(f:Tm)(t a:Ts):St:=bV [(1,tsA none t),(4,.bx 5 0),(5,.bx 6 0),(6,iA a.len)] [(5,27,zC),(6,27,tmC none none (cL f a).h (cL f a).x)] []
theorem SW(f:Tm)(t:Ts)(hf:f.fits)(hs:f.size<=100000000)(ht:t.fits)(hts:t.size<=100000000):HH 90 [tmL f,tsA none t] (tmL (cL f t)):=by
 have hil:t.len<=100000000:=Nat.le_trans (len_le_size t) hts
 have d0:t.len*5 / 5=t.len:=by omega
 refine ab0 func90 ntmps90 results90 ?_
 simp
 apply aC (rH f hf (by omega))<;>simp
 refine lp (α:={ q:Ts×Ts // q.1.app q.2=t }) (λ q=>QQ f t q.1.1) (λ q=>q.1.2.len) ⟨(.nil,t),rfl⟩ ?_ ?_
 ·apply aK []<;>simp[AV.ok,Dc.ok,cL,Ts.len]
 ·rintro⟨⟨a,q⟩,hq⟩
  simp only at hq
  cases q with
  | nil =>
   have e:a=t:=by rw[<-hq];exact (Ts.app_nil a).symm
   subst e
   simp[QQ,aF,d0]
   exact⟨[],by simp⟩
  | cons h y q =>
   have h1:a.len<t.len:=by rw[<-hq];simp[Ts.app_len,Ts.len]
   have h2:(tDs ty t).dp (a.len*5)=tDs ty (.cons h y q):=by rw[<-hq];exact fH a _
   have h3:h.fits/\y.fits:=dS (a:=a) (by rw[hq];exact ht)
   have h4:aH h.l+y.size+1<=t.size:=by rw[<-hq];exact app_size
   have hw:=wr1 (k:=a.len) (by omega)
   have e1:=lG a f h y
   generalize cL f a=A at *
   generalize cL f (a.app (.cons h y .nil))=B at *
   subst e1
   simp[QQ,aF,d0,h1,h2]
   refine⟨by kernel_rfl,by omega,?_⟩
   apply aC (rH ⟨h,y⟩ h3 (by unfold Tm.size;simp only;omega))<;>simp
   refine⟨a.app (.cons h y .nil),q,by simp[Ts.len],by rw[Ts.app_assoc];exact hq,?_⟩
   apply aK []<;>simp[Ts.len,Ts.app_len,AV.ok,Dc.ok,hw,lG]
def cMb(a:Ts):Dc:=(.row none 5 27 (tDs ty a) .nil)
def DO(a:Ts):Dc:=.seg none (.row 5 27 (cJ ty a) (tDs ty (cH 1 12)) .nil) .nil
def dW:List Ts->Ds
 | []=>.nil
 | a :: r=>.row 5 27 (cJ ty a) (tDs ty (cH 1 12)) (dW r)
theorem iC(l:List Ts):(dW l).len=l.length*1:=by
 induction l with
 | nil=>rfl
 | cons a r ih=>simp[dW,Ds.len,ih]<;>omega
theorem tZ(p q:List Ts):bI (p++q)=(bI p).app (bI q):=by
 induction p with
 | nil=>rfl
 | cons a r ih=>simp[bI,Ds.app,ih]
theorem G5(p q:List Ts):dW (p++q)=(dW p).app (dW q):=by
 induction p with
 | nil=>rfl
 | cons a r ih=>simp[dW,Ds.app,ih]
theorem CF(l:List Ts):(bI l).good:=by
 induction l with
 | nil=>trivial
 | cons a r ih=>exact⟨cY _,trivial,ih⟩
theorem uY(l:List Ts):(dW l).strip=bI l:=by
 induction l with
 | nil=>rfl
 | cons a r ih=>simp[dW,bI,Ds.strip,ih,dP,cW,mG,ty]
def qY(i:Nat):Ts:=.cons ⟨0,jG 1 i,0,[]⟩ .nil .nil
def cQ(n:Nat):List Ts:=(List.range n).map qY
theorem AE(n:Nat):cQ (n+1)=cQ n++[qY n]:=by simp[cQ,List.range_succ]
theorem lV(n:Nat):(cQ n).length=n:=by simp[cQ]
def lO(l:List Ts):Nat:=(l.map λ a=>1+a.size).sum
theorem qP(l:List Ts):l.length<=lO l:=by
 induction l with
 | nil=>exact Nat.le_refl _
 | cons a r ih=>simp only[lO,List.map_cons,List.sum_cons,List.length_cons] at *;omega
theorem PY(a b:List Ts):lO (a++b)=lO a+lO b:=by simp[lO]
theorem R6(a:Ts)(l:List Ts):lO (a :: l)=1+a.size+lO l:=by simp only[lO,List.map_cons,List.sum_cons]
theorem uP{l:List Ts}{k:Nat}(h:k<l.length):1+l[k].size<=lO l:=by
 have e:l=l.take k++(l[k] :: l.drop (k+1)):=by rw[<-List.drop_eq_getElem_cons h,List.take_append_drop]
 have e2:lO l=lO (l.take k)+lO (l[k] :: l.drop (k+1)):=by rw[<-PY,<-e]
 rw[e2,R6]
 omega
theorem takeMb{l:List Ts}{k:Nat}(h:k<l.length):l.take (k+1)=l.take k++[l[k]]:=(List.take_append_getElem h).symm
theorem NZ{l:List Ts}{k:Nat}(h:k<l.length):(bI l).dp (k*1)=bI (l[k] :: l.drop (k+1)):=by
 have e:l=l.take k++(l[k] :: l.drop (k+1)):=by rw[<-List.drop_eq_getElem_cons h,List.take_append_drop]
 have h2:(bI (l.take k)).len=k*1:=by rw[aW,List.length_take];first|(congr 1;omega)|omega
 conv=>lhs;rw[e,tZ,<-h2,Ds.dp_app]
theorem dpLMb{l:List Ts}{k:Nat}(h:k<l.length)(y:Ds):((dW l).app y).dp (k*1)=(dW (l[k] :: l.drop (k+1))).app y:=by
 have e:l=l.take k++(l[k] :: l.drop (k+1)):=by rw[<-List.drop_eq_getElem_cons h,List.take_append_drop]
 have h2:(dW (l.take k)).len=k*1:=by rw[iC,List.length_take];first|(congr 1;omega)|omega
 conv=>lhs;rw[e,G5,Ds.app_assoc,<-h2,Ds.dp_app]
theorem hdMb(a:Ts)(r:List Ts)(y:Ds):Ds.hd 1 ((dW (a :: r)).app y)=some (DO a):=rfl
theorem dpMMb{l:List Ts}{n i:Nat}(h:i<n):((dW l).app (bI (cQ n))).dp ((l.length+i)*1)=bI (qY i :: (cQ n).drop (i+1)):=by
 have h0:i<(cQ n).length:=by rw[lV];exact h
 have e:cQ n=(cQ n).take i++(qY i :: (cQ n).drop (i+1)):=by
  have e2:(cQ n)[i]=qY i:=by simp[cQ]
  rw[<-e2,<-List.drop_eq_getElem_cons h0,List.take_append_drop]
 have h2:((dW l).app (bI ((cQ n).take i))).len=(l.length+i)*1:=by
  rw[Ds.app_len,iC,aW,List.length_take,lV]
  have:min i n=i:=by omega
  rw[this];omega
 conv=>lhs;rw[e,tZ,<-Ds.app_assoc,<-h2,Ds.dp_app]
def dC(l:List Ts):AV:=.c (.row none 1 71 (bI l) .nil)
def wN(l:List Ts):AV:=.c (.seg none (.row 1 71 (dW l) (bI (cQ 12)) .nil) .nil)
theorem F5(i:Nat)(hi:i<=1000):HH 135 [iA 1,iA i] (.agg (.row none 5 27 (tDs ty (.cons ⟨0,jG 1 i,0,[]⟩ .nil .nil)) .nil)):=by
 refine ab0 func135 ntmps135 results135 ?_
 simp
 apply aC (k120 i hi)<;>simp[Ds.len]
 exact⟨[],by simp⟩
theorem ND(a:Ts)(h1:a.size<=200000000):HH 134 [.agg (cMb a)] (.agg (DO a)):=by
 refine ab0 func134 ntmps134 results134 ?_
 simp[cMb]
 apply aC (k10 a h1)<;>simp[pA,Ds.len,Ds.app]
 simp[DO]
 first|exact⟨[],by simp⟩|exact⟨Ds.app_nil _,[],by simp⟩
theorem vX(a:Ts):HH 169 [.agg (cMb a),.agg (cMb a)] (.v (.bool true)):=by
 refine ab0 func169 ntmps169 results169 ?_
 simp[cMb]
 apply aC (k20 a)<;>simp
 exact⟨[],by simp⟩
theorem NK(a:Ts)(h1:a.size<=100000000):HH 168 [.agg (DO a),.agg (cMb a)] (.v (.bool true)):=by
 refine ab0 func168 ntmps168 results168 ?_
 simp[cMb,DO]
 apply aC (vX a)<;>simp[cMb]
 ·exact .inr (by simp[Ds.app,Ds.strip,dP,cW,ty])
 apply aC (k22 a h1)<;>simp[pA]
 exact⟨[],by simp⟩
def QC(l:List Ts)(k:Nat):St:=bV [(0,dC l),(1,dC l),(5,iA k)] [] []
theorem sameMb(l:List Ts)(hs:lO l<=100000000):HH 165 [dC l,dC l] (.v (.bool true)):=by
 have hl:l.length<=100000000:=Nat.le_trans (qP l) hs
 refine ab0 func165 ntmps165 results165 ?_
 have d0:l.length*1 / 1=l.length:=by omega
 simp[dC,aW,d0]
 refine lp (α:={ k:Nat // k<=l.length }) (λ k=>QC l k.1) (λ k=>l.length-k.1) ⟨0,Nat.zero_le _⟩ ?_ ?_
 ·apply aK []<;>simp[dC,AV.ok,Dc.ok]
 ·rintro⟨k,hk⟩
  by_cases hlt:k<l.length
  ·have h1:=NZ hlt
   try simp only[Nat.mul_one] at h1
   have hsz:=uP hlt
   simp[QC,dC,aW,d0,hlt,h1,bI]
   refine⟨by kernel_rfl,by omega,?_⟩
   apply aC (vX l[k])<;>simp[cMb]
   have hw:=wr1 (k:=k) (by omega)
   refine⟨k+1,by omega,by omega,?_⟩
   apply aK []<;>simp[AV.ok,Dc.ok,hw,Ds.app,dC]
  ·obtain rfl:k=l.length:=by omega
   simp[QC,dC,aW,d0]
   exact⟨[],by simp⟩
def QF(l:List Ts)(k:Nat):St:=bV [(0,dC l),(3,.c (.blk 11 (k+1) 1 71 (.seg none (dW (l.take k)) .nil) .nil)),(4,iA k)] [] [(11,k+1)]
def Y4(l:List Ts)(i:Nat):St:=bV [(0,dC l),(3,.c (.blk 11 (l.length+1+i) 1 71 (.seg none ((dW l).app (bI (cQ i))) .nil) .nil)),(6,iA i)] [] [(11,l.length+1+i)]
theorem NH(l:List Ts)(hs:lO l<=100000000):HH 42 [dC l] (wN l):=by
 have hl:l.length<=100000000:=Nat.le_trans (qP l) hs
 refine ab0 func42 ntmps42 results42 ?_
 have w0:IntKind.i64.wrap ((l.length:Int)+12)=l.length+12:=by rw[IntKind.wrap_i64];omega
 have d0:l.length*1 / 1=l.length:=by omega
 simp[dC,aW,d0,w0]
 refine⟨by omega,?_⟩
 refine lp (α:={ k:Nat // k<=l.length }) (λ k=>QF l k.1) (λ k=>l.length-k.1) ⟨0,Nat.zero_le _⟩ ?_ ?_
 ·apply aK [((11,0),[(11,0)])]<;>simp[dC,dW,AV.ok,Dc.ok]
 ·rintro⟨k,hk⟩
  by_cases hlt:k<l.length
  ·have h1:=NZ hlt
   try simp only[Nat.mul_one] at h1
   have hsz:=uP hlt
   simp[QF,dC,aW,d0,hlt,h1,bI]
   refine⟨by omega,?_⟩
   apply aC (ND l[k] (by omega))<;>simp[cMb,DO,mF,Ds.len]
   have hw:=wr1 (k:=k) (by omega)
   refine⟨by rw[iC,List.length_take];omega,k+1,by omega,by omega,?_⟩
   apply aK [((11,0),[(11,0)])]<;>simp[dC,AV.ok,Dc.ok,hw,-List.take_append_getElem]
   rw[takeMb hlt,G5];rfl
  ·obtain rfl:k=l.length:=by omega
   simp[QF,dC,aW,d0]
   refine lp (α:={ i:Nat // i<=12 }) (λ i=>Y4 l i.1) (λ i=>12-i.1) ⟨0,Nat.zero_le _⟩ ?_ ?_
   ·apply aK [((11,0),[(11,0)])]<;>simp[Y4,dC,cQ,bI,AV.ok,Dc.ok]
   ·rintro⟨i,hi⟩
    by_cases h12:i<12
    ·have h13:(i:Int)<12:=by omega
     simp[Y4,dC,aW,d0,h13]
     apply aC (F5 i (by omega))<;>simp[Ds.len]
     have hw:=wr1 (k:=i) (by omega)
     refine⟨by rw[Ds.app_len,iC,aW,lV];omega,i+1,by omega,by omega,?_⟩
     apply aK [((11,0),[(11,0)])]<;>simp[dC,AV.ok,Dc.ok,hw,Nat.add_assoc]
     rw[AE,tZ,<-Ds.app_assoc];rfl
    ·obtain rfl:i=12:=by omega
     simp[Y4,dC,aW,d0]
     have e:=iC l
     try simp only[Nat.mul_one] at e
     refine⟨by first|(rw[Ds.app_nil,Ds.app_len,iC,Ds.len];omega)|(rw[Ds.app_nil,Ds.app_len,iC];omega),[],?_⟩
     simp[wN,Ds.app_nil]
     refine⟨?_,?_⟩<;>rw[<-e]
     ·rw[Ds.tk_app]
     ·rw[Ds.dp_app]
def KE(l:List Ts)(X:Ds)(k:Nat):St:=bV [(1,dC l),(5,.c (.seg none (.row 1 71 X .nil .nil) .nil)),(6,iA k)] [] []
theorem NN(l:List Ts)(hs:lO l<=100000000):HH 99 [wN l,dC l] (.v (.bool true)):=by
 have hl:l.length<=100000000:=Nat.le_trans (qP l) hs
 refine ab0 func99 ntmps99 results99 ?_
 have d0:l.length*1 / 1=l.length:=by omega
 have w0:IntKind.i64.wrap ((l.length:Int)+12)=l.length+12:=by rw[IntKind.wrap_i64];omega
 have e1:((l.length:Int)+12).toNat=l.length+12:=by omega
 have hL:((dW l).app (bI (cQ 12))).len=(l.length+12)*1:=by rw[Ds.app_len,iC,aW,lV];omega
 have d1:((l.length+12)*1) / 1=l.length+12:=by omega
 simp[dC,wN,aW,iC,lV,d0,w0,e1]
 first|refine⟨⟨by omega,by omega⟩,?_⟩|refine⟨by omega,?_⟩
 have t1:Ds.tk (l.length+12) ((dW l).app (bI (cQ 12)))=(dW l).app (bI (cQ 12)):=by
  have:=Ds.tk_app ((dW l).app (bI (cQ 12))) .nil;rw[hL,Ds.app_nil] at this;simpa using this
 have t2:Ds.dp (l.length+12) ((dW l).app (bI (cQ 12)))=.nil:=by
  have:=Ds.dp_app ((dW l).app (bI (cQ 12))) .nil;rw[hL,Ds.app_nil] at this;simpa using this
 rw[t1,t2]
 have m1:∀k (h:k<l.length),∃y,Ds.dp (k*1) ((dW l).app (bI (cQ 12)))=(dW (l[k] :: l.drop (k+1))).app y:=λ k h=>⟨_,dpLMb h _⟩
 have m2:∀j,j<12->∃r,Ds.dp ((l.length+j)*1) ((dW l).app (bI (cQ 12)))=bI (qY j :: r):=λ j h=>⟨_,dpMMb h⟩
 try simp only[Nat.mul_one] at m1 m2
 generalize (dW l).app (bI (cQ 12))=X at *
 clear t1 t2
 refine lp (α:={ k:Nat // k<=l.length+12 }) (λ k=>KE l X k.1) (λ k=>l.length+12-k.1) ⟨0,Nat.zero_le _⟩ ?_ ?_
 ·apply aK []<;>simp[dC,AV.ok,Dc.ok,Ds.app]
 ·rintro⟨k,hk⟩
  have hw:=wr1 (k:=k) (by omega)
  by_cases hlt:k<l.length
  ·have h1:=NZ hlt
   try simp only[Nat.mul_one] at h1
   obtain⟨y,h2⟩:=m1 k hlt
   have hsz:=uP hlt
   have h3:(k:Int)<(l.length:Int)+12:=by omega
   have h4:¬(l.length:Int)<=k:=by omega
   generalize l.drop (k+1)=r at h1 h2
   generalize l[k]=a at *
   simp[KE,dC,aW,d0,d1,hL,hlt,h1,h2,h3,bI,hdMb]
   refine⟨by kernel_rfl,by omega,by omega,?_⟩
   refine aC (NK a (by omega)) ?_ ?_ ?_
   ·first|exact⟨⟨rfl,.inl (by simp[Ds.app,cMb,DO])⟩,rfl,⟨⟨rfl,.inl (by simp[Ds.app,cMb])⟩,rfl,trivial⟩⟩|(simp[Ds.app,cMb,DO])
   ·simp
   simp[hlt,h3,h4,d0,d1,hL,aW,dC]
   refine⟨k+1,by omega,by omega,?_⟩
   apply aK []<;>simp[AV.ok,Dc.ok,hw,Ds.app,dC]
  ·by_cases hlt2:k<l.length+12
   ·obtain⟨j,hj⟩:=Nat.exists_eq_add_of_le (Nat.le_of_not_lt hlt)
    obtain⟨r,h1⟩:=m2 j (by omega)
    rw[<-hj] at h1
    have h3:(k:Int)<(l.length:Int)+12:=by omega
    have h4:(l.length:Int)<=k:=by omega
    have w3:IntKind.i64.wrap ((k:Int)-l.length)=j:=by rw[IntKind.wrap_i64];omega
    simp[KE,dC,aW,d0,d1,hL,hlt,h1,h3,h4,w3,bI]
    refine⟨by kernel_rfl,by omega,?_⟩
    apply aC (F5 j (by omega))<;>simp
    apply aC (vX (qY j))<;>simp[cMb,qY,cA]
    refine⟨k+1,by omega,by omega,?_⟩
    apply aK []<;>simp[AV.ok,Dc.ok,hw,Ds.app,dC]
   ·obtain rfl:k=l.length+12:=by omega
    simp[KE,dC,aW,d0,d1,hL]
    exact⟨[],by simp⟩
def cCt(a:Ct):Dc:=(.lit (.int .i64 a.m) (.lit (.int .i64 a.t.h.k) (.lit (.int .i64 a.t.h.n) (.lit (.int .i64 a.t.h.a) (.row none 1 30 (cB ty a.t.h.l) (.row none 5 27 (tDs ty a.t.x) .nil))))))
def DQ(a:Ct):Dc:=.lit (.int .i64 a.m) (.lit (.int .i64 a.t.h.k) (.lit (.int .i64 a.t.h.n) (.lit (.int .i64 a.t.h.a) (.seg none (.row 1 30 (cO ty a.t.h.l) (cB ty (dJ 1 12)) .nil) (.seg none (.row 5 27 (cJ ty a.t.x) (tDs ty (cH 1 12)) .nil) .nil)))))
def dX:List Ct->Ds
 | []=>.nil
 | a :: r=>.lit (.int .i64 a.m) (.lit (.int .i64 a.t.h.k) (.lit (.int .i64 a.t.h.n) (.lit (.int .i64 a.t.h.a) (.row 1 30 (cO ty a.t.h.l) (cB ty (dJ 1 12)) (.row 5 27 (cJ ty a.t.x) (tDs ty (cH 1 12)) (dX r))))))
theorem iD(l:List Ct):(dX l).len=l.length*6:=by
 induction l with
 | nil=>rfl
 | cons a r ih=>simp[dX,Ds.len,ih]<;>omega
theorem vP(p q:List Ct):fD (p++q)=(fD p).app (fD q):=by
 induction p with
 | nil=>rfl
 | cons a r ih=>simp[fD,Ds.app,ih]
theorem G8(p q:List Ct):dX (p++q)=(dX p).app (dX q):=by
 induction p with
 | nil=>rfl
 | cons a r ih=>simp[dX,Ds.app,ih]
theorem OD(l:List Ct):(fD l).good:=by
 induction l with
 | nil=>trivial
 | cons a r ih=>exact⟨rfl,rfl,rfl,rfl,eU _,trivial,cY _,trivial,ih⟩
theorem vB(l:List Ct):(dX l).strip=fD l:=by
 induction l with
 | nil=>rfl
 | cons a r ih=>simp[dX,fD,Ds.strip,ih,dP,cW,mG,ty]
def qZ(i:Nat):Ct:=⟨jG 1 i,⟨⟨0,0,0,[]⟩,.nil⟩⟩
def cR(n:Nat):List Ct:=(List.range n).map qZ
theorem AF(n:Nat):cR (n+1)=cR n++[qZ n]:=by simp[cR,List.range_succ]
theorem lW(n:Nat):(cR n).length=n:=by simp[cR]
def kQ(l:List Ct):Nat:=(l.map λ a=>1+a.t.size).sum
theorem oN(l:List Ct):l.length<=kQ l:=by
 induction l with
 | nil=>exact Nat.le_refl _
 | cons a r ih=>simp only[kQ,List.map_cons,List.sum_cons,List.length_cons] at *;omega
theorem PZ(a b:List Ct):kQ (a++b)=kQ a+kQ b:=by simp[kQ]
theorem vV(a:Ct)(l:List Ct):kQ (a :: l)=1+a.t.size+kQ l:=by simp only[kQ,List.map_cons,List.sum_cons]
theorem sG{l:List Ct}{k:Nat}(h:k<l.length):1+l[k].t.size<=kQ l:=by
 have e:l=l.take k++(l[k] :: l.drop (k+1)):=by rw[<-List.drop_eq_getElem_cons h,List.take_append_drop]
 have e2:kQ l=kQ (l.take k)+kQ (l[k] :: l.drop (k+1)):=by rw[<-PZ,<-e]
 rw[e2,vV]
 omega
theorem takeCt{l:List Ct}{k:Nat}(h:k<l.length):l.take (k+1)=l.take k++[l[k]]:=(List.take_append_getElem h).symm
theorem dpCt{l:List Ct}{k:Nat}(h:k<l.length):(fD l).dp (k*6)=fD (l[k] :: l.drop (k+1)):=by
 have e:l=l.take k++(l[k] :: l.drop (k+1)):=by rw[<-List.drop_eq_getElem_cons h,List.take_append_drop]
 have h2:(fD (l.take k)).len=k*6:=by rw[bS,List.length_take];first|(congr 1;omega)|omega
 conv=>lhs;rw[e,vP,<-h2,Ds.dp_app]
theorem dpLCt{l:List Ct}{k:Nat}(h:k<l.length)(y:Ds):((dX l).app y).dp (k*6)=(dX (l[k] :: l.drop (k+1))).app y:=by
 have e:l=l.take k++(l[k] :: l.drop (k+1)):=by rw[<-List.drop_eq_getElem_cons h,List.take_append_drop]
 have h2:(dX (l.take k)).len=k*6:=by rw[iD,List.length_take];first|(congr 1;omega)|omega
 conv=>lhs;rw[e,G8,Ds.app_assoc,<-h2,Ds.dp_app]
theorem hdCt(a:Ct)(r:List Ct)(y:Ds):Ds.hd 6 ((dX (a :: r)).app y)=some (DQ a):=rfl
theorem dpMCt{l:List Ct}{n i:Nat}(h:i<n):((dX l).app (fD (cR n))).dp ((l.length+i)*6)=fD (qZ i :: (cR n).drop (i+1)):=by
 have h0:i<(cR n).length:=by rw[lW];exact h
 have e:cR n=(cR n).take i++(qZ i :: (cR n).drop (i+1)):=by
  have e2:(cR n)[i]=qZ i:=by simp[cR]
  rw[<-e2,<-List.drop_eq_getElem_cons h0,List.take_append_drop]
 have h2:((dX l).app (fD ((cR n).take i))).len=(l.length+i)*6:=by
  rw[Ds.app_len,iD,bS,List.length_take,lW]
  have:min i n=i:=by omega
  rw[this];omega
 conv=>lhs;rw[e,vP,<-Ds.app_assoc,<-h2,Ds.dp_app]
def dD(l:List Ct):AV:=.c (.row none 6 76 (fD l) .nil)
def wO(l:List Ct):AV:=.c (.seg none (.row 6 76 (dX l) (fD (cR 12)) .nil) .nil)
theorem F6(i:Nat)(hi:i<=1000):HH 137 [iA 1,iA i] (.agg (.lit (.int .i64 (jG 1 i)) (.lit (.int .i64 0) (.lit (.int .i64 0) (.lit (.int .i64 0) (.nilr 1 30 (.nilr 5 27 .nil))))))):=by
 refine ab0 func137 ntmps137 results137 ?_
 simp
 apply aC (k120 i hi)<;>simp[Ds.len]
 exact⟨[],by simp⟩
theorem NE(a:Ct)(h1:a.t.size<=200000000):HH 136 [.agg (cCt a)] (.agg (DQ a)):=by
 refine ab0 func136 ntmps136 results136 ?_
 simp[cCt]
 apply aC (k11 a.t h1)<;>simp[rC,uZ,Ds.len,Ds.app]
 simp[DQ]
 first|exact⟨[],by simp⟩|exact⟨Ds.app_nil _,[],by simp⟩
theorem vY(a:Ct):HH 171 [.agg (cCt a),.agg (cCt a)] (.v (.bool true)):=by
 refine ab0 func171 ntmps171 results171 ?_
 simp[cCt]
 apply aC (k16 a.t)<;>simp
 exact⟨[],by simp⟩
theorem NL(a:Ct)(h1:a.t.size<=100000000):HH 170 [.agg (DQ a),.agg (cCt a)] (.v (.bool true)):=by
 refine ab0 func170 ntmps170 results170 ?_
 simp[cCt,DQ]
 apply aC (vY a)<;>simp[cCt]
 ·exact .inr (by simp[Ds.app,Ds.strip,dP,cW,ty])
 apply aC (k23 a.t h1)<;>simp[rC,uZ]
 exact⟨[],by simp⟩
def QD(l:List Ct)(k:Nat):St:=bV [(0,dD l),(1,dD l),(5,iA k)] [] []
theorem sameCt(l:List Ct)(hs:kQ l<=100000000):HH 166 [dD l,dD l] (.v (.bool true)):=by
 have hl:l.length<=100000000:=Nat.le_trans (oN l) hs
 refine ab0 func166 ntmps166 results166 ?_
 have d0:l.length*6 / 6=l.length:=by omega
 simp[dD,bS,d0]
 refine lp (α:={ k:Nat // k<=l.length }) (λ k=>QD l k.1) (λ k=>l.length-k.1) ⟨0,Nat.zero_le _⟩ ?_ ?_
 ·apply aK []<;>simp[dD,AV.ok,Dc.ok]
 ·rintro⟨k,hk⟩
  by_cases hlt:k<l.length
  ·have h1:=dpCt hlt
   try simp only[Nat.mul_one] at h1
   have hsz:=sG hlt
   simp[QD,dD,bS,d0,hlt,h1,fD]
   refine⟨by kernel_rfl,by omega,?_⟩
   apply aC (vY l[k])<;>simp[cCt]
   have hw:=wr1 (k:=k) (by omega)
   refine⟨k+1,by omega,by omega,?_⟩
   apply aK []<;>simp[AV.ok,Dc.ok,hw,Ds.app,dD]
  ·obtain rfl:k=l.length:=by omega
   simp[QD,dD,bS,d0]
   exact⟨[],by simp⟩
def QG(l:List Ct)(k:Nat):St:=bV [(0,dD l),(3,.c (.blk 11 (k+1) 6 76 (.seg none (dX (l.take k)) .nil) .nil)),(4,iA k)] [] [(11,k+1)]
def Y5(l:List Ct)(i:Nat):St:=bV [(0,dD l),(3,.c (.blk 11 (l.length+1+i) 6 76 (.seg none ((dX l).app (fD (cR i))) .nil) .nil)),(6,iA i)] [] [(11,l.length+1+i)]
theorem NI(l:List Ct)(hs:kQ l<=100000000):HH 43 [dD l] (wO l):=by
 have hl:l.length<=100000000:=Nat.le_trans (oN l) hs
 refine ab0 func43 ntmps43 results43 ?_
 have w0:IntKind.i64.wrap ((l.length:Int)+12)=l.length+12:=by rw[IntKind.wrap_i64];omega
 have d0:l.length*6 / 6=l.length:=by omega
 simp[dD,bS,d0,w0]
 refine⟨by omega,?_⟩
 refine lp (α:={ k:Nat // k<=l.length }) (λ k=>QG l k.1) (λ k=>l.length-k.1) ⟨0,Nat.zero_le _⟩ ?_ ?_
 ·apply aK [((11,0),[(11,0)])]<;>simp[dD,dX,AV.ok,Dc.ok]
 ·rintro⟨k,hk⟩
  by_cases hlt:k<l.length
  ·have h1:=dpCt hlt
   try simp only[Nat.mul_one] at h1
   have hsz:=sG hlt
   simp[QG,dD,bS,d0,hlt,h1,fD]
   refine⟨by omega,?_⟩
   apply aC (NE l[k] (by omega))<;>simp[cCt,DQ,mF,Ds.len]
   have hw:=wr1 (k:=k) (by omega)
   refine⟨by rw[iD,List.length_take];omega,k+1,by omega,by omega,?_⟩
   apply aK [((11,0),[(11,0)])]<;>simp[dD,AV.ok,Dc.ok,hw,-List.take_append_getElem]
   rw[takeCt hlt,G8];rfl
  ·obtain rfl:k=l.length:=by omega
   simp[QG,dD,bS,d0]
   refine lp (α:={ i:Nat // i<=12 }) (λ i=>Y5 l i.1) (λ i=>12-i.1) ⟨0,Nat.zero_le _⟩ ?_ ?_
   ·apply aK [((11,0),[(11,0)])]<;>simp[Y5,dD,cR,fD,AV.ok,Dc.ok]
   ·rintro⟨i,hi⟩
    by_cases h12:i<12
    ·have h13:(i:Int)<12:=by omega
     simp[Y5,dD,bS,d0,h13]
     apply aC (F6 i (by omega))<;>simp[Ds.len]
     have hw:=wr1 (k:=i) (by omega)
     refine⟨by rw[Ds.app_len,iD,bS,lW];omega,i+1,by omega,by omega,?_⟩
     apply aK [((11,0),[(11,0)])]<;>simp[dD,AV.ok,Dc.ok,hw,Nat.add_assoc]
     rw[AF,vP,<-Ds.app_assoc];rfl
    ·obtain rfl:i=12:=by omega
     simp[Y5,dD,bS,d0]
     have e:=iD l
     try simp only[Nat.mul_one] at e
     refine⟨by first|(rw[Ds.app_nil,Ds.app_len,iD,Ds.len];omega)|(rw[Ds.app_nil,Ds.app_len,iD];omega),[],?_⟩
     simp[wO,Ds.app_nil]
     refine⟨?_,?_⟩<;>rw[<-e]
     ·rw[Ds.tk_app]
     ·rw[Ds.dp_app]
def KF(l:List Ct)(X:Ds)(k:Nat):St:=bV [(1,dD l),(5,.c (.seg none (.row 6 76 X .nil .nil) .nil)),(6,iA k)] [] []
theorem NO(l:List Ct)(hs:kQ l<=100000000):HH 100 [wO l,dD l] (.v (.bool true)):=by
 have hl:l.length<=100000000:=Nat.le_trans (oN l) hs
 refine ab0 func100 ntmps100 results100 ?_
 have d0:l.length*6 / 6=l.length:=by omega
 have w0:IntKind.i64.wrap ((l.length:Int)+12)=l.length+12:=by rw[IntKind.wrap_i64];omega
 have e1:((l.length:Int)+12).toNat=l.length+12:=by omega
 have hL:((dX l).app (fD (cR 12))).len=(l.length+12)*6:=by rw[Ds.app_len,iD,bS,lW];omega
 have d1:((l.length+12)*6) / 6=l.length+12:=by omega
 simp[dD,wO,bS,iD,lW,d0,w0,e1]
 first|refine⟨⟨by omega,by omega⟩,?_⟩|refine⟨by omega,?_⟩
 have t1:Ds.tk ((l.length+12)*6) ((dX l).app (fD (cR 12)))=(dX l).app (fD (cR 12)):=by
  have:=Ds.tk_app ((dX l).app (fD (cR 12))) .nil;rw[hL,Ds.app_nil] at this;simpa using this
 have t2:Ds.dp ((l.length+12)*6) ((dX l).app (fD (cR 12)))=.nil:=by
  have:=Ds.dp_app ((dX l).app (fD (cR 12))) .nil;rw[hL,Ds.app_nil] at this;simpa using this
 rw[t1,t2]
 have m1:∀k (h:k<l.length),∃y,Ds.dp (k*6) ((dX l).app (fD (cR 12)))=(dX (l[k] :: l.drop (k+1))).app y:=λ k h=>⟨_,dpLCt h _⟩
 have m2:∀j,j<12->∃r,Ds.dp ((l.length+j)*6) ((dX l).app (fD (cR 12)))=fD (qZ j :: r):=λ j h=>⟨_,dpMCt h⟩
 try simp only[Nat.mul_one] at m1 m2
 generalize (dX l).app (fD (cR 12))=X at *
 clear t1 t2
 refine lp (α:={ k:Nat // k<=l.length+12 }) (λ k=>KF l X k.1) (λ k=>l.length+12-k.1) ⟨0,Nat.zero_le _⟩ ?_ ?_
 ·apply aK []<;>simp[dD,AV.ok,Dc.ok,Ds.app]
 ·rintro⟨k,hk⟩
  have hw:=wr1 (k:=k) (by omega)
  by_cases hlt:k<l.length
  ·have h1:=dpCt hlt
   try simp only[Nat.mul_one] at h1
   obtain⟨y,h2⟩:=m1 k hlt
   have hsz:=sG hlt
   have h3:(k:Int)<(l.length:Int)+12:=by omega
   have h4:¬(l.length:Int)<=k:=by omega
   generalize l.drop (k+1)=r at h1 h2
   generalize l[k]=a at *
   simp[KF,dD,bS,d0,d1,hL,hlt,h1,h2,h3,fD,hdCt]
   refine⟨by kernel_rfl,by omega,by omega,?_⟩
   refine aC (NL a (by omega)) ?_ ?_ ?_
   ·first|exact⟨⟨rfl,.inl (by simp[Ds.app,cCt,DQ])⟩,rfl,⟨⟨rfl,.inl (by simp[Ds.app,cCt])⟩,rfl,trivial⟩⟩|(simp[Ds.app,cCt,DQ])
   ·simp
   simp[hlt,h3,h4,d0,d1,hL,bS,dD]
   refine⟨k+1,by omega,by omega,?_⟩
   apply aK []<;>simp[AV.ok,Dc.ok,hw,Ds.app,dD]
  ·by_cases hlt2:k<l.length+12
   ·obtain⟨j,hj⟩:=Nat.exists_eq_add_of_le (Nat.le_of_not_lt hlt)
    obtain⟨r,h1⟩:=m2 j (by omega)
    rw[<-hj] at h1
    have h3:(k:Int)<(l.length:Int)+12:=by omega
    have h4:(l.length:Int)<=k:=by omega
    have w3:IntKind.i64.wrap ((k:Int)-l.length)=j:=by rw[IntKind.wrap_i64];omega
    simp[KF,dD,bS,d0,d1,hL,hlt,h1,h3,h4,w3,fD]
    refine⟨by kernel_rfl,by omega,?_⟩
    apply aC (F6 j (by omega))<;>simp
    apply aC (vY (qZ j))<;>simp[cCt,qZ,cA]
    refine⟨k+1,by omega,by omega,?_⟩
    apply aK []<;>simp[AV.ok,Dc.ok,hw,Ds.app,dD]
   ·obtain rfl:k=l.length+12:=by omega
    simp[KF,dD,bS,d0,d1,hL]
    exact⟨[],by simp⟩
abbrev lcRr(a:Rl):Dc:=mF a
def dZ:List Rl->Ds
 | []=>.nil
 | a :: r=>.lit (.int .i64 a.m) (.row 9 73 (dN a.g) (cA (cU 1 12)) (.row 5 27 (cJ ty a.i) (tDs ty (cH 1 12)) (dZ r)))
theorem iB(l:List Rl):(dZ l).len=l.length*3:=by
 induction l with
 | nil=>rfl
 | cons a r ih=>simp[dZ,Ds.len,ih]<;>omega
theorem lS(p q:List Rl):bA (p++q)=(bA p).app (bA q):=by
 induction p with
 | nil=>rfl
 | cons a r ih=>simp[bA,Ds.app,ih]
theorem G0(p q:List Rl):dZ (p++q)=(dZ p).app (dZ q):=by
 induction p with
 | nil=>rfl
 | cons a r ih=>simp[dZ,Ds.app,ih]
theorem Y8(l:List Rl):(bA l).good:=by
 induction l with
 | nil=>trivial
 | cons a r ih=>exact⟨rfl,OU _,trivial,cY _,trivial,ih⟩
theorem AM(l:List Rl):(dZ l).strip=bA l:=by
 induction l with
 | nil=>rfl
 | cons a r ih=>simp[dZ,bA,Ds.strip,ih,dP,cW,mG,ty]
def qX(i:Nat):Rl:=⟨jG 1 i,[],.nil⟩
def cZ(n:Nat):List Rl:=(List.range n).map qX
theorem AD(n:Nat):cZ (n+1)=cZ n++[qX n]:=by simp[cZ,List.range_succ]
theorem lU(n:Nat):(cZ n).length=n:=by simp[cZ]
def jA(l:List Rl):Nat:=(l.map λ a=>1+(dI a.g+a.i.size)).sum
theorem uO(l:List Rl):l.length<=jA l:=by
 induction l with
 | nil=>exact Nat.le_refl _
 | cons a r ih=>simp only[jA,List.map_cons,List.sum_cons,List.length_cons] at *;omega
theorem PX(a b:List Rl):jA (a++b)=jA a+jA b:=by simp[jA]
theorem sE(a:Rl)(l:List Rl):jA (a :: l)=1+(dI a.g+a.i.size)+jA l:=by simp only[jA,List.map_cons,List.sum_cons]
theorem sF{l:List Rl}{k:Nat}(h:k<l.length):1+(dI l[k].g+l[k].i.size)<=jA l:=by
 have e:l=l.take k++(l[k] :: l.drop (k+1)):=by rw[<-List.drop_eq_getElem_cons h,List.take_append_drop]
 have e2:jA l=jA (l.take k)+jA (l[k] :: l.drop (k+1)):=by rw[<-PX,<-e]
 rw[e2,sE]
 omega
theorem takeRr{l:List Rl}{k:Nat}(h:k<l.length):l.take (k+1)=l.take k++[l[k]]:=(List.take_append_getElem h).symm
theorem dpRr{l:List Rl}{k:Nat}(h:k<l.length):(bA l).dp (k*3)=bA (l[k] :: l.drop (k+1)):=by
 have e:l=l.take k++(l[k] :: l.drop (k+1)):=by rw[<-List.drop_eq_getElem_cons h,List.take_append_drop]
 have h2:(bA (l.take k)).len=k*3:=by rw[aT,List.length_take];first|(congr 1;omega)|omega
 conv=>lhs;rw[e,lS,<-h2,Ds.dp_app]
theorem dpLRr{l:List Rl}{k:Nat}(h:k<l.length)(y:Ds):((dZ l).app y).dp (k*3)=(dZ (l[k] :: l.drop (k+1))).app y:=by
 have e:l=l.take k++(l[k] :: l.drop (k+1)):=by rw[<-List.drop_eq_getElem_cons h,List.take_append_drop]
 have h2:(dZ (l.take k)).len=k*3:=by rw[iB,List.length_take];first|(congr 1;omega)|omega
 conv=>lhs;rw[e,G0,Ds.app_assoc,<-h2,Ds.dp_app]
theorem hdRr(a:Rl)(r:List Rl)(y:Ds):Ds.hd 3 ((dZ (a :: r)).app y)=some (lcRr a):=rfl
theorem dpMRr{l:List Rl}{n i:Nat}(h:i<n):((dZ l).app (bA (cZ n))).dp ((l.length+i)*3)=bA (qX i :: (cZ n).drop (i+1)):=by
 have h0:i<(cZ n).length:=by rw[lU];exact h
 have e:cZ n=(cZ n).take i++(qX i :: (cZ n).drop (i+1)):=by
  have e2:(cZ n)[i]=qX i:=by simp[cZ]
  rw[<-e2,<-List.drop_eq_getElem_cons h0,List.take_append_drop]
 have h2:((dZ l).app (bA ((cZ n).take i))).len=(l.length+i)*3:=by
  rw[Ds.app_len,iB,aT,List.length_take,lU]
  have:min i n=i:=by omega
  rw[this];omega
 conv=>lhs;rw[e,lS,<-Ds.app_assoc,<-h2,Ds.dp_app]
def fJ(l:List Rl):AV:=.c (.row none 3 54 (bA l) .nil)
def jH(l:List Rl):AV:=.c (.seg none (.row 3 54 (dZ l) (bA (cZ 12)) .nil) .nil)
theorem F4(i:Nat)(hi:i<=1000):HH 44 [iA 1,iA i] (.agg (.lit (.int .i64 (jG 1 i)) (.nilr 9 73 (.nilr 5 27 .nil)))):=by
 refine ab0 func44 ntmps44 results44 ?_
 simp
 apply aC (k120 i hi)<;>simp[Ds.len]
 exact⟨[],by simp⟩
def QE(l:List Rl)(k:Nat):St:=bV [(0,fJ l),(3,.c (.blk 11 (k+1) 3 54 (.seg none (dZ (l.take k)) .nil) .nil)),(4,iA k)] [] [(11,k+1)]
def Y3(l:List Rl)(i:Nat):St:=bV [(0,fJ l),(3,.c (.blk 11 (l.length+1+i) 3 54 (.seg none ((dZ l).app (bA (cZ i))) .nil) .nil)),(6,iA i)] [] [(11,l.length+1+i)]
theorem NG(l:List Rl)(hs:jA l<=100000000):HH 11 [fJ l] (jH l):=by
 have hl:l.length<=100000000:=Nat.le_trans (uO l) hs
 refine ab0 func11 ntmps11 results11 ?_
 have w0:IntKind.i64.wrap ((l.length:Int)+12)=l.length+12:=by rw[IntKind.wrap_i64];omega
 have d0:l.length*3 / 3=l.length:=by omega
 simp[fJ,aT,d0,w0]
 refine⟨by omega,?_⟩
 refine lp (α:={ k:Nat // k<=l.length }) (λ k=>QE l k.1) (λ k=>l.length-k.1) ⟨0,Nat.zero_le _⟩ ?_ ?_
 ·apply aK [((11,0),[(11,0)])]<;>simp[fJ,dZ,AV.ok,Dc.ok]
 ·rintro⟨k,hk⟩
  by_cases hlt:k<l.length
  ·have h1:=dpRr hlt
   try simp only[Nat.mul_one] at h1
   have hsz:=sF hlt
   simp[QE,fJ,aT,d0,hlt,h1,bA]
   refine⟨by omega,?_⟩
   apply aC (k36 l[k] (by omega) (by omega))<;>simp[rlL,rlC,lcRr,mF,Ds.len]
   have hw:=wr1 (k:=k) (by omega)
   refine⟨by rw[iB,List.length_take];omega,k+1,by omega,by omega,?_⟩
   apply aK [((11,0),[(11,0)])]<;>simp[fJ,AV.ok,Dc.ok,hw,-List.take_append_getElem]
   rw[takeRr hlt,G0];rfl
  ·obtain rfl:k=l.length:=by omega
   simp[QE,fJ,aT,d0]
   refine lp (α:={ i:Nat // i<=12 }) (λ i=>Y3 l i.1) (λ i=>12-i.1) ⟨0,Nat.zero_le _⟩ ?_ ?_
   ·apply aK [((11,0),[(11,0)])]<;>simp[Y3,fJ,cZ,bA,AV.ok,Dc.ok]
   ·rintro⟨i,hi⟩
    by_cases h12:i<12
    ·have h13:(i:Int)<12:=by omega
     simp[Y3,fJ,aT,d0,h13]
     apply aC (F4 i (by omega))<;>simp[Ds.len]
     have hw:=wr1 (k:=i) (by omega)
     refine⟨by rw[Ds.app_len,iB,aT,lU];omega,i+1,by omega,by omega,?_⟩
     apply aK [((11,0),[(11,0)])]<;>simp[fJ,AV.ok,Dc.ok,hw,Nat.add_assoc]
     rw[AD,lS,<-Ds.app_assoc];rfl
    ·obtain rfl:i=12:=by omega
     simp[Y3,fJ,aT,d0]
     have e:=iB l
     try simp only[Nat.mul_one] at e
     refine⟨by first|(rw[Ds.app_nil,Ds.app_len,iB,Ds.len];omega)|(rw[Ds.app_nil,Ds.app_len,iB];omega),[],?_⟩
     simp[jH,Ds.app_nil]
     refine⟨?_,?_⟩<;>rw[<-e]
     ·rw[Ds.tk_app]
     ·rw[Ds.dp_app]
def KD(l:List Rl)(X:Ds)(k:Nat):St:=bV [(1,fJ l),(5,.c (.seg none (.row 3 54 X .nil .nil) .nil)),(6,iA k)] [] []
theorem NM(l:List Rl)(hs:jA l<=100000000):HH 16 [jH l,fJ l] (.v (.bool true)):=by
 have hl:l.length<=100000000:=Nat.le_trans (uO l) hs
 refine ab0 func16 ntmps16 results16 ?_
 have d0:l.length*3 / 3=l.length:=by omega
 have w0:IntKind.i64.wrap ((l.length:Int)+12)=l.length+12:=by rw[IntKind.wrap_i64];omega
 have e1:((l.length:Int)+12).toNat=l.length+12:=by omega
 have hL:((dZ l).app (bA (cZ 12))).len=(l.length+12)*3:=by rw[Ds.app_len,iB,aT,lU];omega
 have d1:((l.length+12)*3) / 3=l.length+12:=by omega
 simp[fJ,jH,aT,iB,lU,d0,w0,e1]
 first|refine⟨⟨by omega,by omega⟩,?_⟩|refine⟨by omega,?_⟩
 have t1:Ds.tk ((l.length+12)*3) ((dZ l).app (bA (cZ 12)))=(dZ l).app (bA (cZ 12)):=by
  have:=Ds.tk_app ((dZ l).app (bA (cZ 12))) .nil;rw[hL,Ds.app_nil] at this;simpa using this
 have t2:Ds.dp ((l.length+12)*3) ((dZ l).app (bA (cZ 12)))=.nil:=by
  have:=Ds.dp_app ((dZ l).app (bA (cZ 12))) .nil;rw[hL,Ds.app_nil] at this;simpa using this
 rw[t1,t2]
 have m1:∀k (h:k<l.length),∃y,Ds.dp (k*3) ((dZ l).app (bA (cZ 12)))=(dZ (l[k] :: l.drop (k+1))).app y:=λ k h=>⟨_,dpLRr h _⟩
 have m2:∀j,j<12->∃r,Ds.dp ((l.length+j)*3) ((dZ l).app (bA (cZ 12)))=bA (qX j :: r):=λ j h=>⟨_,dpMRr h⟩
 try simp only[Nat.mul_one] at m1 m2
 generalize (dZ l).app (bA (cZ 12))=X at *
 clear t1 t2
 refine lp (α:={ k:Nat // k<=l.length+12 }) (λ k=>KD l X k.1) (λ k=>l.length+12-k.1) ⟨0,Nat.zero_le _⟩ ?_ ?_
 ·apply aK []<;>simp[fJ,AV.ok,Dc.ok,Ds.app]
 ·rintro⟨k,hk⟩
  have hw:=wr1 (k:=k) (by omega)
  by_cases hlt:k<l.length
  ·have h1:=dpRr hlt
   try simp only[Nat.mul_one] at h1
   obtain⟨y,h2⟩:=m1 k hlt
   have hsz:=sF hlt
   have h3:(k:Int)<(l.length:Int)+12:=by omega
   have h4:¬(l.length:Int)<=k:=by omega
   generalize l.drop (k+1)=r at h1 h2
   generalize l[k]=a at *
   simp[KD,fJ,aT,d0,d1,hL,hlt,h1,h2,h3,bA,hdRr]
   refine⟨by kernel_rfl,by omega,by omega,?_⟩
   refine aC (k48 a (by omega) (by omega)) ?_ ?_ ?_
   ·first|exact⟨⟨rfl,.inl (by simp[Ds.app,rlL,rlC,lcRr])⟩,rfl,⟨⟨rfl,.inl (by simp[Ds.app,rlL,rlC])⟩,rfl,trivial⟩⟩|(simp[Ds.app,rlL,rlC,lcRr])
   ·simp
   simp[hlt,h3,h4,d0,d1,hL,aT,fJ]
   refine⟨k+1,by omega,by omega,?_⟩
   apply aK []<;>simp[AV.ok,Dc.ok,hw,Ds.app,fJ]
  ·by_cases hlt2:k<l.length+12
   ·obtain⟨j,hj⟩:=Nat.exists_eq_add_of_le (Nat.le_of_not_lt hlt)
    obtain⟨r,h1⟩:=m2 j (by omega)
    rw[<-hj] at h1
    have h3:(k:Int)<(l.length:Int)+12:=by omega
    have h4:(l.length:Int)<=k:=by omega
    have w3:IntKind.i64.wrap ((k:Int)-l.length)=j:=by rw[IntKind.wrap_i64];omega
    simp[KD,fJ,aT,d0,d1,hL,hlt,h1,h3,h4,w3,bA]
    refine⟨by kernel_rfl,by omega,?_⟩
    apply aC (F4 j (by omega))<;>simp
    apply aC (k107 (qX j) (Nat.zero_le _))<;>simp[rlL,rlC,qX,cA]
    refine⟨k+1,by omega,by omega,?_⟩
    apply aK []<;>simp[AV.ok,Dc.ok,hw,Ds.app,fJ]
   ·obtain rfl:k=l.length+12:=by omega
    simp[KD,fJ,aT,d0,d1,hL]
    exact⟨[],by simp⟩
def mX(n:Nat):List Lv:=(List.range n).map λ i:Nat=>kP ((i:Int)+1)
theorem wH(n:Nat):mX (n+1)=mX n++[kP ((n:Int)+1)]:=by simp[mX,List.range_succ]
theorem CS(n:Nat):(mX n).length=n:=by simp[mX]
theorem ID(a b:List Lv):aH (a++b)=aH a+aH b:=by
 induction a with
 | nil=>simp[aH]
 | cons p r ih=>simp only[List.cons_append,aH,ih];omega
theorem sJ(n:Nat):aH (mX n)=2*n:=by
 induction n with
 | zero=>rfl
 | succ n ih=>rw[wH,ID,ih];simp[aH,kP];omega
theorem sK(n:Nat)(hn:n<=100000000):∀p∈mX n,∀q∈p,(-9223372036854775808<=q.1/\q.1<=9223372036854775807)/\(-9223372036854775808<=q.2/\q.2<=9223372036854775807):=by
 intro p hp q hq
 simp only[mX,List.mem_map,List.mem_range] at hp
 obtain⟨i,hi,rfl⟩:=hp
 simp only[kP,List.mem_singleton] at hq
 subst hq
 simp only
 omega
abbrev fW(n:Int):Prop:=-9223372036854775808<=n/\n<=9223372036854775807
theorem sU{k n a:Int}{l:List Lv}(hk:0<=k/\k<=100)(hn:fW n)(ha:0<=a/\a<=100000000000)(hl:∀p∈l,∀q∈p,(-9223372036854775808<=q.1/\q.1<=9223372036854775807)/\(-9223372036854775808<=q.2/\q.2<=9223372036854775807)):Hd.fits ⟨k,n,a,l⟩ :=
 ⟨⟨by show -9223372036854775808<=k;omega,by show k<=9223372036854775807;omega⟩,hn,⟨by show -9223372036854775808<=a;omega,by show a<=9223372036854775807;omega⟩,hl⟩
def lsA(l:List Lv):AV:=.c (.row none 1 30 (cB ty l) .nil)
def QR(n k:Nat):St:=bV [(2,.c (.blk 15 (k+1) 1 30 (.seg none (cB ty (mX k)) .nil) .nil)),(5,iA n),(6,iA k)] [] [(15,k+1)]
theorem k178(n:Int)(hn:n<=1000000):HH 145 [iA n] (lsA (mX n.toNat)):=by
 refine ab0 func145 ntmps145 results145 ?_
 have e0:(if (0:Int)>n then 0 else n)=(n.toNat:Int):=by split<;>omega
 simp only[gt_iff_lt] at e0
 generalize hm:n.toNat=m at *
 have hm2:m<=100000000:=by omega
 simp[e0]
 refine lp (α:={ k:Nat // k<=m }) (λ k=>QR m k.1) (λ k=>m-k.1) ⟨0,Nat.zero_le _⟩ ?_ ?_
 ·apply aK [((15,0),[(15,0)])]<;>simp[AV.ok,Dc.ok,mX]
 ·rintro⟨k,hk⟩
  have hw:=wr1 (k:=k) (by omega)
  by_cases hlt:k<m
  ·simp[QR,hlt,hw]
   apply aC (k222 ((k:Int)+1) (by omega) (by omega))<;>simp[lvA]
   refine⟨by rw[gL,CS];omega,k+1,by omega,by omega,?_⟩
   apply aK [((15,0),[(15,0)])]<;>simp[AV.ok,Dc.ok,hw,wH]
   rw[oW];rfl
  ·obtain rfl:k=m:=by omega
   simp[QR,Ds.app_nil]
   exact⟨[],by simp[lsA,Ds.app_nil]⟩
def QP(n:Int)(k:Nat):St:=bV [(0,iA n),(3,.c (.blk 15 (k+1) 1 30 (.seg none (cB ty (mX k)) .nil) .nil)),(4,iA ((k:Int)+1))] [] [(15,k+1)]
theorem k180(n:Int)(hn:n<=1000000):HH 232 [iA n] (lsA (mX n.toNat)):=by
 refine ab0 func232 ntmps232 results232 ?_
 generalize hm:n.toNat=m at *
 simp
 refine lp (α:={ k:Nat // k<=m }) (λ k=>QP n k.1) (λ k=>m-k.1) ⟨0,Nat.zero_le _⟩ ?_ ?_
 ·apply aK [((15,0),[(15,0)])]<;>simp[AV.ok,Dc.ok,mX]
 ·rintro⟨k,hk⟩
  have hw:IntKind.i64.wrap ((k:Int)+1+1)=(k:Int)+1+1:=by rw[IntKind.wrap_i64];omega
  by_cases hlt:(k:Int)+1<=n
  ·simp[QP,hlt,hw]
   apply aC (k223 ((k:Int)+1) (by omega) (by omega))<;>simp[lvA]
   refine⟨by rw[gL,CS];omega,k+1,by omega,by omega,?_⟩
   apply aK [((15,0),[(15,0)])]<;>simp[AV.ok,Dc.ok,hw,wH]
   rw[oW];rfl
  ·obtain rfl:k=m:=by omega
   simp[QP,hlt,Ds.app_nil]
   exact⟨[],by simp[lsA,Ds.app_nil]⟩
def fO(d:Dl)(num far:Int):Tm:=cL ⟨⟨3,num,0,mX d.lv.toNat⟩,.nil⟩ (dO far d.p.len)
theorem k98(d:Dl)(num far:Int)(hl:d.lv<=1000)(hp:d.p.size<=10000000)(hn:fW num):HH 53 [dlL d,iA num,iA far] (tmL (fO d num far)):=by
 have hpl:d.p.len<=10000000:=Nat.le_trans (len_le_size d.p) hp
 have d0:d.p.len*5 / 5=d.p.len:=by omega
 have hf:Tm.fits ⟨⟨3,num,0,mX d.lv.toNat⟩,.nil⟩:=⟨sU (by decide) hn (by decide) (sK _ (by omega)),trivial⟩
 have hs:Tm.size ⟨⟨3,num,0,mX d.lv.toNat⟩,.nil⟩<=100000000:=by simp only[Tm.size,sJ,Ts.size];omega
 refine ab0 func53 ntmps53 results53 ?_
 simp[dlL,dlC]
 refine⟨by kernel_rfl,?_⟩
 apply aC (k178 d.lv (by omega))<;>simp[lsA,aF,d0]
 apply aC (SZ d.p.len far hpl)<;>simp
 apply aC (k95 _ (dO far d.p.len) hf hs (gV far _) (by rw[gU];omega))<;>simp[fO]
 exact⟨[],by simp⟩
theorem k99(d:Dl)(num far:Int)(hl:d.lv<=1000)(hp:d.p.size<=10000000)(hn:fW num):HH 157 [dlL d,iA num,iA far] (tmL (fO d num far)):=by
 have hpl:d.p.len<=10000000:=Nat.le_trans (len_le_size d.p) hp
 have d0:d.p.len*5 / 5=d.p.len:=by omega
 have hf:Tm.fits ⟨⟨3,num,0,mX d.lv.toNat⟩,.nil⟩:=⟨sU (by decide) hn (by decide) (sK _ (by omega)),trivial⟩
 have hs:Tm.size ⟨⟨3,num,0,mX d.lv.toNat⟩,.nil⟩<=100000000:=by simp only[Tm.size,sJ,Ts.size];omega
 refine ab0 func157 ntmps157 results157 ?_
 simp[dlL,dlC]
 refine⟨by kernel_rfl,?_⟩
 apply aC (k180 d.lv (by omega))<;>simp[lsA,aF,d0]
 apply aC (k117f d.p.len far hpl)<;>simp
 apply aC (SW _ (dO far d.p.len) hf hs (gV far _) (by rw[gU];omega))<;>simp[fO]
 exact⟨[],by simp⟩
theorem gD(d:Dl)(num far:Int)(hl:d.lv<=1000)(hn:fW num):(fO d num far).fits :=
 iE _ _ ⟨sU (by decide) hn (by decide) (sK _ (by omega)),trivial⟩ (gV far _)
theorem gA(d:Dl)(num far:Int)(hl:d.lv<=1000):(fO d num far).size<=2000+2*d.p.size:=by
 have:=jV (dO far d.p.len) ⟨⟨3,num,0,mX d.lv.toNat⟩,.nil⟩
 have e:Tm.size ⟨⟨3,num,0,mX d.lv.toNat⟩,.nil⟩=2*d.lv.toNat:=by simp only[Tm.size,sJ,Ts.size];omega
 rw[e,gU] at this
 have h2:=len_le_size d.p
 unfold fO
 omega
theorem k165(t:Ts)(b:Tm)(hf:t.fits)(hs:t.size<=100000000)(hbf:b.fits)(hbs:b.size<=100000000):HH 70 [tsA none t,tmL b] (tmL (aG 4 t b)):=by
 refine ab0 func70 ntmps70 results70 ?_
 simp
 refine⟨by kernel_rfl,?_⟩
 apply aC (k217 t hf hs)<;>simp
 apply aC (SY b hbf hbs)<;>simp
 apply aC (k218 4 t b)<;>simp
 exact⟨[],by simp⟩
theorem k88(t:Ts)(b:Tm)(hf:t.fits)(hs:t.size<=100000000)(hbf:b.fits)(hbs:b.size<=100000000):HH 62 [tmL b,tsA none t] (tmL (aG 5 t b)):=by
 refine ab0 func62 ntmps62 results62 ?_
 simp
 apply aC (k162 t b hf hs hbf hbs)<;>simp
 exact⟨[],by simp⟩
theorem k91(t:Ts)(b:Tm)(hf:t.fits)(hs:t.size<=100000000)(hbf:b.fits)(hbs:b.size<=100000000):HH 59 [tmL b,tsA none t] (tmL (aG 4 t b)):=by
 refine ab0 func59 ntmps59 results59 ?_
 simp
 apply aC (k165 t b hf hs hbf hbs)<;>simp
 exact⟨[],by simp⟩
theorem SV(t:Ts)(b:Tm)(hf:t.fits)(hs:t.size<=100000000)(hbf:b.fits)(hbs:b.size<=100000000):HH 94 [tsA none t,tmL b] (tmL (aG 4 t b)):=by
 refine ab0 func94 ntmps94 results94 ?_
 simp
 apply aC (k226 4 t b hf hs hbf hbs)<;>simp
 exact⟨[],by simp⟩
theorem aO{a:Tm}(h:a.fits):a.ts.fits:=⟨h.1,h.2,trivial⟩
theorem IQ(a b:Tm)(hf:a.fits)(hs:a.size<=90000000)(hbf:b.fits)(hbs:b.size<=100000000):HH 92 [tmL a,tmL b] (tmL (aG 5 a.ts b)):=by
 have q:=k196 a.ts b (aO hf) (by rw[aN];omega) hbf hbs
 refine ab0 func92 ntmps92 results92 ?_
 simp
 apply aC q<;>simp
 exact⟨[],by simp⟩
theorem yH(a b:Tm)(hf:a.fits)(hs:a.size<=90000000)(hbf:b.fits)(hbs:b.size<=100000000):HH 80 [tmL a,tmL b] (tmL (aG 4 a.ts b)):=by
 have q:=SV a.ts b (aO hf) (by rw[aN];omega) hbf hbs
 refine ab0 func80 ntmps80 results80 ?_
 simp
 apply aC q<;>simp
 exact⟨[],by simp⟩
theorem k176(f x:Tm)(hf:f.fits)(hs:f.size<=100000000)(hx:x.fits)(hxs:x.size<=90000000):HH 156 [tmL f,tmL x] (tmL (cL f x.ts)):=by
 have q:=SW f x.ts hf hs (aO hx) (by rw[aN];omega)
 refine ab0 func156 ntmps156 results156 ?_
 simp
 apply aC q<;>simp
 exact⟨[],by simp⟩
def atT(d:Dl)(num far:Int)(x:Tm):Tm:=cL (fO d num far) x.ts
theorem nH(d:Dl)(num far:Int)(x:Tm)(hl:d.lv<=1000)(hn:fW num)(hx:x.fits):(atT d num far x).fits:=iE _ _ (gD d num far hl hn) (aO hx)
theorem nG(d:Dl)(num far:Int)(x:Tm)(hl:d.lv<=1000):(atT d num far x).size<=2002+2*d.p.size+2*x.size:=by
 have h1:=jV x.ts (fO d num far)
 have h2:=gA d num far hl
 rw[aN] at h1
 unfold atT
 omega
theorem SX(d:Dl)(num far:Int)(x:Tm)(hl:d.lv<=1000)(hp:d.p.size<=10000000)(hn:fW num)(hx:x.fits)(hxs:x.size<=30000000):HH 79 [dlL d,iA num,iA far,tmL x] (tmL (atT d num far x)):=by
 have c2:=gA d num far hl
 have q1:=k99 d num far hl hp hn
 have q2:=k176 (fO d num far) x (gD d num far hl hn) (by omega) hx (by omega)
 refine ab0 func79 ntmps79 results79 ?_
 simp[dlL,dlC]
 refine⟨by kernel_rfl,?_⟩
 apply aC q1<;>simp[dlL,dlC]
 apply aC q2<;>simp[atT]
 exact⟨[],by simp⟩
theorem kT(n:Int):fW (IntKind.i64.wrap n):=by unfold fW;rw[IntKind.wrap_i64];omega
def vT(n:Int):Tm:=⟨⟨1,n,0,[]⟩,.nil⟩
def aS(d:Dl)(base far:Int):Tm:=⟨kH 12,.cons (rN d.m.length) .nil (atT d base (IntKind.i64.wrap (far+1)) (vT 0)).ts⟩
def fU(d:Dl)(base far:Int):Tm:=⟨kH 12,.cons (rN d.c.length) .nil (atT d (IntKind.i64.wrap (base+1)) (IntKind.i64.wrap (far+1)) (vT 0)).ts⟩
theorem bO{n:Int}(h:0<=n/\n<=100000000000):(vT n).fits:=⟨eQ (by decide) h (by decide),trivial⟩
theorem k100(d:Dl)(base far:Int)(hl:d.lv<=1000)(hp:d.p.size<=10000000)(hn:fW base)(hm:d.m.length<=10000000):HH 50 [dlL d,iA base,iA far] (tmL (aS d base far)):=by
 generalize hF:IntKind.i64.wrap (far+1)=far1
 have c2:=gA d base far1 hl
 have q1:=k98 d base far1 hl hp hn
 have q2:=k95 (fO d base far1) (vT 0).ts (gD d base far1 hl hn) (by omega) (aO (bO (by decide))) (by decide)
 have a2:=nG d base far1 (vT 0) hl
 have q3:=g59 12 (.cons (rN d.m.length) .nil (atT d base far1 (vT 0)).ts) (by decide) ⟨eQ (by decide) (by omega) (by decide),trivial,aO (nH d base far1 (vT 0) hl hn (bO (by decide)))⟩ (by have e:(vT 0).size=0:=rfl;rw[e] at a2;simp only[Ts.size,aH,rN,aN];omega)
 refine ab0 func50 ntmps50 results50 ?_
 simp[dlL,dlC,aW,hF]
 refine⟨by kernel_rfl,?_⟩
 apply aC (g57 d.m.length)<;>simp
 apply aC q1<;>simp[dlL,dlC,hF]
 apply aC (g92 0)<;>simp
 apply aC q2<;>simp[vT]
 apply aC q3<;>simp[atT,vT,aS,hF]
 exact⟨[],by simp⟩
theorem IR(d:Dl)(base far:Int)(hl:d.lv<=1000)(hp:d.p.size<=10000000)(hn:fW base):HH 83 [dlL d,iA base,iA far] (tmL (aS d base far)):=by
 generalize hF:IntKind.i64.wrap (far+1)=far1
 have q1:=SX d base far1 (vT 0) hl hp hn (bO (by decide)) (by decide)
 have q2:=g64 12 ⟨rN d.m.length,.nil⟩ (atT d base far1 (vT 0))
 have e0:aS d base far=⟨kH 12,.cons (rN d.m.length) .nil (atT d base far1 (vT 0)).ts⟩:=by rw[aS,hF]
 rw[e0]
 clear e0
 generalize atT d base far1 (vT 0)=A at *
 refine ab0 func83 ntmps83 results83 ?_
 simp[dlL,dlC,aW,hF]
 refine⟨by kernel_rfl,?_⟩
 apply aC (g62 d.m.length)<;>simp
 apply aC (rJ 0)<;>simp
 apply aC q1<;>simp[dlL,dlC,vT,hF]
 apply aC q2<;>simp
 exact⟨[],by simp⟩
theorem k93(d:Dl)(base far:Int)(hl:d.lv<=1000)(hp:d.p.size<=10000000)(hm:d.c.length<=10000000):HH 68 [dlL d,iA base,iA far] (tmL (fU d base far)):=by
 have hn:=kT (base+1)
 generalize hF:IntKind.i64.wrap (far+1)=far1
 generalize hB:IntKind.i64.wrap (base+1)=base1 at *
 have c2:=gA d base1 far1 hl
 have d6:d.c.length*6 / 6=d.c.length:=by omega
 have q1:=k98 d base1 far1 hl hp hn
 have q2:=k95 (fO d base1 far1) (vT 0).ts (gD d base1 far1 hl hn) (by omega) (aO (bO (by decide))) (by decide)
 have a2:=nG d base1 far1 (vT 0) hl
 have q3:=g59 12 (.cons (rN d.c.length) .nil (atT d base1 far1 (vT 0)).ts) (by decide) ⟨eQ (by decide) (by omega) (by decide),trivial,aO (nH d base1 far1 (vT 0) hl hn (bO (by decide)))⟩ (by have e:(vT 0).size=0:=rfl;rw[e] at a2;simp only[Ts.size,aH,rN,aN];omega)
 refine ab0 func68 ntmps68 results68 ?_
 simp[dlL,dlC,bS,d6,hF,hB]
 refine⟨by kernel_rfl,?_⟩
 apply aC (g57 d.c.length)<;>simp
 apply aC q1<;>simp[dlL,dlC,hF,hB]
 apply aC (g92 0)<;>simp
 apply aC q2<;>simp[vT]
 apply aC q3<;>simp[atT,vT,fU,hF,hB]
 exact⟨[],by simp⟩
theorem k102(d:Dl)(base far:Int)(hl:d.lv<=1000)(hp:d.p.size<=10000000)(hm:d.c.length<=10000000):HH 91 [dlL d,iA base,iA far] (tmL (fU d base far)):=by
 have hn:=kT (base+1)
 have d6:d.c.length*6 / 6=d.c.length:=by omega
 generalize hF:IntKind.i64.wrap (far+1)=far1
 generalize hB:IntKind.i64.wrap (base+1)=base1 at *
 have q1:=SX d base1 far1 (vT 0) hl hp hn (bO (by decide)) (by decide)
 have q2:=g64 12 ⟨rN d.c.length,.nil⟩ (atT d base1 far1 (vT 0))
 have e0:fU d base far=⟨kH 12,.cons (rN d.c.length) .nil (atT d base1 far1 (vT 0)).ts⟩:=by rw[fU,hF,hB]
 rw[e0]
 clear e0
 generalize atT d base1 far1 (vT 0)=A at *
 refine ab0 func91 ntmps91 results91 ?_
 simp[dlL,dlC,bS,d6,hF,hB]
 refine⟨by kernel_rfl,?_⟩
 apply aC (g62 d.c.length)<;>simp
 apply aC (rJ 0)<;>simp
 apply aC q1<;>simp[dlL,dlC,vT,hF,hB]
 apply aC q2<;>simp
 exact⟨[],by simp⟩
def gJ{α:Type}(f:α->Int):List α->Int->Int
 | [],n=>n
 | a :: r,n=>if n<=300 then gJ f r (n+f a) else n
theorem kN{α:Type}{f:α->Int}(hf:∀a,0<=f a):∀(l:List α) (n:Int),n<=gJ f l n
 | [],n=>Int.le_refl _
 | a :: r,n=>by
  unfold gJ
  split
  ·have:=kN hf r (n+f a)
   have:=hf a
   omega
  ·exact Int.le_refl _
theorem tH{α:Type}{f:α->Int}{g:α->Nat}(hf:∀a,0<=f a)(hg:∀a,f a<=300->(g a:Int)<=f a):∀(l:List α) (n:Int),0<=n->gJ f l n<=300->n+((l.map g).sum:Nat)<=gJ f l n
 | [],n,_,_=>by simp[gJ]
 | a :: r,n,h0,h=>by
  have h9:n<=300:=Int.le_trans (kN hf (a :: r) n) h
  unfold gJ at h ⊢
  rw[if_pos h9] at h ⊢
  have h1:=kN hf r (n+f a)
  have h2:=hf a
  have h3:=hg a (by omega)
  have h4:=tH hf hg r (n+f a) (by omega) h
  simp only[List.map_cons,List.sum_cons]
  omega
theorem tI{α:Type}{f:α->Int}{B:Int}(hB:0<=B):∀(l:List α) (n:Int),(∀a∈l,0<=f a/\f a<=B)->n<=300->gJ f l n<=300+B
 | [],n,_,hn=>by simp only[gJ];omega
 | a :: r,n,h,hn=>by
  unfold gJ
  rw[if_pos hn]
  obtain⟨h1,h2⟩:=h a (by simp)
  by_cases h5:n+f a<=300
  ·exact tI hB r _ (λ b hb=>h b (by simp[hb])) h5
  ·have:gJ f r (n+f a)=n+f a:=by
    cases r with
    | nil=>rfl
    | cons b r=>unfold gJ;rw[if_neg h5]
   rw[this]
   omega
theorem tE{t:Ts}(h:t.size<=200000000):0<=t.cnt 300 0/\t.cnt 300 0<=1000000000000:=by
 have e2:=t.cnt_le 300 0 (by decide) (by decide) (by decide)
 have e3:=t.cnt_ge 300 0 (by decide)
 have e4:=t.count_le_size
 omega
def fMb(a:Ts):Int:=1+a.cnt 300 0
def fCt(a:Ct):Int:=1+nF a.t
def fRr(a:Rl):Int:=yK a
theorem BD(a:Ts):0<=fMb a:=by have:=a.cnt_ge 300 0 (by decide);unfold fMb;omega
theorem BE(a:Ct):0<=fCt a:=by have:=tG a.t;unfold fCt;omega
theorem IY(a:Rl):0<=fRr a:=by
 have:=jW a.g 0
 have:=a.i.cnt_ge 300 0 (by decide)
 unfold fRr yK;omega
theorem TP{a:Ts}(h:a.size<=200000000):0<=fMb a/\fMb a<=10000000000000:=by have:=tE h;unfold fMb;omega
theorem TS{a:Ct}(h:a.t.size<=200000000):0<=fCt a/\fCt a<=10000000000000:=by have:=tF a.t h;unfold fCt;omega
theorem TN{a:Rl}(h1:dI a.g<=200000000)(h:a.i.size<=200000000):0<=fRr a/\fRr a<=10000000000000:=by
 have:=tE h
 have:=jW a.g 0
 have:=M7 a.g 0 h1 (by decide)
 unfold fRr yK
 omega
theorem TO(a:Ts)(h:fMb a<=300):((1+a.size:Nat):Int)<=fMb a:=by
 unfold fMb at *
 have e3:=a.cnt_ge 300 0 (by decide)
 have:=Ts.cnt_eq a 300 0 (by decide) (by decide) (by omega)
 omega
theorem TQ(a:Ct)(h:fCt a<=300):((1+a.t.size:Nat):Int)<=fCt a:=by
 unfold fCt at *
 have:=yQ (t:=a.t) (by omega)
 omega
theorem TM(a:Rl)(h:fRr a<=300):((1+(dI a.g+a.i.size):Nat):Int)<=fRr a:=by
 unfold fRr yK at *
 have e3:=a.i.cnt_ge 300 0 (by decide)
 have e4:=jW a.g 0
 have:=Ts.cnt_eq a.i 300 0 (by decide) (by decide) (by omega)
 have:=vR a.g 0 (by decide) (by omega)
 omega
def KH(l:List Ts)(k:Nat)(n:Int):St:=bV [(0,dC l),(1,iA 300),(5,iA n),(6,iA k)] [] []
theorem countMb(l:List Ts)(hs:lO l<=200000000):HH 33 [dC l,iA 300] (iA (gJ fMb l 0)):=by
 have hl:l.length<=200000000:=Nat.le_trans (qP l) hs
 refine ab0 func33 ntmps33 results33 ?_
 have d0:l.length*1 / 1=l.length:=by omega
 simp[dC,aW,d0]
 refine lp (α:={ q:Nat×Int // q.1<=l.length/\0<=q.2/\gJ fMb (l.drop q.1) q.2=gJ fMb l 0 }) (λ q=>KH l q.1.1 q.1.2) (λ q=>l.length-q.1.1) ⟨(0,0),Nat.zero_le _,Int.le_refl _,rfl⟩ ?_ ?_
 ·apply aK []<;>simp[dC,AV.ok,Dc.ok]
 ·rintro⟨⟨k,n⟩,hk,hn0,hc⟩
  simp only at hk hn0 hc
  by_cases hlt:k<l.length
  ·have h1:=NZ hlt
   try simp only[Nat.mul_one] at h1
   have hsz:=uP hlt
   have hd:l.drop k=l[k] :: l.drop (k+1):=List.drop_eq_getElem_cons hlt
   rw[hd,gJ] at hc
   generalize hr:l.drop (k+1)=r at h1 hc hd
   have bp:=TP (a:=l[k]) (by omega)
   have b1:=l[k].cnt_ge 300 0 (by decide)
   have q1:=k7 l[k] (by omega)
   by_cases hn:n<=300
   ·rw[if_pos hn] at hc
    rw[show fMb l[k]=1+l[k].cnt 300 0 from rfl] at hc bp
    generalize l[k].cnt 300 0=c1 at *
    have w1:IntKind.i64.wrap (n+1)=n+1:=by rw[IntKind.wrap_i64];omega
    have w2:IntKind.i64.wrap (n+1+c1)=n+1+c1:=by rw[IntKind.wrap_i64];omega
    have hw:=wr1 (k:=k) (by omega)
    simp[KH,dC,aW,d0,hlt,hn,h1,bI]
    first|refine⟨by kernel_rfl,by omega,?_⟩|refine⟨by omega,?_⟩
    apply aC q1<;>simp[w2,w1,hw,eF]
    refine⟨k+1,by omega,n+1+c1,⟨by omega,by omega,?_⟩,?_⟩
    ·rw[hr]
     refine Eq.trans (congrArg (gJ fMb r) ?_) hc
     omega
    ·apply aK []<;>simp[AV.ok,Dc.ok,dC]
   ·rw[if_neg hn] at hc
    subst hc
    simp[KH,dC,aW,d0,hlt,hn]
    exact⟨[],by simp⟩
  ·obtain rfl:k=l.length:=by omega
   rw[List.drop_length,gJ] at hc
   subst hc
   simp[KH,dC,aW,d0]
   exact⟨[],by simp⟩
def KI(l:List Ct)(k:Nat)(n:Int):St:=bV [(0,dD l),(1,iA 300),(5,iA n),(6,iA k)] [] []
theorem countCt(l:List Ct)(hs:kQ l<=200000000):HH 34 [dD l,iA 300] (iA (gJ fCt l 0)):=by
 have hl:l.length<=200000000:=Nat.le_trans (oN l) hs
 refine ab0 func34 ntmps34 results34 ?_
 have d0:l.length*6 / 6=l.length:=by omega
 simp[dD,bS,d0]
 refine lp (α:={ q:Nat×Int // q.1<=l.length/\0<=q.2/\gJ fCt (l.drop q.1) q.2=gJ fCt l 0 }) (λ q=>KI l q.1.1 q.1.2) (λ q=>l.length-q.1.1) ⟨(0,0),Nat.zero_le _,Int.le_refl _,rfl⟩ ?_ ?_
 ·apply aK []<;>simp[dD,AV.ok,Dc.ok]
 ·rintro⟨⟨k,n⟩,hk,hn0,hc⟩
  simp only at hk hn0 hc
  by_cases hlt:k<l.length
  ·have h1:=dpCt hlt
   try simp only[Nat.mul_one] at h1
   have hsz:=sG hlt
   have hd:l.drop k=l[k] :: l.drop (k+1):=List.drop_eq_getElem_cons hlt
   rw[hd,gJ] at hc
   generalize hr:l.drop (k+1)=r at h1 hc hd
   have bp:=TS (a:=l[k]) (by omega)
   have b1:=tG l[k].t
   have q8:=k8 l[k].t (by omega)
   change HH 19 _ (iA (nF l[k].t)) at q8
   have q1:=q8
   by_cases hn:n<=300
   ·rw[if_pos hn] at hc
    rw[show fCt l[k]=1+nF l[k].t from rfl] at hc bp
    generalize nF l[k].t=c1 at *
    have w1:IntKind.i64.wrap (n+1)=n+1:=by rw[IntKind.wrap_i64];omega
    have w2:IntKind.i64.wrap (n+1+c1)=n+1+c1:=by rw[IntKind.wrap_i64];omega
    have hw:=wr1 (k:=k) (by omega)
    simp[KI,dD,bS,d0,hlt,hn,h1,fD]
    first|refine⟨by kernel_rfl,by omega,?_⟩|refine⟨by omega,?_⟩
    apply aC q1<;>simp[w2,w1,hw,eF]
    refine⟨k+1,by omega,n+1+c1,⟨by omega,by omega,?_⟩,?_⟩
    ·rw[hr]
     refine Eq.trans (congrArg (gJ fCt r) ?_) hc
     omega
    ·apply aK []<;>simp[AV.ok,Dc.ok,dD]
   ·rw[if_neg hn] at hc
    subst hc
    simp[KI,dD,bS,d0,hlt,hn]
    exact⟨[],by simp⟩
  ·obtain rfl:k=l.length:=by omega
   rw[List.drop_length,gJ] at hc
   subst hc
   simp[KI,dD,bS,d0]
   exact⟨[],by simp⟩
def KG(l:List Rl)(k:Nat)(n:Int):St:=bV [(0,fJ l),(1,iA 300),(5,iA n),(6,iA k)] [] []
theorem LQ(l:List Rl)(hs:jA l<=200000000):HH 7 [fJ l,iA 300] (iA (gJ fRr l 0)):=by
 have hl:l.length<=200000000:=Nat.le_trans (uO l) hs
 refine ab0 func7 ntmps7 results7 ?_
 have d0:l.length*3 / 3=l.length:=by omega
 simp[fJ,aT,d0]
 refine lp (α:={ q:Nat×Int // q.1<=l.length/\0<=q.2/\gJ fRr (l.drop q.1) q.2=gJ fRr l 0 }) (λ q=>KG l q.1.1 q.1.2) (λ q=>l.length-q.1.1) ⟨(0,0),Nat.zero_le _,Int.le_refl _,rfl⟩ ?_ ?_
 ·apply aK []<;>simp[fJ,AV.ok,Dc.ok]
 ·rintro⟨⟨k,n⟩,hk,hn0,hc⟩
  simp only at hk hn0 hc
  by_cases hlt:k<l.length
  ·have h1:=dpRr hlt
   try simp only[Nat.mul_one] at h1
   have hsz:=sF hlt
   have hd:l.drop k=l[k] :: l.drop (k+1):=List.drop_eq_getElem_cons hlt
   rw[hd,gJ] at hc
   generalize hr:l.drop (k+1)=r at h1 hc hd
   have bp:=TN (a:=l[k]) (by omega) (by omega)
   have b1:=jW l[k].g 0
   have b2:=l[k].i.cnt_ge 300 0 (by decide)
   have q1:=k73 l[k].g (by omega)
   have q2:=k7 l[k].i (by omega)
   by_cases hn:n<=300
   ·rw[if_pos hn] at hc
    rw[show fRr l[k]=1+eV l[k].g 0+l[k].i.cnt 300 0 from rfl] at hc bp
    generalize eV l[k].g 0=c1 at *
    generalize l[k].i.cnt 300 0=c2 at *
    have w1:IntKind.i64.wrap (n+1)=n+1:=by rw[IntKind.wrap_i64];omega
    have w2:IntKind.i64.wrap (n+1+c1)=n+1+c1:=by rw[IntKind.wrap_i64];omega
    have w3:IntKind.i64.wrap (n+1+c1+c2)=n+1+c1+c2:=by rw[IntKind.wrap_i64];omega
    have hw:=wr1 (k:=k) (by omega)
    simp[KG,fJ,aT,d0,hlt,hn,h1,bA]
    first|refine⟨by kernel_rfl,by omega,?_⟩|refine⟨by omega,?_⟩
    apply aC q1<;>simp[w2,w1,h1,bA,aT,eF]
    refine⟨by omega,?_⟩
    apply aC q2<;>simp[w3,w1,hw,eF]
    refine⟨k+1,by omega,n+1+c1+c2,⟨by omega,by omega,?_⟩,?_⟩
    ·rw[hr]
     refine Eq.trans (congrArg (gJ fRr r) ?_) hc
     omega
    ·apply aK []<;>simp[AV.ok,Dc.ok,fJ]
   ·rw[if_neg hn] at hc
    subst hc
    simp[KG,fJ,aT,d0,hlt,hn]
    exact⟨[],by simp⟩
  ·obtain rfl:k=l.length:=by omega
   rw[List.drop_length,gJ] at hc
   subst hc
   simp[KG,fJ,aT,d0]
   exact⟨[],by simp⟩
def jR(d:Dl):Int:=1+nF d.t+nF d.b+d.p.cnt 300 0+oX d.s+gJ fMb d.m 0+gJ fCt d.c 0
structure BigD (d:Dl):Prop where
 t:d.t.size<=100000000
 b:d.b.size<=100000000
 p:d.p.size<=100000000
 s:d.s.length<=100000000
 m:lO d.m<=100000000
 c:kQ d.c<=100000000
theorem SH{l:List Ts}(h:lO l<=100000000):∀a∈l,0<=fMb a/\fMb a<=10000000000000:=λ a ha=>by
 obtain⟨k,hk,rfl⟩:=List.getElem_of_mem ha
 exact TP (by have:=uP hk;omega)
theorem UF{l:List Ct}(h:kQ l<=100000000):∀a∈l,0<=fCt a/\fCt a<=10000000000000:=λ a ha=>by
 obtain⟨k,hk,rfl⟩:=List.getElem_of_mem ha
 exact TS (by have:=sG hk;omega)
theorem rr_mem{l:List Rl}(h:jA l<=100000000):∀a∈l,0<=fRr a/\fRr a<=10000000000000:=λ a ha=>by
 obtain⟨k,hk,rfl⟩:=List.getElem_of_mem ha
 exact TN (by have:=sF hk;omega) (by have:=sF hk;omega)
theorem LR(d:Dl)(h:BigD d):HH 6 [dlL d,iA 300] (iA (jR d)):=by
 have h1:=tF d.t (Nat.le_trans h.t (by decide))
 have h2:=tF d.b (Nat.le_trans h.b (by decide))
 have h3:=tE (Nat.le_trans h.p (by decide))
 have h4:0<=oX d.s/\oX d.s<=301:=by unfold oX;omega
 have h5:=kN BD d.m 0
 have h6:=kN BE d.c 0
 have h7:=tI (B:=10000000000000) (by decide) d.m 0 (SH h.m) (by decide)
 have h8:=tI (B:=10000000000000) (by decide) d.c 0 (UF h.c) (by decide)
 have q1:=k8 d.t (Nat.le_trans h.t (by decide))
 have q2:=k8 d.b (Nat.le_trans h.b (by decide))
 have q3:=k7 d.p (Nat.le_trans h.p (by decide))
 have q4:=k70 d.s (Nat.le_trans h.s (by decide))
 have q5:=countMb d.m (Nat.le_trans h.m (by decide))
 have q6:=countCt d.c (Nat.le_trans h.c (by decide))
 change HH 19 _ (iA (nF d.t)) at q1
 change HH 19 _ (iA (nF d.b)) at q2
 unfold jR
 refine ab0 func6 ntmps6 results6 ?_
 generalize nF d.t=c1 at *
 generalize nF d.b=c2 at *
 generalize d.p.cnt 300 0=c3 at *
 generalize oX d.s=c4 at *
 generalize gJ fMb d.m 0=c5 at *
 generalize gJ fCt d.c 0=c6 at *
 have w1:IntKind.i64.wrap (1+c1)=1+c1:=by rw[IntKind.wrap_i64];omega
 have w2:IntKind.i64.wrap (1+c1+c2)=1+c1+c2:=by rw[IntKind.wrap_i64];omega
 have w3:IntKind.i64.wrap (1+c1+c2+c3)=1+c1+c2+c3:=by rw[IntKind.wrap_i64];omega
 have w4:IntKind.i64.wrap (1+c1+c2+c3+c4)=1+c1+c2+c3+c4:=by rw[IntKind.wrap_i64];omega
 have w5:IntKind.i64.wrap (1+c1+c2+c3+c4+c5)=1+c1+c2+c3+c4+c5:=by rw[IntKind.wrap_i64];omega
 have w6:IntKind.i64.wrap (1+c1+c2+c3+c4+c5+c6)=1+c1+c2+c3+c4+c5+c6:=by rw[IntKind.wrap_i64];omega
 simp[dlL,dlC]
 refine⟨by kernel_rfl,?_⟩
 apply aC q1<;>simp[w1]
 apply aC q2<;>simp[w2]
 apply aC q3<;>simp[w3]
 apply aC q4<;>simp[lvA,w4]
 apply aC q5<;>simp[dC,w5]
 apply aC q6<;>simp[dD,w6]
 exact⟨[],by simp⟩
theorem BI{d:Dl}{l:List Rl}(h:jR d+gJ fRr l 0<=300):1+d.t.size+d.b.size+d.p.size+d.s.length+lO d.m+kQ d.c+jA l<=300:=by
 unfold jR at h
 have h1:=tG d.t
 have h2:=tG d.b
 have h3:=d.p.cnt_ge 300 0 (by decide)
 have h4:1<=oX d.s:=by unfold oX;omega
 have h5:=kN BD d.m 0
 have h6:=kN BE d.c 0
 have h7:=kN IY l 0
 have e1:=yQ (t:=d.t) (by omega)
 have e2:=yQ (t:=d.b) (by omega)
 have e3:=Ts.cnt_eq d.p 300 0 (by decide) (by decide) (by omega)
 have e4:oX d.s=1+d.s.length:=by unfold oX at *;omega
 have e5:=tH (g:=λ a:Ts=>1+a.size) BD TO d.m 0 (by decide) (by omega)
 have e6:=tH (g:=λ a:Ct=>1+a.t.size) BE TQ d.c 0 (by decide) (by omega)
 have e7:=tH (g:=λ a:Rl=>1+(dI a.g+a.i.size)) IY TM l 0 (by decide) (by omega)
 unfold lO kQ jA
 omega
end
end Go.Proofs.YtlfnfiihfjggoaaGreatDoor
