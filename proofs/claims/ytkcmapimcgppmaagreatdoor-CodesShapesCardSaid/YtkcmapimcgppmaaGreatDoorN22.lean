/-
  Declarations as plain data, as cells; rows lifted, sorts, variables, applications: the program's, the document's. Conditions: no more than 1000000 nodes, levels, parts; numbers that a word holds. DERIVED: THE SHELF's CONTRACTS AT THIS DUMP, IN PLAIN WORDS (tools/lay-plain.mjs out of 'YtkcmapimcgppmaaGreatDoorLvp.lean', which tools/lay-shelf.mjs wrote): THE SAME DECLARATIONS UNDER THE SAME NAMES: 'import', 'namespace', 'open', 'def', 'theorem' AND NOTHING ELSE: no command of the shelf's: FOR A HAND-IN. Each laying: the table of numbers ('.._ren') and one theorem, a field a fact of the dump's own or the kernel's comparison; each contract: ONE APPLICATION. A map's sorted keys, at this dump. Conditions: as each states them. A level variable: the program's. Conditions: a number from 1 to 1048576. A level made of a map of one variable. Conditions: a number from 1 to 1048576. A level variable: the program's. Conditions: a number from 1 to 1048576. A level variable: the program's. Conditions: a number from 1 to 1048576. Constants at a block's params, index types, shapes: the program's, the document's. Conditions: no more than 1000 level variables, 100000 nodes; numbers that a word holds. Conditions: as each lemma states them.
-/
import Derived.Test.YtkcmapimcgppmaaGreatDoorN21
import Derived.Shelf.SlIterI.Nil
import Derived.Shelf.SortM.Plain
import Derived.Shelf.SortM.SortNone
import Derived.Ground.GgzProg
import Derived.Ground.SlgmProg
import Derived.Test.YtkcmapimcgppmaaGreatDoorProg
import Derived.Test.YtkcmapimcgppmaaGreatDoorN14
import Derived.Maps.Own
import Derived.Maps.OwnOps
import Derived.Maps.Views
import Derived.WalkKit
import Derived.Test.YtkcmapimcgppmaaGreatDoorN17
import Derived.Test.YtkcmapimcgppmaaGreatDoorN09
set_option linter.all false
set_option linter.unusedVariables false
set_option linter.unusedSimpArgs false
set_option linter.unnecessarySimpa false
section
namespace Go.Proofs.YtkcmapimcgppmaaGreatDoor
open Go.RowKit
attribute [local simp] ty_p ty_l ty_t kH tDs lvDs Tm.ts finH elemH ac_skip ac_label ac_region ac_seq ac_cond ac_block ac_loop ac_exit ac_ret seqK_n seqK_r seqK_e vo_nil vo_cons blkK loopK callOf vout aout abuiltin aslice ev startSt nmOf St.out putE updo upd contOf freshC K0 asC fillD fieldOf rowD astore aapp srcOf elsOf tb Dc.tk Dc.dp Dc.over Dc.app Dc.ln Dc.ds Dc.sing Dc.cont AV.cont Ds.hd Value.oneCell' retK resOf one1 AV.imp Dc.imp φOf calleeOf AV.isLL AV.list AV.app AV.arg AV.isL AV.ren Dc.ren Dc.lent tmC tmA tsA iA lo? abin AV.nth Dc.own Dc.toks stOf envOf bxOf τOf
attribute [local simp] AV.room amake agC lentAgC Ds.len Ds.dp

/-- A constructor. -/
structure Ct where
  m : Int
  t : Tm
/-- A declaration. -/
structure Dl where
  k : Int
  lv : Int
  t : Tm
  b : Tm
  p : Ts
  s : Lv
  m : List Ts
  c : List Ct
def ctDs : List Ct → Ds
  | [] => .nil
  | c :: r => .lit (.int .i64 c.m) (.lit (.int .i64 c.t.h.k) (.lit (.int .i64 c.t.h.n) (.lit (.int .i64 c.t.h.a) (.row 1 43 (lvDs ty c.t.h.l) .nil (.row 5 26 (tDs ty c.t.x) .nil (ctDs r))))))
theorem ctDs_len (l : List Ct) : (ctDs l).len = l.length * 6 := by
  induction l with
  | nil => rfl
  | cons a r ih => simp [ctDs, Ds.len, ih]; omega
def rulesDs : List Rl → Ds
  | [] => .nil
  | r :: l => .lit (.int .i64 r.m) (.row 9 82 (agDs r.g) .nil (.row 5 26 (tDs ty r.i) .nil (rulesDs l)))
theorem rulesDs_len (l : List Rl) : (rulesDs l).len = l.length * 3 := by
  induction l with
  | nil => rfl
  | cons a r ih => simp [rulesDs, Ds.len, ih]; omega
theorem rowsDs_len' (l : List Ts) : (rowsDs l).len = l.length := by
  induction l with
  | nil => rfl
  | cons a r ih => simp [rowsDs, Ds.len, ih]
def dlC (d : Dl) : Dc := .lit (.int .i64 d.k) (.lit (.int .i64 d.lv) (.lit (.int .i64 d.t.h.k) (.lit (.int .i64 d.t.h.n) (.lit (.int .i64 d.t.h.a) (.row none 1 43 (lvDs ty d.t.h.l) (.row none 5 26 (tDs ty d.t.x) (.lit (.int .i64 d.b.h.k) (.lit (.int .i64 d.b.h.n) (.lit (.int .i64 d.b.h.a) (.row none 1 43 (lvDs ty d.b.h.l) (.row none 5 26 (tDs ty d.b.x) (.row none 5 26 (tDs ty d.p) (.row none 2 77 (ptDs d.s) (.row none 1 80 (rowsDs d.m) (.row none 6 85 (ctDs d.c) .nil)))))))))))))))
def dlL (d : Dl) : AV := .agg (dlC d)
def rulesA (l : List Rl) : AV := .c (.row none 3 65 (rulesDs l) .nil)
/-- A sort. -/
def sortT (s : Lv) : Tm := ⟨⟨2, 0, 0, [s]⟩, .nil⟩
theorem k161 (s : Lv) (hs : s.length ≤ 1000000) : HH 161 [lvA s] (tmL (sortT s)) := by
  refine ab Tryz.func161 Tryz.ntmps161 Tryz.results161 rfl (by decide) (by simp) rfl rfl ?_
  simp [lvA]
  refine asks (k202 s (by omega)) ?_ ?_ ?_ <;> simp
  simp [sortT]
  exact ⟨[], by simp⟩
theorem k169 (s : Lv) (hs : s.length ≤ 1000000) : HH 169 [lvA s] (tmL (sortT s)) := by
  refine ab Tryz.func169 Tryz.ntmps169 Tryz.results169 rfl (by decide) (by simp) rfl rfl ?_
  simp [lvA]
  refine ⟨by rw [ptDs_len]; omega, ?_⟩
  simp [sortT, Ds.app_nil]
  exact ⟨[], by simp⟩
/-- A row, each of it lifted, from a variable on that goes up. -/
def liftsT (n : Int) : Nat → Ts → Ts
  | _, .nil => .nil
  | k, .cons h x r => .cons (Tm.lift ⟨h, x⟩ n k).h (Tm.lift ⟨h, x⟩ n k).x (liftsT n (k + 1) r)
theorem liftsT_app (n : Int) : ∀ (a b : Ts) (k : Nat), liftsT n k (a.app b) = (liftsT n k a).app (liftsT n (k + a.len) b)
  | .nil, b, k => rfl
  | .cons h x r, b, k => by
    simp only [Ts.app, liftsT, Ts.len]
    rw [liftsT_app n r b (k + 1), show k + 1 + r.len = k + (r.len + 1) by omega]
theorem liftsT_len (n : Int) : ∀ (a : Ts) (k : Nat), (liftsT n k a).len = a.len
  | .nil, _ => rfl
  | .cons h x r, k => by simp only [liftsT, Ts.len, liftsT_len n r]
theorem liftsT_size (n : Int) : ∀ (a : Ts) (k : Nat), (liftsT n k a).size = a.size
  | .nil, _ => rfl
  | .cons h x r, k => by
    have : Tm.size ⟨(Tm.lift ⟨h, x⟩ n k).h, (Tm.lift ⟨h, x⟩ n k).x⟩ = Tm.size ⟨h, x⟩ := lift_size ⟨h, x⟩ n k
    simp only [liftsT]
    rw [cons_size, cons_size, liftsT_size n r, this]
theorem liftsT_fits (n : Int) : ∀ (a : Ts) (k : Nat), a.fits → (liftsT n k a).fits
  | .nil, _, _ => trivial
  | .cons h x r, k, hf => ⟨(lift_fits (t := ⟨h, x⟩) n k ⟨hf.1, hf.2.1⟩).1, (lift_fits (t := ⟨h, x⟩) n k ⟨hf.1, hf.2.1⟩).2, liftsT_fits n r _ hf.2.2⟩
def st83 (t : Ts) (a : Ts) : St := stOf [(1, iA 1), (2, iA 0), (6, .c (.blk 25 (a.len + 1) 5 26 (.seg none (tDs ty (liftsT 1 0 a)) .nil) .nil)), (9, tsA none t), (10, iA t.len), (11, iA a.len)] [] [(25, a.len + 1)]
set_option maxRecDepth 10000 in
theorem k83 (t : Ts) (hf : t.fits) (hs : t.size ≤ 1000000) : HH 83 [tsA none t, iA 1, iA 0] (tsA none (liftsT 1 0 t)) := by
  have hil : t.len ≤ 1000000 := Nat.le_trans (len_le_size t) hs
  have d0 : t.len * 5 / 5 = t.len := by omega
  refine ab Tryz.func83 Tryz.ntmps83 Tryz.results83 rfl (by decide) (by simp) rfl rfl ?_
  simp [tDs_len, d0]
  refine lp (α := { q : Ts × Ts // q.1.app q.2 = t }) (fun q => st83 t q.1.1) (fun q => q.1.2.len) ⟨(.nil, t), rfl⟩ ?_ ?_
  · refine le_of [((25, 0), [(25, 0)])] ?_ ?_ ?_ <;> simp [AV.ok, Dc.ok, liftsT, Ts.len]
  · rintro ⟨⟨a, q⟩, hq⟩
    simp only at hq
    cases q with
    | nil =>
      have e : a = t := by rw [← hq]; exact (Ts.app_nil a).symm
      subst e
      simp [st83, Ds.app_nil]
      exact ⟨[], by simp⟩
    | cons h y q =>
      have h1 : a.len < t.len := by rw [← hq]; simp [Ts.app_len, Ts.len]
      have h2 : (tDs ty t).dp (a.len * 5) = tDs ty (.cons h y q) := by rw [← hq]; exact dp_mid a _
      have h3 : h.fits ∧ y.fits := app_fits (a := a) (by rw [hq]; exact hf)
      have h4 : lvSize h.l + y.size + 1 ≤ t.size := by rw [← hq]; exact app_size
      have hw : IntKind.i64.wrap ((a.len : Int) + 1) = a.len + 1 := by rw [IntKind.wrap_i64]; omega
      have hw0 : IntKind.i64.wrap (a.len : Int) = a.len := by rw [IntKind.wrap_i64]; omega
      have e1 : liftsT 1 0 (a.app (.cons h y .nil)) = (liftsT 1 0 a).app (.cons (Tm.lift ⟨h, y⟩ 1 (a.len : Nat)).h (Tm.lift ⟨h, y⟩ 1 (a.len : Nat)).x .nil) := by rw [liftsT_app, Nat.zero_add]; rfl
      have q1 := h60 ⟨h, y⟩ 1 (a.len : Nat) h3 (by unfold Tm.size; simp only; omega)
      generalize Tm.lift ⟨h, y⟩ 1 (a.len : Nat) = P at *
      simp [st83, h1, h2, hw0]
      refine ⟨by rw [tDs_len]; omega, ?_⟩
      refine asks q1 ?_ ?_ ?_ <;> simp
      refine ⟨by rw [tDs_len, liftsT_len]; omega, a.app (.cons h y .nil), q, by simp [Ts.len], by rw [Ts.app_assoc]; exact hq, ?_⟩
      refine le_of [((25, 0), [(25, 0)])] ?_ ?_ ?_ <;> simp [Ts.len, Ts.app_len, AV.ok, Dc.ok, hw, e1]
      rw [tDs_app]; rfl
def st170 (t : Ts) (a : Ts) : St := stOf [(0, tsA none t), (1, iA 1), (2, iA 0), (7, .c (.blk 27 (a.len + 1) 5 26 (.seg none (tDs ty (liftsT 1 0 a)) .nil) .nil)), (8, iA a.len)] [] [(27, a.len + 1)]
set_option maxRecDepth 10000 in
theorem k170 (t : Ts) (hf : t.fits) (hs : t.size ≤ 1000000) : HH 170 [tsA none t, iA 1, iA 0] (tsA none (liftsT 1 0 t)) := by
  have hil : t.len ≤ 1000000 := Nat.le_trans (len_le_size t) hs
  have d0 : t.len * 5 / 5 = t.len := by omega
  refine ab Tryz.func170 Tryz.ntmps170 Tryz.results170 rfl (by decide) (by simp) rfl rfl ?_
  simp
  refine lp (α := { q : Ts × Ts // q.1.app q.2 = t }) (fun q => st170 t q.1.1) (fun q => q.1.2.len) ⟨(.nil, t), rfl⟩ ?_ ?_
  · refine le_of [((27, 0), [(27, 0)])] ?_ ?_ ?_ <;> simp [AV.ok, Dc.ok, liftsT, Ts.len]
  · rintro ⟨⟨a, q⟩, hq⟩
    simp only at hq
    cases q with
    | nil =>
      have e : a = t := by rw [← hq]; exact (Ts.app_nil a).symm
      subst e
      simp [st170, tDs_len, d0, Ds.app_nil]
      exact ⟨[], by simp⟩
    | cons h y q =>
      have h1 : a.len < t.len := by rw [← hq]; simp [Ts.app_len, Ts.len]
      have h2 : (tDs ty t).dp (a.len * 5) = tDs ty (.cons h y q) := by rw [← hq]; exact dp_mid a _
      have h3 : h.fits ∧ y.fits := app_fits (a := a) (by rw [hq]; exact hf)
      have h4 : lvSize h.l + y.size + 1 ≤ t.size := by rw [← hq]; exact app_size
      have hw : IntKind.i64.wrap ((a.len : Int) + 1) = a.len + 1 := by rw [IntKind.wrap_i64]; omega
      have hw0 : IntKind.i64.wrap (a.len : Int) = a.len := by rw [IntKind.wrap_i64]; omega
      have e1 : liftsT 1 0 (a.app (.cons h y .nil)) = (liftsT 1 0 a).app (.cons (Tm.lift ⟨h, y⟩ 1 (a.len : Nat)).h (Tm.lift ⟨h, y⟩ 1 (a.len : Nat)).x .nil) := by rw [liftsT_app, Nat.zero_add]; rfl
      have q1 := h63 ⟨h, y⟩ 1 (a.len : Nat) h3 (by unfold Tm.size; simp only; omega)
      generalize Tm.lift ⟨h, y⟩ 1 (a.len : Nat) = P at *
      simp [st170, tDs_len, d0, h1, h2, hw0]
      refine ⟨by omega, ?_⟩
      refine asks q1 ?_ ?_ ?_ <;> simp
      refine ⟨by rw [tDs_len, liftsT_len]; omega, a.app (.cons h y .nil), q, by simp [Ts.len], by rw [Ts.app_assoc]; exact hq, ?_⟩
      refine le_of [((27, 0), [(27, 0)])] ?_ ?_ ?_ <;> simp [Ts.len, Ts.app_len, AV.ok, Dc.ok, hw, e1]
      rw [tDs_app]; rfl
/-- A term at arguments. -/
def appsT (f : Tm) : Ts → Tm
  | .nil => f
  | .cons h x r => appsT ⟨kH 6, .cons f.h f.x (.cons h x .nil)⟩ r
theorem appsT_app : ∀ (a : Ts) (f : Tm) (h : Hd) (x : Ts), appsT f (a.app (.cons h x .nil)) = ⟨kH 6, .cons (appsT f a).h (appsT f a).x (.cons h x .nil)⟩
  | .nil, _, _, _ => rfl
  | .cons _ _ r, f, h, x => appsT_app r _ h x
theorem appsT_size : ∀ (a : Ts) (f : Tm), (appsT f a).size ≤ f.size + 2 * a.size
  | .nil, f => by simp [appsT, Ts.size]
  | .cons h x r, f => by
    have h1 := appsT_size r ⟨kH 6, .cons f.h f.x (.cons h x .nil)⟩
    have h2 : Tm.size ⟨kH 6, .cons f.h f.x (.cons h x .nil)⟩ = f.size + 1 + (lvSize h.l + x.size + 1) := by simp [Tm.size, Ts.size, kH, lvSize]; omega
    rw [h2] at h1
    simp only [appsT, Ts.size] at h1 ⊢
    omega
theorem appsT_fits : ∀ (a : Ts) (f : Tm), f.fits → a.fits → (appsT f a).fits
  | .nil, _, h, _ => h
  | .cons h x r, f, hf, ha => appsT_fits r _ ⟨kH_fits (by decide), hf.1, hf.2, ha.1, ha.2.1, trivial⟩ ha.2.2
def st95 (f : Tm) (t a : Ts) : St := stOf [(2, .bx 3 0), (4, .bx 5 0), (9, tsA none t), (10, iA t.len), (11, iA a.len)] [(3, 26, tmC none none (appsT f a).h (appsT f a).x), (5, 26, zC)] []
set_option maxRecDepth 10000 in
theorem k95 (f : Tm) (t : Ts) (hf : f.fits) (hs : f.size ≤ 1000000) (ht : t.fits) (hts : t.size ≤ 1000000) : HH 95 [tmL f, tsA none t] (tmL (appsT f t)) := by
  have hil : t.len ≤ 1000000 := Nat.le_trans (len_le_size t) hts
  have d0 : t.len * 5 / 5 = t.len := by omega
  refine ab Tryz.func95 Tryz.ntmps95 Tryz.results95 rfl (by decide) (by simp) rfl rfl ?_
  simp
  refine asks (k167 f hf hs) ?_ ?_ ?_ <;> simp [tDs_len, d0]
  refine lp (α := { q : Ts × Ts // q.1.app q.2 = t }) (fun q => st95 f t q.1.1) (fun q => q.1.2.len) ⟨(.nil, t), rfl⟩ ?_ ?_
  · refine le_of [] ?_ ?_ ?_ <;> simp [AV.ok, Dc.ok, appsT, Ts.len]
  · rintro ⟨⟨a, q⟩, hq⟩
    simp only at hq
    cases q with
    | nil =>
      have e : a = t := by rw [← hq]; exact (Ts.app_nil a).symm
      subst e
      simp [st95]
      exact ⟨[], by simp⟩
    | cons h y q =>
      have h1 : a.len < t.len := by rw [← hq]; simp [Ts.app_len, Ts.len]
      have h2 : (tDs ty t).dp (a.len * 5) = tDs ty (.cons h y q) := by rw [← hq]; exact dp_mid a _
      have h3 : h.fits ∧ y.fits := app_fits (a := a) (by rw [hq]; exact ht)
      have h4 : lvSize h.l + y.size + 1 ≤ t.size := by rw [← hq]; exact app_size
      have hw : IntKind.i64.wrap ((a.len : Int) + 1) = a.len + 1 := by rw [IntKind.wrap_i64]; omega
      have e1 := appsT_app a f h y
      generalize appsT f a = A at *
      generalize appsT f (a.app (.cons h y .nil)) = B at *
      subst e1
      simp [st95, h1, h2]
      refine ⟨by rw [tDs_len]; omega, by kernel_rfl, ?_⟩
      refine asks (k167 ⟨h, y⟩ h3 (by unfold Tm.size; simp only; omega)) ?_ ?_ ?_ <;> simp
      refine ⟨a.app (.cons h y .nil), q, by simp [Ts.len], by rw [Ts.app_assoc]; exact hq, ?_⟩
      refine le_of [] ?_ ?_ ?_ <;> simp [Ts.len, Ts.app_len, AV.ok, Dc.ok, hw, appsT_app]
def st179 (f : Tm) (t a : Ts) : St := stOf [(1, tsA none t), (4, .bx 5 0), (5, .bx 6 0), (6, iA a.len)] [(5, 26, zC), (6, 26, tmC none none (appsT f a).h (appsT f a).x)] []
set_option maxRecDepth 10000 in
theorem k179 (f : Tm) (t : Ts) (hf : f.fits) (hs : f.size ≤ 1000000) (ht : t.fits) (hts : t.size ≤ 1000000) : HH 179 [tmL f, tsA none t] (tmL (appsT f t)) := by
  have hil : t.len ≤ 1000000 := Nat.le_trans (len_le_size t) hts
  have d0 : t.len * 5 / 5 = t.len := by omega
  refine ab Tryz.func179 Tryz.ntmps179 Tryz.results179 rfl (by decide) (by simp) rfl rfl ?_
  simp
  refine asks (h63' f hf (by omega)) ?_ ?_ ?_ <;> simp
  refine lp (α := { q : Ts × Ts // q.1.app q.2 = t }) (fun q => st179 f t q.1.1) (fun q => q.1.2.len) ⟨(.nil, t), rfl⟩ ?_ ?_
  · refine le_of [] ?_ ?_ ?_ <;> simp [AV.ok, Dc.ok, appsT, Ts.len]
  · rintro ⟨⟨a, q⟩, hq⟩
    simp only at hq
    cases q with
    | nil =>
      have e : a = t := by rw [← hq]; exact (Ts.app_nil a).symm
      subst e
      simp [st179, tDs_len, d0]
      exact ⟨[], by simp⟩
    | cons h y q =>
      have h1 : a.len < t.len := by rw [← hq]; simp [Ts.app_len, Ts.len]
      have h2 : (tDs ty t).dp (a.len * 5) = tDs ty (.cons h y q) := by rw [← hq]; exact dp_mid a _
      have h3 : h.fits ∧ y.fits := app_fits (a := a) (by rw [hq]; exact ht)
      have h4 : lvSize h.l + y.size + 1 ≤ t.size := by rw [← hq]; exact app_size
      have hw : IntKind.i64.wrap ((a.len : Int) + 1) = a.len + 1 := by rw [IntKind.wrap_i64]; omega
      have e1 := appsT_app a f h y
      generalize appsT f a = A at *
      generalize appsT f (a.app (.cons h y .nil)) = B at *
      subst e1
      simp [st179, tDs_len, d0, h1, h2]
      refine ⟨by kernel_rfl, by omega, ?_⟩
      refine asks (h63' ⟨h, y⟩ h3 (by unfold Tm.size; simp only; omega)) ?_ ?_ ?_ <;> simp
      refine ⟨a.app (.cons h y .nil), q, by simp [Ts.len], by rw [Ts.app_assoc]; exact hq, ?_⟩
      refine le_of [] ?_ ?_ ?_ <;> simp [Ts.len, Ts.app_len, AV.ok, Dc.ok, hw, appsT_app]
end Go.Proofs.YtkcmapimcgppmaaGreatDoor
end
section
namespace Go.Proofs
open Go.Shelf
def Tryz.keysA_ren : Go.Shelf.Ren := ⟨fun | 7 => 246 | 10 => 250 | n => n, fun | 23 => 272 | 26 => 3 | 3 => 3 | 28 => 284 | 0 => 0 | 27 => 283 | 33 => 286 | 4 => 4 | n => n, fun | n => n⟩
theorem Tryz.keysA : Go.Proofs.SlLaysZI.n7 Tryz.prog Tryz.keysA_ren := {
  mixed := by kernel_rfl
  f7 := ⟨Tryz.f246.name, by decide, Tryz.func246.trans (congrArg some (by kernel_rfl))⟩
  f10 := ⟨Tryz.f250.name, by decide, Tryz.func250.trans (congrArg some (by kernel_rfl))⟩
  t0 := Tryz.underlying0
  a0 := Tryz.isAgg0
  z0 := Tryz.sizeOf0
  v0 := Tryz.zeroValue0
  t4 := Tryz.underlying4
  a4 := Tryz.isAgg4
  z4 := Tryz.sizeOf4
  v4 := Tryz.zeroValue4
  t23 := Tryz.underlying272
  a23 := Tryz.isAgg272
  z23 := Tryz.sizeOf272
  v23 := Tryz.zeroValue272
  t26 := Tryz.underlying3
  a26 := Tryz.isAgg3
  z26 := Tryz.sizeOf3
  v26 := Tryz.zeroValue3
  t27 := Tryz.underlying283
  a27 := Tryz.isAgg283
  z27 := Tryz.sizeOf283
  v27 := Tryz.zeroValue283
  t28 := Tryz.underlying284
  a28 := Tryz.isAgg284
  z28 := Tryz.sizeOf284
  v28 := Tryz.zeroValue284
  t33 := Tryz.underlying286
  a33 := Tryz.isAgg286
  z33 := Tryz.sizeOf286
  v33 := Tryz.zeroValue286 }
def Tryz.sortedA_ren : Go.Shelf.Ren := ⟨fun | 6 => 245 | 8 => 248 | 9 => 249 | 11 => 251 | 13 => 253 | 12 => 252 | 23 => 263 | 24 => 264 | 14 => 254 | 15 => 255 | 16 => 256 | 17 => 257 | 18 => 258 | 19 => 259 | 20 => 260 | 21 => 261 | 22 => 262 | 25 => 265 | 26 => 266 | 27 => 267 | 28 => 268 | 29 => 269 | 30 => 270 | 31 => 271 | n => n, fun | 26 => 3 | 28 => 284 | 24 => 72 | 0 => 0 | 3 => 3 | 37 => 261 | 48 => 229 | 50 => 231 | 4 => 4 | 40 => 293 | 39 => 292 | 45 => 167 | 5 => 5 | 9 => 9 | 51 => 301 | 55 => 305 | 57 => 307 | 58 => 308 | 33 => 286 | n => n, fun | n => n⟩
theorem Tryz.sortedA : Go.Proofs.SlLaysZI.n6 Tryz.prog Tryz.sortedA_ren := {
  mixed := by kernel_rfl
  f6 := ⟨Tryz.f245.name, by decide, Tryz.func245.trans (congrArg some (by kernel_rfl))⟩
  f8 := ⟨Tryz.f248.name, by decide, Tryz.func248.trans (congrArg some (by kernel_rfl))⟩
  f11 := ⟨Tryz.f251.name, by decide, Tryz.func251.trans (congrArg some (by kernel_rfl))⟩
  t0 := Tryz.underlying0
  a0 := Tryz.isAgg0
  z0 := Tryz.sizeOf0
  v0 := Tryz.zeroValue0
  t24 := Tryz.underlying72
  a24 := Tryz.isAgg72
  z24 := Tryz.sizeOf72
  v24 := Tryz.zeroValue72
  t26 := Tryz.underlying3
  a26 := Tryz.isAgg3
  z26 := Tryz.sizeOf3
  v26 := Tryz.zeroValue3
  t28 := Tryz.underlying284
  a28 := Tryz.isAgg284
  z28 := Tryz.sizeOf284
  v28 := Tryz.zeroValue284
  i26 := by kernel_rfl }
def Tryz.sortA_ren : Go.Shelf.Ren := ⟨fun | 5 => 249 | 8 => 253 | 7 => 252 | 19 => 263 | 20 => 264 | 10 => 254 | 11 => 255 | 12 => 256 | 13 => 257 | 14 => 258 | 15 => 259 | 16 => 260 | 17 => 261 | 18 => 262 | 30 => 265 | 31 => 266 | 32 => 267 | 33 => 268 | 34 => 269 | 35 => 270 | 40 => 271 | n => n, fun | 23 => 72 | 25 => 3 | 3 => 3 | 32 => 261 | 22 => 72 | 0 => 0 | 44 => 229 | 46 => 231 | 4 => 4 | 36 => 293 | 35 => 292 | 41 => 167 | 5 => 5 | 9 => 9 | 53 => 301 | 57 => 305 | 63 => 307 | 64 => 308 | n => n, fun | n => n⟩
theorem Tryz.sortA : Go.Proofs.SlLaysM.n5 Tryz.prog Tryz.sortA_ren := {
  mixed := by kernel_rfl
  f5 := ⟨Tryz.f249.name, by decide, Tryz.func249.trans (congrArg some (by kernel_rfl))⟩
  f7 := ⟨Tryz.f252.name, by decide, Tryz.func252.trans (congrArg some (by kernel_rfl))⟩
  f8 := Tryz.func253.trans (congrArg some (by kernel_rfl))
  f10 := ⟨Tryz.f254.name, by decide, Tryz.func254.trans (congrArg some (by kernel_rfl))⟩
  f11 := ⟨Tryz.f255.name, by decide, Tryz.func255.trans (congrArg some (by kernel_rfl))⟩
  f12 := ⟨Tryz.f256.name, by decide, Tryz.func256.trans (congrArg some (by kernel_rfl))⟩
  f13 := ⟨Tryz.f257.name, by decide, Tryz.func257.trans (congrArg some (by kernel_rfl))⟩
  f14 := ⟨Tryz.f258.name, by decide, Tryz.func258.trans (congrArg some (by kernel_rfl))⟩
  f15 := ⟨Tryz.f259.name, by decide, Tryz.func259.trans (congrArg some (by kernel_rfl))⟩
  f16 := ⟨Tryz.f260.name, by decide, Tryz.func260.trans (congrArg some (by kernel_rfl))⟩
  f17 := ⟨Tryz.f261.name, by decide, Tryz.func261.trans (congrArg some (by kernel_rfl))⟩
  f18 := ⟨Tryz.f262.name, by decide, Tryz.func262.trans (congrArg some (by kernel_rfl))⟩
  f19 := Tryz.func263.trans (congrArg some (by kernel_rfl))
  f20 := Tryz.func264.trans (congrArg some (by kernel_rfl))
  f30 := ⟨Tryz.f265.name, by decide, Tryz.func265.trans (congrArg some (by kernel_rfl))⟩
  f31 := Tryz.func266.trans (congrArg some (by kernel_rfl))
  f32 := Tryz.func267.trans (congrArg some (by kernel_rfl))
  f33 := ⟨Tryz.f268.name, by decide, Tryz.func268.trans (congrArg some (by kernel_rfl))⟩
  f34 := ⟨Tryz.f269.name, by decide, Tryz.func269.trans (congrArg some (by kernel_rfl))⟩
  f35 := ⟨Tryz.f270.name, by decide, Tryz.func270.trans (congrArg some (by kernel_rfl))⟩
  f40 := ⟨Tryz.f271.name, by decide, Tryz.func271.trans (congrArg some (by kernel_rfl))⟩
  t0 := Tryz.underlying0
  a0 := Tryz.isAgg0
  z0 := Tryz.sizeOf0
  v0 := Tryz.zeroValue0
  t3 := Tryz.underlying3
  a3 := Tryz.isAgg3
  z3 := Tryz.sizeOf3
  v3 := Tryz.zeroValue3
  t4 := Tryz.underlying4
  a4 := Tryz.isAgg4
  z4 := Tryz.sizeOf4
  v4 := Tryz.zeroValue4
  t5 := Tryz.underlying5
  a5 := Tryz.isAgg5
  z5 := Tryz.sizeOf5
  v5 := Tryz.zeroValue5
  t9 := Tryz.underlying9
  a9 := Tryz.isAgg9
  z9 := Tryz.sizeOf9
  v9 := Tryz.zeroValue9
  t22 := Tryz.underlying72
  a22 := Tryz.isAgg72
  z22 := Tryz.sizeOf72
  v22 := Tryz.zeroValue72
  t23 := Tryz.underlying72
  a23 := Tryz.isAgg72
  z23 := Tryz.sizeOf72
  v23 := Tryz.zeroValue72
  t25 := Tryz.underlying3
  a25 := Tryz.isAgg3
  z25 := Tryz.sizeOf3
  v25 := Tryz.zeroValue3
  t32 := Tryz.underlying261
  a32 := Tryz.isAgg261
  z32 := Tryz.sizeOf261
  v32 := Tryz.zeroValue261
  t35 := Tryz.underlying292
  a35 := Tryz.isAgg292
  z35 := Tryz.sizeOf292
  v35 := Tryz.zeroValue292
  t36 := Tryz.underlying293
  a36 := Tryz.isAgg293
  z36 := Tryz.sizeOf293
  v36 := Tryz.zeroValue293
  t41 := Tryz.underlying167
  a41 := Tryz.isAgg167
  z41 := Tryz.sizeOf167
  v41 := Tryz.zeroValue167
  t44 := Tryz.underlying229
  a44 := Tryz.isAgg229
  z44 := Tryz.sizeOf229
  v44 := Tryz.zeroValue229
  t46 := Tryz.underlying231
  a46 := Tryz.isAgg231
  z46 := Tryz.sizeOf231
  v46 := Tryz.zeroValue231
  t53 := Tryz.underlying301
  a53 := Tryz.isAgg301
  z53 := Tryz.sizeOf301
  v53 := Tryz.zeroValue301
  t57 := Tryz.underlying305
  a57 := Tryz.isAgg305
  z57 := Tryz.sizeOf305
  v57 := Tryz.zeroValue305
  t63 := Tryz.underlying307
  a63 := Tryz.isAgg307
  z63 := Tryz.sizeOf307
  v63 := Tryz.zeroValue307
  t64 := Tryz.underlying308
  a64 := Tryz.isAgg308
  z64 := Tryz.sizeOf308
  v64 := Tryz.zeroValue308 }
end Go.Proofs
end
section
namespace Go.Proofs
open Go.RowKit Go.Maps Go.Sort Go.Shelf

theorem Tryz.sortsA (m : Nat) : AnyZI.SortsIn Tryz.prog Tryz.sortedA_ren Fence.wide m :=
  ⟨fun blk off cap ss W hH hblk hsz => callsIn_wide.2 (AnyM.slices_Sort_int Tryz.sortA blk off cap ss W hH hblk hsz),
   fun p cap W => callsIn_wide.2 (AnyM.slices_Sort_int_none Tryz.sortA p cap W)⟩
theorem Tryz.keys_calls (mb : Option Nat) (W : World) : Calls Tryz.prog 246 #[.map mb] W fun e w' => e = .returned (.func (.func 250) #[] #[.pointer (some ⟨W.heap.size, 0, none⟩)]) ∧ w' = W.alloc (.cells #[.map mb] 272) :=
  (callsIn_wide (n := 5)).1 (AnyZI.keys_in Tryz.keysA Fence.wide 5 trivial rfl mb W)
set_option maxHeartbeats 1000000 in
theorem Tryz.sorted_calls {H : Type} (b nn : Nat) (D0 : DataW H) (R : Value → Option (DataW H × List MemPlace)) (w : World) (hown : w.ownsMap Tryz.prog 3 R b nn D0) (hmax : Maps.size D0 ≤ maxLen) (hbytes : Maps.size D0 * 8 ≤ 140737488355328) :
    Calls Tryz.prog 245 #[.func (.func 250) #[] #[.pointer (some ⟨w.heap.size, 0, none⟩)]] (w.alloc (.cells #[.map (some b)] 272)) fun e w' => ∃ (v : Value) (ss : List Int), e = .returned v ∧ ss.Perm (intKeys D0) ∧
      w'.ownsRow (w.alloc (.cells #[.map (some b)] 272)).heap.size 3 1 v ss.length ((ss.mergeSort (fun x y => decide (x ≤ y))).map encZ) ∧ (v = .slice none 0 0 ↔ ss = []) ∧ Below (w.alloc (.cells #[.map (some b)] 272)).heap.size (w.alloc (.cells #[.map (some b)] 272)) w' := by
  have hbl := hown.lt
  have hseq : SeqGives Fence.wide 2 Tryz.prog 250 #[.pointer (some ⟨w.heap.size, 0, none⟩)] encZ (fun ss => ss.Perm (intKeys D0)) (Maps.size D0) (w.alloc (.cells #[.map (some b)] 272)) :=
    AnyZI.keys_gives (ρ := Tryz.keysA_ren) { Tryz.keysA with } Fence.wide _ trivial rfl (by omega) w.heap.size b nn D0 _ (by simp) (by simp) (by
      obtain ⟨es, clock, hb, Ft, hs, hD⟩ := hown
      exact ⟨es, clock, (Below.heap_alloc _ _ b hbl).trans hb, Ft, hs, hD⟩)
  exact (callsIn_wide (n := 5)).1 (AnyZI.sorted_in Tryz.sortedA Fence.wide 5 trivial trivial trivial trivial rfl (by omega) (Tryz.sortsA _) (enters_of Tryz.func249 (by kernel_rfl) rfl) 250 #[.pointer (some ⟨w.heap.size, 0, none⟩)] trivial (enters_of Tryz.func250 (by kernel_rfl) rfl) _ _ hmax hbytes _ hseq)
end Go.Proofs
end
section
namespace Go.Proofs.YtkcmapimcgppmaaGreatDoor
open Go.RowKit Go.Maps

theorem mapLaw : Keyed Tryz.prog 3 := int_keyed Tryz.underlying3
theorem zero3 (w : World) : (zeroValue 3).run Tryz.prog w = .ok (.int .i64 0) w := by kernel_rfl
abbrev mapAt (w : World) (b n : Nat) (D : DataW Unit) : Prop := w.ownsMap Tryz.prog 3 (plainElem Tryz.prog 3) b n D
/-- The map of one variable. -/
def oneD (v : Int) : DataW Unit := (DataW.map []).put (.int .i64 v) (.lit (.int .i64 0))
theorem at_none (v c : Int) (h : (DataW.map [] : DataW Unit).atKey (.int .i64 v) (.lit (.int .i64 0)) = .lit (.int .i64 c)) : c = 0 := by
  have h9 : (DataW.lit (.int .i64 0) : DataW Unit) = .lit (.int .i64 c) := h
  injection h9 with h9
  injection h9 with _ h9
  exact h9.symm
theorem wf_v {v : Int} (h1 : 0 < v) (h2 : v ≤ 1048576) : (Lit.int .i64 v).wf = true := WalkArith.wf_i64 (by omega)
set_option maxRecDepth 100000 in
set_option maxHeartbeats 2000000 in
theorem rowPut_any (v : Int) (h1 : 0 < v) (h2 : v ≤ 1048576) (b gb o cap : Nat) (w : World) (hown : mapAt w b 0 (.map [])) (hgb : gb < w.heap.size) (hc0 : w.cell? ⟨gb, o, none⟩ = some (.int .i64 v)) (hc1 : w.cell? ⟨gb, o + 1, none⟩ = some (.int .i64 0)) :
    Calls Tryz.prog 242 #[.agg #[.map (some b)], .slice (some ⟨gb, o, none⟩) 1 cap] w fun e w' => e = .returned (.tuple #[]) ∧ mapAt w' b 1 (oneD v) ∧ (∀ B, B ≤ b → B ≤ w.heap.size → Below B w w') ∧ ∀ k, k < w.heap.size → k ≠ b → w'.heap[k]? = w.heap[k]? := by
  have hkey : keyOf Tryz.prog 3 (.int .i64 v) = some (.int .i64 v) := keyOf_int_mk Tryz.underlying3 (wf_v h1 h2)
  have g1 : decide (v < 0) = false := decide_eq_false (by omega)
  have g2 : decide (1048576 < v) = false := decide_eq_false (by omega)
  obtain ⟨w1, hw1⟩ : ∃ w1, w.alloc (.cells #[.map (some b)] 274) = w1 := ⟨_, rfl⟩
  have hb1 : Below w.heap.size w w1 := by rw [← hw1]; exact below_alloc _ _
  have hs1 : w1.heap.size = w.heap.size + 1 := by rw [← hw1]; simp
  have c0 : w1.cell? ⟨gb, o, none⟩ = some (.int .i64 v) := (hb1.cell hgb).trans hc0
  have c1 : w1.cell? ⟨gb, o + 1, none⟩ = some (.int .i64 0) := (hb1.cell hgb).trans hc1
  have cm : w1.cell? ⟨w.heap.size, 0, none⟩ = some (.map (some b)) := U_cell (by rw [← hw1]; exact laid_cell rfl)
  have hm1 : mapAt w1 b 0 (.map []) := by rw [← hw1]; exact hown.alloc _
  have hm2 : mapAt (w1.alloc (.cells #[.int .i64 v, .int .i64 0] 77)) b 0 (.map []) := hm1.alloc _
  have hb2 : Below w.heap.size w (w1.alloc (.cells #[.int .i64 v, .int .i64 0] 77)) := below_step hb1 (below_alloc _ _)
  have HB := Lib.hid hb2
  clear hb1 hb2 hm1 hc0 hc1 hown
  go_enter Tryz.func242, Tryz.ntmps242
  go_wp2_with fail
  refine wp_loop_rounds 2 ?_
  rw [rounds_succ]
  go_wp2_with (first
    | (at_lookup; refine wpList_lookup_own_int _ rfl _ _ 272 rfl 3 3 .i64 mapLaw Tryz.underlying272 Tryz.underlying3 (zero3 _) b 0 _ rfl hm2 _ _ rfl hkey ?_; intro c hat hwc; obtain rfl := at_none _ _ hat)
    | (at_mapUpdate; refine wpList_mapUpdate_own _ rfl _ _ _ 272 rfl 3 3 mapLaw Tryz.underlying272 _ b 0 _ rfl hm2 (by unfold maxLen; omega) _ _ _ rfl rfl hkey _ [] (plainElem_int Tryz.underlying3 (by decide)) ?_; intro w3 hown1 hgrow1)
    | go_in)
  rw [rounds_succ]
  go_wp2_with fail
  go_end0
  exact ⟨rfl, hown1, fun B hB1 hB2 => (HB.out.mono hB2).grown hgrow1 (Nat.le_trans hB2 HB.out.size) (fun j hj => by cases hj; exact hB1), fun k hk hne => (hgrow1.block k (Nat.lt_of_lt_of_le hk HB.out.size) (fun e => hne (by cases e; rfl))).trans (HB.out.block k hk)⟩
/-- Level.of's body: at one variable. -/
theorem ofBody_any (v : Int) (h1 : 0 < v) (h2 : v ≤ 1048576) (b lb lo lc gb o gc : Nat) (w : World) (hown : mapAt w b 0 (.map [])) (hlb : lb < w.heap.size) (hgb : gb < w.heap.size) (rb : Nat) (hrb : rb < w.heap.size) (hr : w.cell? ⟨rb, 0, none⟩ = some (.slice (some ⟨lb, lo, none⟩) 1 lc)) (hl : w.cell? ⟨lb, lo, none⟩ = some (.slice (some ⟨gb, o, none⟩) 1 gc))
    (hc0 : w.cell? ⟨gb, o, none⟩ = some (.int .i64 v)) (hc1 : w.cell? ⟨gb, o + 1, none⟩ = some (.int .i64 0)) :
    Calls Tryz.prog 241 #[.agg #[.map (some b)], .pointer (some ⟨rb, 0, none⟩)] w fun e w' => e = .returned (.tuple #[]) ∧ mapAt w' b 1 (oneD v) ∧ (∀ B, B ≤ b → B ≤ w.heap.size → Below B w w') ∧ ∀ k, k < w.heap.size → k ≠ b → w'.heap[k]? = w.heap[k]? := by
  obtain ⟨w1, hw1⟩ : ∃ w1, w.alloc (.cells #[.map (some b)] 276) = w1 := ⟨_, rfl⟩
  have hb1 : Below w.heap.size w w1 := by rw [← hw1]; exact below_alloc _ _
  have hs1 : w1.heap.size = w.heap.size + 1 := by rw [← hw1]; simp
  have r1 : w1.cell? ⟨rb, 0, none⟩ = some (.slice (some ⟨lb, lo, none⟩) 1 lc) := (hb1.cell hrb).trans hr
  have l1 : w1.cell? ⟨lb, lo, none⟩ = some (.slice (some ⟨gb, o, none⟩) 1 gc) := (hb1.cell hlb).trans hl
  have cm : w1.cell? ⟨w.heap.size, 0, none⟩ = some (.map (some b)) := U_cell (by rw [← hw1]; exact laid_cell rfl)
  obtain ⟨w2, hw2⟩ : ∃ w2, w1.alloc (.cells #[.slice (some ⟨gb, o, none⟩) 1 gc] 43) = w2 := ⟨_, rfl⟩
  have hb2 : Below w.heap.size w w2 := by rw [← hw2]; exact below_step hb1 (below_alloc _ _)
  have hs2 : w2.heap.size = w.heap.size + 1 + 1 := by rw [← hw2]; simp [hs1]
  have cm2 : w2.cell? ⟨w.heap.size, 0, none⟩ = some (.map (some b)) := by rw [← hw2]; exact (Below.cell (p := ⟨w.heap.size, 0, none⟩) (below_alloc w1 _) (by show w.heap.size < w1.heap.size; omega)).trans cm
  have l2 : w2.cell? ⟨w.heap.size + 1, 0, none⟩ = some (.slice (some ⟨gb, o, none⟩) 1 gc) := by
    have := laid_cell (w := w1) (cs := #[.slice (some ⟨gb, o, none⟩) 1 gc]) (ty := 43) (o := 0) rfl
    rw [hs1, hw2] at this
    exact U_cell this
  have hm2 : mapAt w2 b 0 (.map []) := by rw [← hw2, ← hw1]; exact (hown.alloc _).alloc _
  have HC := Lib.hid (rowPut_any v h1 h2 b gb o gc w2 hm2 (by omega) ((hb2.cell hgb).trans hc0) ((hb2.cell hgb).trans hc1))
  have HB := Lib.hid hb2
  clear hb1 hb2 hm2 hc0 hc1 hown hr hl
  go_enter Tryz.func241, Tryz.ntmps241
  go_wp2_with fail
  refine wp_loop_rounds 2 ?_
  rw [rounds_succ]
  go_wp2_with fail
  refine HC.out.mono ?_
  rintro e w3 ⟨rfl, h3, h4, h5⟩
  have H3 := Lib.hid h3
  have H4 := Lib.hid h4
  have H5 := Lib.hid h5
  clear h3 h4 h5
  go_wp2_with fail
  rw [rounds_succ]
  go_wp2_with fail
  go_end0
  exact ⟨rfl, H3.out, fun B hB1 hB2 => (HB.out.mono hB2).trans (H4.out B hB1 (Nat.le_trans hB2 HB.out.size)), fun k hk hne => (H5.out k (Nat.lt_of_lt_of_le hk HB.out.size) hne).trans (HB.out.block k hk)⟩
end Go.Proofs.YtkcmapimcgppmaaGreatDoor
end
section
namespace Go.Proofs.YtkcmapimcgppmaaGreatDoor
open Go.RowKit Go.Maps

theorem map_on {w w' : World} {b n B : Nat} {D : DataW Unit} (h : mapAt w b n D) (hb : Below B w w') (hlt : b < B) : mapAt w' b n D := by
  obtain ⟨es, clock, h1, Ft, hs, hD⟩ := h
  exact ⟨es, clock, by rw [← h1]; exact hb.block b hlt, Ft, hs, hD⟩
theorem keys_one (v : Int) : intKeys (oneD v) = [v] := rfl
theorem at_one (v c : Int) (h : (oneD v).atKey (.int .i64 v) (.lit (.int .i64 0)) = .lit (.int .i64 c)) : c = 0 := by
  have e : (oneD v).atKey (.int .i64 v) (.lit (.int .i64 0)) = .lit (.int .i64 0) := by
    unfold oneD
    exact atKey_put_same ⟨[], rfl⟩ (show WideAt.IsKeyLit (.int .i64 v) from trivial) _ _
  rw [e] at h
  injection h with h9
  injection h9 with _ h9
  exact h9.symm
theorem one_row {w : World} {base : Nat} {u : Value} {v : Int} (h : w.ownsRow base 3 1 u 1 [.int .i64 v]) : ∃ g cap, u = .slice (some ⟨g, 0, none⟩) 1 cap ∧ base ≤ g ∧ w.cell? ⟨g, 0, none⟩ = some (.int .i64 v) := by
  obtain ⟨h1, ⟨e2, h3, -⟩ | ⟨g0, cap, cur, e2, h4, e3, -, -, -, e4⟩⟩ := h
  subst e2
  exact ⟨g0, cap, rfl, h4, U_cell (row_cell e3 (by rw [h1]; exact e4) 0 _ rfl)⟩
set_option maxRecDepth 100000 in
set_option maxHeartbeats 2000000 in
theorem level_any (v : Int) (h1 : 0 < v) (h2 : v ≤ 1048576) (b : Nat) (w : World) (hown : mapAt w b 1 (oneD v)) :
    Calls Tryz.prog 244 #[.agg #[.map (some b)]] w fun e w' => ∃ u, e = .returned (.agg #[u]) ∧ RowG w' (w.heap.size + 2) 2 77 u 1 (ptDs [(v, 0)]) [] ∧ Below w.heap.size w w' := by
  have hkey : keyOf Tryz.prog 3 (.int .i64 v) = some (.int .i64 v) := keyOf_int_mk Tryz.underlying3 (wf_v h1 h2)
  have g1 : decide (0 < v) = true := decide_eq_true h1
  have hbl := hown.lt
  obtain ⟨w2, hw2⟩ : ∃ w2, (w.alloc (.cells #[.map (some b)] 276)).alloc (.cells #[.slice none 0 0] 43) = w2 := ⟨_, rfl⟩
  have hb2 : Below w.heap.size w w2 := by rw [← hw2]; exact below_step (below_alloc _ _) (below_alloc _ _)
  have hs2 : w2.heap.size = w.heap.size + 2 := by rw [← hw2]; simp
  have p1 : U w2 w.heap.size 0 = some (.map (some b)) := by rw [← hw2]; exact U_below (below_alloc _ _) _ _ _ (by simp) (laid_cell rfl)
  have p2 : U w2 (w.heap.size + 1) 0 = some (.slice none 0 0) := by
    have := laid_cell (w := w.alloc (.cells #[.map (some b)] 276)) (cs := #[.slice none 0 0]) (ty := 43) (o := 0) rfl
    rw [World.size_alloc, hw2] at this
    exact this
  have hm2 : mapAt w2 b 1 (oneD v) := map_on hown hb2 hbl
  obtain ⟨w3, hw3⟩ : ∃ w3, w2.alloc (.cells #[.map (some b)] 272) = w3 := ⟨_, rfl⟩
  have hb3 : Below w2.heap.size w2 w3 := by rw [← hw3]; exact below_alloc _ _
  have HK := Lib.hid (Tryz.keys_calls (some b) w2)
  have HS := Lib.hid (Tryz.sorted_calls b 1 (oneD v) _ w2 hm2 (by show 1 ≤ maxLen; decide) (by show 1 * 8 ≤ 140737488355328; decide))
  rw [hw3, hs2] at HK
  rw [hw3, hs2] at HS
  have c1 := U_cell p1
  have c2 := U_cell p2
  have HB2 := Lib.hid hb2
  have HB3 := Lib.hid hb3
  have HM2 := Lib.hid hm2
  have HP1 := Lib.hid p1
  have HP2 := Lib.hid p2
  clear hown hb2 hb3 hm2 p1 p2
  go_enter Tryz.func244, Tryz.ntmps244
  go_wp2_with fail
  refine HK.out.mono ?_
  rintro e w3 ⟨rfl, rfl⟩
  go_wp2_with fail
  refine HS.out.mono ?_
  rintro e w5 ⟨u, ss, rfl, hperm, hrow, -, hb5⟩
  rw [keys_one] at hperm
  obtain rfl := List.perm_singleton.1 hperm
  rw [List.mergeSort_singleton] at hrow
  obtain ⟨g, cap, rfl, hge, hcg⟩ := one_row hrow
  have hB5 := below_step (below_step HB2.out HB3.out) (hb5.mono (Nat.le_refl _))
  have hlt3 : w.heap.size + 2 < w3.heap.size := by rw [← hw3]; simp [hs2]
  have p1 : U w5 w.heap.size 0 = some (.map (some b)) := U_below hb5 _ _ _ (by omega) (U_below HB3.out _ _ _ (by omega) HP1.out)
  have p2 : U w5 (w.heap.size + 1) 0 = some (.slice none 0 0) := U_below hb5 _ _ _ (by omega) (U_below HB3.out _ _ _ (by omega) HP2.out)
  have d1 := U_cell p1
  have d2 := U_cell p2
  have hm5 : mapAt w5 b 1 (oneD v) := map_on (map_on HM2.out HB3.out (by omega)) hb5 (by omega)
  obtain ⟨v2, w7, hrun7, hR7, hg7, -⟩ := RowG.append (P := Tryz.prog) (t := 41) (ty := 41) elP (RowG.nil (w5.alloc (.cells #[.int .i64 v, .int .i64 0] 77)) (w.heap.size + 2) 2 77) (m0 := 0) (by simp [Value.ownBlock]) (y := ptDs [(v, 0)]) (ys := [.int .i64 v, .int .i64 0]) (S2 := []) ⟨_, rfl, _, rfl, rfl, rfl⟩ (by simp) (by simp) ⟨rfl, rfl, trivial⟩ ⟨w5.heap.size, 0, none⟩ 1 rfl (new_cells w5 _ 77) (by omega) (by have := hb5.size; simp; omega)
  have hB7 : Below w5.heap.size w5 w7 := (below_alloc w5 (.cells #[.int .i64 v, .int .i64 0] 77)).grown hg7 (by simp) (by simp [Value.ownBlock])
  have q1 : U w7 w.heap.size 0 = some (.map (some b)) := U_below hB7 _ _ _ (U_lt p1) p1
  have q2 : U w7 (w.heap.size + 1) 0 = some (.slice none 0 0) := U_below hB7 _ _ _ (U_lt p2) p2
  have e1 := U_cell q1
  have e2 := U_cell q2
  have e3 := U_frozen q2
  have q3 := U_set_same (v := v2) q2
  have e4 := U_cell q3
  have e5 := U_frozen q3
  have q4 := U_set_same (v := v2) q3
  have e6 := U_cell q4
  have HR7 := Lib.hid hR7
  have HB7 := Lib.hid (hB5.trans (hB7.mono hB5.size))
  obtain ⟨pp, cc, rfl, -, -⟩ := hR7.cap
  clear p1 p2 q1 q2 q3 q4 hR7 hB7 hB5 hg7 hrow hb5 HK HS HM2 HP1 HP2 HB3 HB2
  go_wp2_with fail
  refine wp_loop_rounds 2 ?_
  rw [rounds_succ]
  go_wp2_with (first
    | (at_lookup; refine wpList_lookup_own_int _ rfl _ _ 272 rfl 3 3 .i64 mapLaw Tryz.underlying272 Tryz.underlying3 (zero3 _) b 1 _ rfl hm5 _ _ rfl hkey ?_; intro c hat hwc; obtain rfl := at_one _ _ hat)
    | (at_builtin; refine wpList_append_run rfl _ _ 41 rfl _ _ _ rfl rfl hrun7 ?_)
    | go_in)
  rw [rounds_succ]
  go_wp2_with fail
  refine bodyPost_ret (v := .agg #[.slice pp (0 + 1) cc]) (by simp [results, Tryz.results244, go_sem]; first | exact e6 | simp [e6] | (trace_state; skip)) rfl ⟨_, rfl, ((HR7.out.setCell (p := ⟨w.heap.size + 1, 0, none⟩) (Nat.lt_succ_self _) _).setCell (p := ⟨w.heap.size + 1, 0, none⟩) (Nat.lt_succ_self _) _), (HB7.out.setCell (p := ⟨w.heap.size + 1, 0, none⟩) (Nat.le_succ _) _).setCell (p := ⟨w.heap.size + 1, 0, none⟩) (Nat.le_succ _) _⟩
end Go.Proofs.YtkcmapimcgppmaaGreatDoor
end
section
namespace Go.Proofs.YtkcmapimcgppmaaGreatDoor
open Go.RowKit Go.Maps

set_option maxRecDepth 100000 in
set_option maxHeartbeats 1000000 in
theorem catchL_idle (p : Addr) (w : World) :
    CallsD Tryz.prog 243 #[.pointer (some p)] .returning w fun e u' w' => e = .returned (.tuple #[]) ∧ u' = .returning ∧ w' = w := by
  refine callsD_of_wpS Tryz.func243 rfl fun c₀ cs hu => ?_
  apply wpS_seq
  apply wpS_region
  simp [wpOpsS, go_sem, recoverD, hu, Tryz.ntmps243, Exit.thenS]
  refine wpS_of_wp (wp_mono (Q := fun e a w' => e = .normal ∧ a.defers = [] ∧ w' = w) ?_ ?_)
  · clear hu
    rw [show #[Value.pointer (some p)] ++ ((Array.replicate 15 undef).setIfInBounds 3 Value.nilIface).setIfInBounds 0 Value.nilIface = #[Value.pointer (some p), Value.nilIface, undef, undef, Value.nilIface, undef, undef, undef, undef, undef, undef, undef, undef, undef, undef, undef] from rfl]
    go_wp2
  · rintro e a w' ⟨rfl, hd, rfl⟩
    cases c₀
    simp_all [bodyPostS, results, Tryz.results243]
set_option maxRecDepth 100000 in
set_option maxHeartbeats 2000000 in
theorem made_any (v : Int) (h1 : 0 < v) (h2 : v ≤ 1048576) (lb lo lc gb o gc rb : Nat) (w : World) (hlb : lb < w.heap.size) (hgb : gb < w.heap.size) (hrb : rb < w.heap.size) (hr : w.cell? ⟨rb, 0, none⟩ = some (.slice (some ⟨lb, lo, none⟩) 1 lc)) (hl : w.cell? ⟨lb, lo, none⟩ = some (.slice (some ⟨gb, o, none⟩) 1 gc))
    (hc0 : w.cell? ⟨gb, o, none⟩ = some (.int .i64 v)) (hc1 : w.cell? ⟨gb, o + 1, none⟩ = some (.int .i64 0)) :
    Calls Tryz.prog 240 #[.func (.func 241) #[] #[.pointer (some ⟨rb, 0, none⟩)]] w fun e w' => ∃ u B, e = .returned (.agg #[u]) ∧ w.heap.size < B ∧ RowG w' B 2 77 u 1 (ptDs [(v, 0)]) [] ∧ Below w.heap.size w w' := by
  have hmf : ∀ (fn : Fn) (first cap : Array Value) (w : World), (Instr.makeFunc fn first cap).run Tryz.prog w = .ok (.func fn first cap) w := fun _ _ _ _ => rfl
  have hmm := @run_makeMap Tryz.prog
  have hcf : ∀ (u : Value) w, (callFunc 241 #[u, .pointer (some ⟨rb, 0, none⟩)]).run Tryz.prog w = .ok (.enter 241 #[u, .pointer (some ⟨rb, 0, none⟩)]) w := fun u w => by simp [callFunc, Tryz.func241]; rfl
  obtain ⟨w3, hw3⟩ : ∃ w3, (((w.alloc (.cells #[.slice none 0 0] 43)).alloc (.map #[] 0)).alloc (.cells #[.map (some (w.heap.size + 1))] 276)) = w3 := ⟨_, rfl⟩
  have hb3 : Below w.heap.size w w3 := by rw [← hw3]; exact below_step (below_step (below_alloc _ _) (below_alloc _ _)) (below_alloc _ _)
  have hs3 : w3.heap.size = w.heap.size + 3 := by rw [← hw3]; simp
  have p0 : U w3 w.heap.size 0 = some (.slice none 0 0) := by
    rw [← hw3]
    exact U_below (below_alloc _ _) _ _ _ (by simp; omega) (U_below (below_alloc _ _) _ _ _ (by simp) (laid_cell rfl))
  have p2 : U w3 (w.heap.size + 1 + 1) 0 = some (.map (some (w.heap.size + 1))) := by
    have := laid_cell (w := (w.alloc (.cells #[.slice none 0 0] 43)).alloc (.map #[] 0)) (cs := #[.map (some (w.heap.size + 1))]) (ty := 276) (o := 0) rfl
    rw [World.size_alloc, World.size_alloc, hw3] at this
    exact this
  have hm3 : mapAt w3 (w.heap.size + 1) 0 (.map []) := by
    have h9 := World.ownsMap_made (w.alloc (.cells #[.slice none 0 0] 43)) Tryz.prog 3 (plainElem (H := Unit) Tryz.prog 3)
    rw [World.size_alloc] at h9
    rw [← hw3]
    exact h9.alloc _
  have HC := Lib.hid (ofBody_any v h1 h2 (w.heap.size + 1) lb lo lc gb o gc w3 hm3 (by omega) (by omega) rb (by omega) ((hb3.cell hrb).trans hr) ((hb3.cell hlb).trans hl) ((hb3.cell hgb).trans hc0) ((hb3.cell hgb).trans hc1))
  have HB := Lib.hid hb3
  have P0 := Lib.hid p0
  have P2 := Lib.hid p2
  have d0 := U_cell p0
  have d2 := U_cell p2
  clear hb3 p0 p2 hm3 hr hl hc0 hc1
  go_enter_defers Tryz.func240, Tryz.ntmps240
  go_wp2_with fail
  refine HC.out.mono ?_
  rintro e w4 ⟨rfl, hm4, hB4, hk4⟩
  have hb4 : Below (w.heap.size + 1) w3 w4 := hB4 _ (Nat.le_refl _) (by omega)
  have u0 : U w4 w.heap.size 0 = some (.slice none 0 0) := U_below hb4 _ _ _ (Nat.lt_succ_self _) P0.out
  have u2 : U w4 (w.heap.size + 1 + 1) 0 = some (.map (some (w.heap.size + 1))) := (U_block (hk4 (w.heap.size + 1 + 1) (by omega) (by omega)) 0).trans P2.out
  have a2 := U_cell u2
  have hs4 : w.heap.size + 3 ≤ w4.heap.size := by have := hb4.size; omega
  have HL := Lib.hid (level_any v h1 h2 (w.heap.size + 1) w4 hm4)
  have HB4 := Lib.hid (HB.out.trans (hb4.mono (Nat.le_succ _)))
  have U0 := Lib.hid u0
  clear hm4 hB4 hk4 hb4 u0 u2 HC d0 d2 hw3
  go_wp2_with fail
  refine HL.out.mono ?_
  rintro e w5 ⟨u, rfl, hrow, hb5⟩
  have v0 := U_below hb5 _ _ _ (by omega) U0.out
  have b0 := U_cell v0
  have f0 := U_frozen v0
  obtain ⟨pp, cc, rfl, -, -⟩ := hrow.cap
  have HR := Lib.hid hrow
  have HB5 := Lib.hid (HB4.out.trans (hb5.mono HB4.out.size))
  have c0 := U_cell (U_set_same (v := .slice pp 1 cc) v0)
  clear hrow hb5 v0 HL
  go_wp2
  refine leaves_cons (f := 243) (args := #[.pointer (some ⟨w.heap.size, 0, none⟩)]) (by simp) (by simp [go_sem]) ?_
  refine (catchL_idle _ _).mono ?_
  rintro e u' w'' ⟨rfl, rfl, rfl⟩
  simp [Leaves, settle, results, Tryz.results240, go_sem, c0]
  exact ⟨w4.heap.size + 2, by omega, HR.out.setCell (p := ⟨w.heap.size, 0, none⟩) (by show w.heap.size < w4.heap.size + 2; omega) _, HB5.out.setCell (p := ⟨w.heap.size, 0, none⟩) (Nat.le_refl _) _⟩
set_option maxRecDepth 100000 in
set_option maxHeartbeats 2000000 in
theorem ofL_any (v : Int) (h1 : 0 < v) (h2 : v ≤ 1048576) (lb lo lc gb o gc : Nat) (w : World) (hlb : lb < w.heap.size) (hgb : gb < w.heap.size) (hl : w.cell? ⟨lb, lo, none⟩ = some (.slice (some ⟨gb, o, none⟩) 1 gc))
    (hc0 : w.cell? ⟨gb, o, none⟩ = some (.int .i64 v)) (hc1 : w.cell? ⟨gb, o + 1, none⟩ = some (.int .i64 0)) :
    Calls Tryz.prog 237 #[.slice (some ⟨lb, lo, none⟩) 1 lc] w fun e w' => ∃ u B, e = .returned (.agg #[u]) ∧ w.heap.size ≤ B ∧ RowG w' B 2 77 u 1 (ptDs [(v, 0)]) [] ∧ Below w.heap.size w w' := by
  have hmf : ∀ (fn : Fn) (first cap : Array Value) (w : World), (Instr.makeFunc fn first cap).run Tryz.prog w = .ok (.func fn first cap) w := fun _ _ _ _ => rfl
  obtain ⟨w2, hw2⟩ : ∃ w2, (w.alloc (.cells #[.slice (some ⟨lb, lo, none⟩) 1 lc] 24)).alloc (.cells #[.slice none 0 0] 43) = w2 := ⟨_, rfl⟩
  have hb2 : Below w.heap.size w w2 := by rw [← hw2]; exact below_step (below_alloc _ _) (below_alloc _ _)
  have hs2 : w2.heap.size = w.heap.size + 2 := by rw [← hw2]; simp
  have p0 : U w2 w.heap.size 0 = some (.slice (some ⟨lb, lo, none⟩) 1 lc) := by
    rw [← hw2]
    exact U_below (below_alloc _ _) _ _ _ (by simp) (laid_cell rfl)
  have p1 : U w2 (w.heap.size + 1) 0 = some (.slice none 0 0) := by
    have := laid_cell (w := w.alloc (.cells #[.slice (some ⟨lb, lo, none⟩) 1 lc] 24)) (cs := #[.slice none 0 0]) (ty := 43) (o := 0) rfl
    rw [World.size_alloc, hw2] at this
    exact this
  have HC := Lib.hid (made_any v h1 h2 lb lo lc gb o gc w.heap.size w2 (by omega) (by omega) (by omega) (U_cell p0) ((hb2.cell hlb).trans hl) ((hb2.cell hgb).trans hc0) ((hb2.cell hgb).trans hc1))
  have HB := Lib.hid hb2
  have P1 := Lib.hid p1
  clear hb2 p0 p1 hl hc0 hc1
  go_enter Tryz.func237, Tryz.ntmps237
  go_wp2_with fail
  refine HC.out.mono ?_
  rintro e w5 ⟨u, B, rfl, hB, hrow, hb5⟩
  have v0 := U_below hb5 _ _ _ (by omega) P1.out
  have b0 := U_cell v0
  have f0 := U_frozen v0
  obtain ⟨pp, cc, rfl, -, -⟩ := hrow.cap
  have HR := Lib.hid hrow
  have HB5 := Lib.hid (HB.out.trans (hb5.mono HB.out.size))
  have c0 := U_cell (U_set_same (v := .slice pp 1 cc) v0)
  clear hrow hb5 v0 HC
  go_wp2_with fail
  refine bodyPost_ret (v := .agg #[.slice pp 1 cc]) (by simp [results, Tryz.results237, go_sem, c0]) rfl ⟨_, B, rfl, by omega, HR.out.setCell (p := ⟨w.heap.size + 1, 0, none⟩) (by show w.heap.size + 1 < B; omega) _, HB5.out.setCell (p := ⟨w.heap.size + 1, 0, none⟩) (Nat.le_succ _) _⟩
theorem rd_one {F : Mem} {hi sz : Nat} {u : Value} {x : Ds} (h : Rd F hi u sz x .nil) (hx : x.len = sz) (hsz : 0 < sz) : ∃ b o c, u = .slice (some ⟨b, o, none⟩) 1 c ∧ b < hi ∧ At F hi x b o := by
  obtain ⟨p, n, c, rfl, h1, h2, -, h4, h5⟩ := h
  have hn : n = 1 := by
    rw [hx] at h1
    exact Nat.eq_of_mul_eq_mul_right hsz (by omega)
  subst hn
  rcases h5 with ⟨-, rfl⟩ | ⟨h6, -⟩ | ⟨b, o, rfl, h7, h8, -⟩
  · omega
  · cases h6
  · exact ⟨b, o, c, rfl, h7, h8⟩
theorem k237 (v : Int) (h1 : 0 < v) (h2 : v ≤ 1048576) : HH 237 [.c (.row none 1 43 (lvDs ty [varL v]) .nil)] (lvA (varL v)) := by
  refine ⟨code_of Tryz.func237 (by decide) rfl, rfl, fun F w vs hF hG hv => ?_⟩
  obtain ⟨u, rfl, h3⟩ := list1 hv
  obtain ⟨-, v1, _, e1, h4, -, -⟩ := h3
  cases e1
  obtain ⟨lb, lo, lc, rfl, hlb, hat⟩ := rd_one h4 rfl (by decide)
  obtain ⟨⟨v2, g1, g2⟩, -⟩ := At_row.1 hat
  obtain ⟨gb, o, gc, rfl, hgb, hat2⟩ := rd_one g2 rfl (by decide)
  obtain ⟨q1, q2, -⟩ := hat2
  refine (ofL_any v h1 h2 lb lo lc gb o gc w hlb hgb (U_cell (hF _ _ _ g1)) (U_cell (hF _ _ _ q1)) (U_cell (hF _ _ _ q2))).mono ?_
  rintro e w' ⟨u, B, rfl, hB, hrow, hb⟩
  obtain ⟨v', _, e2, h8, -⟩ := Vs.res (F := F) (fp := fun _ => []) hB hrow.own
  cases e2
  exact ⟨_, fun _ => [], rfl, hb, ⟨[u], rfl, ptDs_good _, u, [], rfl, h8, Gh.Ow_none, rfl⟩, fun k b hb => (by cases hb), fun k k' b hb => (by cases hb)⟩
end Go.Proofs.YtkcmapimcgppmaaGreatDoor
end
section
namespace Go.Proofs.YtkcmapimcgppmaaGreatDoor
open Go.RowKit
attribute [local simp] ty_p ty_l ty_t kH tDs lvDs Tm.ts finH elemH ac_skip ac_label ac_region ac_seq ac_cond ac_block ac_loop ac_exit ac_ret seqK_n seqK_r seqK_e vo_nil vo_cons blkK loopK callOf vout aout abuiltin aslice ev startSt nmOf St.out putE updo upd contOf freshC K0 asC fillD fieldOf rowD astore aapp srcOf elsOf tb Dc.tk Dc.dp Dc.over Dc.app Dc.ln Dc.ds Dc.sing Dc.cont AV.cont Ds.hd Value.oneCell' retK resOf one1 AV.imp Dc.imp φOf calleeOf AV.isLL AV.list AV.app AV.arg AV.isL AV.ren Dc.ren Dc.lent tmC tmA tsA iA lo? abin AV.nth Dc.own Dc.toks stOf envOf bxOf τOf
attribute [local simp] AV.room amake agC lentAgC Ds.len Ds.dp

theorem k234 (v : Int) (h1 : 0 < v) (h2 : v ≤ 1048576) : HH 234 [iA v, iA 0] (lvA (varL v)) := by
  refine ab Tryz.func234 Tryz.ntmps234 Tryz.results234 rfl (by decide) (by simp) rfl rfl ?_
  simp
  refine asks (k237 v h1 h2) ?_ ?_ ?_ <;> simp [lvA, varL, ptDs]
  exact ⟨[], by simp⟩
theorem k222 (v : Int) (h1 : 0 < v) (h2 : v ≤ 1048576) : HH 222 [iA v] (lvA (varL v)) := by
  refine ab Tryz.func222 Tryz.ntmps222 Tryz.results222 rfl (by decide) (by simp) rfl rfl ?_
  simp
  refine asks (k234 v h1 h2) ?_ ?_ ?_ <;> simp [lvA]
  exact ⟨[], by simp⟩
end Go.Proofs.YtkcmapimcgppmaaGreatDoor
end
section
namespace Go.Proofs.YtkcmapimcgppmaaGreatDoor
open Go.RowKit
attribute [local simp] ty_p ty_l ty_t kH tDs lvDs Tm.ts finH elemH ac_skip ac_label ac_region ac_seq ac_cond ac_block ac_loop ac_exit ac_ret seqK_n seqK_r seqK_e vo_nil vo_cons blkK loopK callOf vout aout abuiltin aslice ev startSt nmOf St.out putE updo upd contOf freshC K0 asC fillD fieldOf rowD astore aapp srcOf elsOf tb Dc.tk Dc.dp Dc.over Dc.app Dc.ln Dc.ds Dc.sing Dc.cont AV.cont Ds.hd Value.oneCell' retK resOf one1 AV.imp Dc.imp φOf calleeOf AV.isLL AV.list AV.app AV.arg AV.isL AV.ren Dc.ren Dc.lent tmC tmA tsA iA lo? abin AV.nth Dc.own Dc.toks stOf envOf bxOf τOf
attribute [local simp] AV.room amake agC lentAgC Ds.len Ds.dp

/-- Level variables, from 1 on. -/
def ownL (n : Nat) : List Lv := (List.range n).map fun i : Nat => varL ((i : Int) + 1)
theorem ownL_succ (n : Nat) : ownL (n + 1) = ownL n ++ [varL ((n : Int) + 1)] := by simp [ownL, List.range_succ]
theorem ownL_len (n : Nat) : (ownL n).length = n := by simp [ownL]
theorem lvSize_app (a b : List Lv) : lvSize (a ++ b) = lvSize a + lvSize b := by
  induction a with
  | nil => simp [lvSize]
  | cons p r ih => simp only [List.cons_append, lvSize, ih]; omega
theorem ownL_size (n : Nat) : lvSize (ownL n) = 2 * n := by
  induction n with
  | zero => rfl
  | succ n ih => rw [ownL_succ, lvSize_app, ih]; simp [lvSize, varL]; omega
theorem ownL_fits (n : Nat) (hn : n ≤ 1000000) : ∀ p ∈ ownL n, ∀ q ∈ p, (-9223372036854775808 ≤ q.1 ∧ q.1 ≤ 9223372036854775807) ∧ (-9223372036854775808 ≤ q.2 ∧ q.2 ≤ 9223372036854775807) := by
  intro p hp q hq
  simp only [ownL, List.mem_map, List.mem_range] at hp
  obtain ⟨i, hi, rfl⟩ := hp
  simp only [varL, List.mem_singleton] at hq
  subst hq
  simp only
  omega
abbrev fW (n : Int) : Prop := -9223372036854775808 ≤ n ∧ n ≤ 9223372036854775807
theorem hd_fits {k n a : Int} {l : List Lv} (hk : 0 ≤ k ∧ k ≤ 100) (hn : fW n) (ha : 0 ≤ a ∧ a ≤ 1000000000) (hl : ∀ p ∈ l, ∀ q ∈ p, (-9223372036854775808 ≤ q.1 ∧ q.1 ≤ 9223372036854775807) ∧ (-9223372036854775808 ≤ q.2 ∧ q.2 ≤ 9223372036854775807)) : Hd.fits ⟨k, n, a, l⟩ :=
  ⟨⟨by show -9223372036854775808 ≤ k; omega, by show k ≤ 9223372036854775807; omega⟩, hn, ⟨by show -9223372036854775808 ≤ a; omega, by show a ≤ 9223372036854775807; omega⟩, hl⟩
def lsA (l : List Lv) : AV := .c (.row none 1 43 (lvDs ty l) .nil)
def st178 (n k : Nat) : St := stOf [(2, .c (.blk 15 (k + 1) 1 43 (.seg none (lvDs ty (ownL k)) .nil) .nil)), (5, iA n), (6, iA k)] [] [(15, k + 1)]
theorem k178 (n : Int) (hn : n ≤ 1000000) : HH 178 [iA n] (lsA (ownL n.toNat)) := by
  refine ab Tryz.func178 Tryz.ntmps178 Tryz.results178 rfl (by decide) (by simp) rfl rfl ?_
  have e0 : (if (0 : Int) > n then 0 else n) = (n.toNat : Int) := by split <;> omega
  simp only [gt_iff_lt] at e0
  generalize hm : n.toNat = m at *
  have hm2 : m ≤ 1000000 := by omega
  simp [e0]
  refine lp (α := { k : Nat // k ≤ m }) (fun k => st178 m k.1) (fun k => m - k.1) ⟨0, Nat.zero_le _⟩ ?_ ?_
  · refine le_of [((15, 0), [(15, 0)])] ?_ ?_ ?_ <;> simp [AV.ok, Dc.ok, ownL]
  · rintro ⟨k, hk⟩
    have hw : IntKind.i64.wrap ((k : Int) + 1) = k + 1 := by rw [IntKind.wrap_i64]; omega
    by_cases hlt : k < m
    · simp [st178, hlt, hw]
      refine asks (k222 ((k : Int) + 1) (by omega) (by omega)) ?_ ?_ ?_ <;> simp [lvA]
      refine ⟨by rw [lvDs_len, ownL_len]; omega, k + 1, by omega, by omega, ?_⟩
      refine le_of [((15, 0), [(15, 0)])] ?_ ?_ ?_ <;> simp [AV.ok, Dc.ok, hw, ownL_succ]
      rw [lvDs_app]; rfl
    · obtain rfl : k = m := by omega
      simp [st178, Ds.app_nil]
      exact ⟨[], by simp [lsA, Ds.app_nil]⟩
def st180 (n : Int) (k : Nat) : St := stOf [(0, iA n), (3, .c (.blk 15 (k + 1) 1 43 (.seg none (lvDs ty (ownL k)) .nil) .nil)), (4, iA ((k : Int) + 1))] [] [(15, k + 1)]
theorem k180 (n : Int) (hn : n ≤ 1000000) : HH 180 [iA n] (lsA (ownL n.toNat)) := by
  refine ab Tryz.func180 Tryz.ntmps180 Tryz.results180 rfl (by decide) (by simp) rfl rfl ?_
  generalize hm : n.toNat = m at *
  simp
  refine lp (α := { k : Nat // k ≤ m }) (fun k => st180 n k.1) (fun k => m - k.1) ⟨0, Nat.zero_le _⟩ ?_ ?_
  · refine le_of [((15, 0), [(15, 0)])] ?_ ?_ ?_ <;> simp [AV.ok, Dc.ok, ownL]
  · rintro ⟨k, hk⟩
    have hw : IntKind.i64.wrap ((k : Int) + 1 + 1) = (k : Int) + 1 + 1 := by rw [IntKind.wrap_i64]; omega
    by_cases hlt : (k : Int) + 1 ≤ n
    · simp [st180, hlt, hw]
      refine asks (k223 ((k : Int) + 1) (by omega) (by omega)) ?_ ?_ ?_ <;> simp [lvA]
      refine ⟨by rw [lvDs_len, ownL_len]; omega, k + 1, by omega, by omega, ?_⟩
      refine le_of [((15, 0), [(15, 0)])] ?_ ?_ ?_ <;> simp [AV.ok, Dc.ok, hw, ownL_succ]
      rw [lvDs_app]; rfl
    · obtain rfl : k = m := by omega
      simp [st180, hlt, Ds.app_nil]
      exact ⟨[], by simp [lsA, Ds.app_nil]⟩
/-- A constant at a block's params. -/
def constT (d : Dl) (num far : Int) : Tm := appsT ⟨⟨3, num, 0, ownL d.lv.toNat⟩, .nil⟩ (varsT far d.p.len)
theorem k98 (d : Dl) (num far : Int) (hl : d.lv ≤ 1000) (hp : d.p.size ≤ 100000) (hn : fW num) : HH 98 [dlL d, iA num, iA far] (tmL (constT d num far)) := by
  have hpl : d.p.len ≤ 100000 := Nat.le_trans (len_le_size d.p) hp
  have d0 : d.p.len * 5 / 5 = d.p.len := by omega
  have hf : Tm.fits ⟨⟨3, num, 0, ownL d.lv.toNat⟩, .nil⟩ := ⟨hd_fits (by decide) hn (by decide) (ownL_fits _ (by omega)), trivial⟩
  have hs : Tm.size ⟨⟨3, num, 0, ownL d.lv.toNat⟩, .nil⟩ ≤ 1000000 := by simp only [Tm.size, ownL_size, Ts.size]; omega
  refine ab Tryz.func98 Tryz.ntmps98 Tryz.results98 rfl (by decide) (by simp) rfl rfl ?_
  simp [dlL, dlC]
  refine ⟨by kernel_rfl, ?_⟩
  refine asks (k178 d.lv (by omega)) ?_ ?_ ?_ <;> simp [lsA, tDs_len, d0]
  refine asks (k110f d.p.len far hpl) ?_ ?_ ?_ <;> simp
  refine asks (k95 _ (varsT far d.p.len) hf hs (varsF_fits far _) (by rw [varsF_size]; omega)) ?_ ?_ ?_ <;> simp [constT]
  exact ⟨[], by simp⟩
theorem k99 (d : Dl) (num far : Int) (hl : d.lv ≤ 1000) (hp : d.p.size ≤ 100000) (hn : fW num) : HH 99 [dlL d, iA num, iA far] (tmL (constT d num far)) := by
  have hpl : d.p.len ≤ 100000 := Nat.le_trans (len_le_size d.p) hp
  have d0 : d.p.len * 5 / 5 = d.p.len := by omega
  have hf : Tm.fits ⟨⟨3, num, 0, ownL d.lv.toNat⟩, .nil⟩ := ⟨hd_fits (by decide) hn (by decide) (ownL_fits _ (by omega)), trivial⟩
  have hs : Tm.size ⟨⟨3, num, 0, ownL d.lv.toNat⟩, .nil⟩ ≤ 1000000 := by simp only [Tm.size, ownL_size, Ts.size]; omega
  refine ab Tryz.func99 Tryz.ntmps99 Tryz.results99 rfl (by decide) (by simp) rfl rfl ?_
  simp [dlL, dlC]
  refine ⟨by kernel_rfl, ?_⟩
  refine asks (k180 d.lv (by omega)) ?_ ?_ ?_ <;> simp [lsA, tDs_len, d0]
  refine asks (k117f d.p.len far hpl) ?_ ?_ ?_ <;> simp
  refine asks (k179 _ (varsT far d.p.len) hf hs (varsF_fits far _) (by rw [varsF_size]; omega)) ?_ ?_ ?_ <;> simp [constT]
  exact ⟨[], by simp⟩
theorem constT_fits (d : Dl) (num far : Int) (hl : d.lv ≤ 1000) (hn : fW num) : (constT d num far).fits :=
  appsT_fits _ _ ⟨hd_fits (by decide) hn (by decide) (ownL_fits _ (by omega)), trivial⟩ (varsF_fits far _)
theorem constT_size (d : Dl) (num far : Int) (hl : d.lv ≤ 1000) : (constT d num far).size ≤ 2000 + 2 * d.p.size := by
  have := appsT_size (varsT far d.p.len) ⟨⟨3, num, 0, ownL d.lv.toNat⟩, .nil⟩
  have e : Tm.size ⟨⟨3, num, 0, ownL d.lv.toNat⟩, .nil⟩ = 2 * d.lv.toNat := by simp only [Tm.size, ownL_size, Ts.size]; omega
  rw [e, varsF_size] at this
  have h2 := len_le_size d.p
  unfold constT
  omega
end Go.Proofs.YtkcmapimcgppmaaGreatDoor
end
